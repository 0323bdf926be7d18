/-
  Contracts: any data: the reference's Check, the law's own.
-/
import Derived.Test.YtimknijehaamlaaDoorSwE20
set_option linter.unusedSimpArgs false
set_option linter.unusedVariables false
namespace Go.Proofs.YtimknijehaamlaaDoor
open Go Go.AH Go.Lin
set_option maxRecDepth 100000
set_option maxHeartbeats 1000000

/-- A pair that is wrong, or not above the one ahead of it. -/
def badP (n : Int) (p q : Int × Int) (f : Bool) : Bool :=
  decide (p.1 < 0) || decide (p.2 ≤ p.1) || decide (n ≤ p.2) || (f && (decide (p.1 < q.1) || (decide (q.1 = p.1) && decide (p.2 ≤ q.2))))
def badE (n : Int) (es : List (Int × Int)) (i : Nat) : Bool := badP n (es.getD i (0, 0)) (es.getD (i - 1) (0, 0)) (decide (0 < (i : Int)))
/-- What is wrong with data. -/
def chkE (n : Int) (es : List (Int × Int)) : Int := if n < 1 ∨ 16 < n then 1 else if (List.range es.length).any (badE n es) then 40 else 0
theorem chk_bad {n : Int} {es : List (Int × Int)} (h1 : ¬ n < 1) (h2 : ¬ 16 < n) {i : Nat} (hi : i < es.length) (hb : badE n es i = true) : chkE n es = 40 := by
  rw [chkE, if_neg (by omega), if_pos (List.any_eq_true.2 ⟨i, List.mem_range.2 hi, hb⟩)]
theorem chk_good {n : Int} {es : List (Int × Int)} (h1 : ¬ n < 1) (h2 : ¬ 16 < n) (h : ∀ j, j < es.length → badE n es j = false) : chkE n es = 0 := by
  rw [chkE, if_neg (by omega), if_neg]
  rw [List.any_eq_true]
  rintro ⟨j, hj, hb⟩
  rw [h j (List.mem_range.1 hj)] at hb
  cases hb
theorem refCheck_spec (n : Int) (es : List (Int × Int)) (hl : es.length ≤ 1000) : FDet Tryd.prog 49 [.c (.int .i64 n), .c (.rs 0 0 es.length)] [(0, .ro (ints (flI es)))] 1 (.c (.int .i64 (chkE n es))) [] 1 := by
  have hfl : (ints (flI es)).length = es.length * 2 := by rw [ints_len, flI_len]
  refine FSpec.body2 tok true Tryd.func49 ?_
  refine Wk.on ?_
  by_cases h1 : n < 1
  · rw [decide_eq_true h1]
    refine Wk.on ?_
    exact AH.Fin.nil2 ⟨by rw [chkE, if_pos (.inl h1)]; rfl, rfl, rfl⟩
  rw [decide_eq_false h1]
  refine Wk.on ?_
  by_cases h2 : 16 < n
  · rw [decide_eq_true h2]
    refine Wk.on ?_
    exact AH.Fin.nil2 ⟨by rw [chkE, if_pos (.inr h2)]; rfl, rfl, rfl⟩
  rw [decide_eq_false h2]
  refine Wk.on ?_
  refine Tr.loop (md := true) (X := Nat) (st := fun i => ⟨[(0, .c (.int .i64 n)), (1, .c (.rs 0 0 es.length)), (5, .c (.int .i64 i))], [(0, .ro (ints (flI es)))], 1, 76, 1⟩) (inv := fun i => i ≤ es.length ∧ ∀ j, j < i → badE n es j = false) (μ := fun i => es.length - i) (x0 := 0) (l := []) tok ⟨by omega, fun j hj => by omega⟩ ?_ ?_
  · exact Sub.nil ⟨rfl, rfl, (by simp [tab64_LL, pC, castL, prs]), rfl, (by simp [tupA, hpLt, tmLt, AV.lt, AE.lt, AC.lt, LL_cons, LL_nil, idOk, ABlk.lt, ints_LL, GB, tab64_LL, pC, castL, prs]), (by simp [tupA, hpLt, tmLt, AV.lt, AE.lt, AC.lt, LL_cons, LL_nil, idOk, ABlk.lt, ints_LL, GB, tab64_LL, pC, castL, prs])⟩ (by (repeat (first | exact trivial | refine ⟨trivial, ?_⟩ | refine ⟨rfl, ?_⟩))) (by (repeat (first | exact trivial | refine ⟨trivial, ?_⟩ | refine ⟨rfl, ?_⟩)))
  rintro i ⟨hi, hall⟩
  by_cases hil : i < es.length
  · obtain ⟨a, ha⟩ : ∃ a, a = (es.getD i (0, 0)).1 := ⟨_, rfl⟩
    obtain ⟨b, hb⟩ : ∃ b, b = (es.getD i (0, 0)).2 := ⟨_, rfl⟩
    obtain ⟨c, hc⟩ : ∃ c, c = (es.getD (i - 1) (0, 0)).1 := ⟨_, rfl⟩
    obtain ⟨d, hd⟩ : ∃ d, d = (es.getD (i - 1) (0, 0)).2 := ⟨_, rfl⟩
    have hbe : badE n es i = (decide (a < 0) || decide (b ≤ a) || decide (n ≤ b) || (decide (0 < (i : Int)) && (decide (a < c) || (decide (c = a) && decide (b ≤ d))))) := by
      rw [ha, hb, hc, hd]; rfl
    have hyes : badE n es i = true → chkE n es = 40 := chk_bad h1 h2 hil
    have hnx : badE n es i = false → ∀ j, j < i + 1 → badE n es j = false := fun h j hj => by
      by_cases e1 : j = i
      · rw [e1]; exact h
      · exact hall j (by omega)
    refine Wk.on ?_
    rw [decide_eq_true (show ((i : Nat) : Int) < ((es.length : Nat) : Int) by omega)]
    refine Wk.on ?_
    refine Tr.draw (md := true) [⟨[], [21, 25, 26, 27, 28, 29], [], [], []⟩, ⟨[], [20, 25, 26, 27, 28, 29], [0], [], []⟩, ⟨[0, 1], [25, 26, 27, 28, 29], [], [], []⟩, ⟨[0, 1, 2], [25, 26, 27, 28, 29], [], [], []⟩, ⟨[0, 1, 2, 3], [25, 26, 27, 28, 29], [], [], []⟩, ⟨[], [6, 20, 21, 22, 23, 24, 26], [0, 1, 2, 3, 4], [], []⟩, ⟨[], [6, 20, 21, 22, 23, 24, 25], [0, 1, 2, 3, 4, 5], [], []⟩, ⟨[5, 6], [6, 20, 21, 22, 23, 24], [0, 1, 2, 3, 4], [], []⟩, ⟨[5, 6, 7], [6, 20, 21, 22, 23, 24], [0, 1, 2, 3, 4], [], []⟩, ⟨[5, 6, 7, 8], [6, 20, 21, 22, 23, 24], [0, 1, 2, 3, 4], [], []⟩, ⟨[0, 1, 2, 3, 4], [25, 26, 27, 28, 29], [5, 6, 7, 8, 9], [], []⟩] tok (by kernel_rfl) (by kernel_rfl) ?_
    refine Wk.on ?_
    simp only [Int.toNat_natCast]
    rw [wgetI0, ← ha]
    refine Wk.on ?_
    simp only [Int.toNat_natCast]
    rw [wgetI1, ← hb]
    refine Wk.on ?_
    by_cases c1 : a < 0
    · rw [decide_eq_true c1]
      refine Wk.on ?_
      exact AH.Fin.nil2 ⟨by rw [hyes (by rw [hbe, decide_eq_true c1]; rfl)]; rfl, rfl, rfl⟩
    rw [decide_eq_false c1] at hbe ⊢
    refine Wk.on ?_
    by_cases c2 : b ≤ a
    · rw [decide_eq_true c2]
      refine Wk.on ?_
      exact AH.Fin.nil2 ⟨by rw [hyes (by rw [hbe, decide_eq_true c2]; rfl)]; rfl, rfl, rfl⟩
    rw [decide_eq_false c2] at hbe ⊢
    refine Wk.on ?_
    by_cases c3 : n ≤ b
    · rw [decide_eq_true c3]
      refine Wk.on ?_
      exact AH.Fin.nil2 ⟨by rw [hyes (by rw [hbe, decide_eq_true c3]; rfl)]; rfl, rfl, rfl⟩
    rw [decide_eq_false c3] at hbe ⊢
    refine Wk.on ?_
    by_cases c4 : (0 : Int) < (i : Int)
    · rw [decide_eq_true c4] at hbe ⊢
      have hi1 : Int.toNat ((i : Int) - 1) = i - 1 := by omega
      refine Wk.on ?_
      rw [hi1, wgetI0, ← hc]
      refine Wk.on ?_
      by_cases c5 : a < c
      · rw [decide_eq_true c5]
        refine Wk.on ?_
        exact AH.Fin.nil2 ⟨by rw [hyes (by rw [hbe, decide_eq_true c5]; rfl)]; rfl, rfl, rfl⟩
      rw [decide_eq_false c5] at hbe ⊢
      refine Wk.on ?_
      rw [hi1, wgetI0, ← hc]
      refine Wk.on ?_
      by_cases c6 : c = a
      · rw [decide_eq_true c6] at hbe ⊢
        refine Wk.on ?_
        rw [hi1, wgetI1, ← hd]
        refine Wk.on ?_
        by_cases c7 : b ≤ d
        · rw [decide_eq_true c7]
          refine Wk.on ?_
          exact AH.Fin.nil2 ⟨by rw [hyes (by rw [hbe, decide_eq_true c7]; rfl)]; rfl, rfl, rfl⟩
        rw [decide_eq_false c7] at hbe ⊢
        refine Wk.on ?_
        refine Again.mk (i + 1) (Sub.nil ⟨rfl, rfl, (by simp [tab64_LL, pC, castL, prs]), rfl, (by simp [tupA, hpLt, tmLt, AV.lt, AE.lt, AC.lt, LL_cons, LL_nil, idOk, ABlk.lt, ints_LL, GB, tab64_LL, pC, castL, prs]), (by simp [tupA, hpLt, tmLt, AV.lt, AE.lt, AC.lt, LL_cons, LL_nil, idOk, ABlk.lt, ints_LL, GB, tab64_LL, pC, castL, prs])⟩ (by (repeat (first | exact trivial | refine ⟨trivial, ?_⟩ | refine ⟨rfl, ?_⟩))) (by (repeat (first | exact trivial | refine ⟨trivial, ?_⟩ | refine ⟨rfl, ?_⟩)))) (⟨by omega, hnx hbe⟩) (by omega)
      · rw [decide_eq_false c6] at hbe ⊢
        refine Wk.on ?_
        refine Again.mk (i + 1) (Sub.nil ⟨rfl, rfl, (by simp [tab64_LL, pC, castL, prs]), rfl, (by simp [tupA, hpLt, tmLt, AV.lt, AE.lt, AC.lt, LL_cons, LL_nil, idOk, ABlk.lt, ints_LL, GB, tab64_LL, pC, castL, prs]), (by simp [tupA, hpLt, tmLt, AV.lt, AE.lt, AC.lt, LL_cons, LL_nil, idOk, ABlk.lt, ints_LL, GB, tab64_LL, pC, castL, prs])⟩ (by (repeat (first | exact trivial | refine ⟨trivial, ?_⟩ | refine ⟨rfl, ?_⟩))) (by (repeat (first | exact trivial | refine ⟨trivial, ?_⟩ | refine ⟨rfl, ?_⟩)))) (⟨by omega, hnx hbe⟩) (by omega)
    · rw [decide_eq_false c4] at hbe ⊢
      refine Wk.on ?_
      refine Again.mk (i + 1) (Sub.nil ⟨rfl, rfl, (by simp [tab64_LL, pC, castL, prs]), rfl, (by simp [tupA, hpLt, tmLt, AV.lt, AE.lt, AC.lt, LL_cons, LL_nil, idOk, ABlk.lt, ints_LL, GB, tab64_LL, pC, castL, prs]), (by simp [tupA, hpLt, tmLt, AV.lt, AE.lt, AC.lt, LL_cons, LL_nil, idOk, ABlk.lt, ints_LL, GB, tab64_LL, pC, castL, prs])⟩ (by (repeat (first | exact trivial | refine ⟨trivial, ?_⟩ | refine ⟨rfl, ?_⟩))) (by (repeat (first | exact trivial | refine ⟨trivial, ?_⟩ | refine ⟨rfl, ?_⟩)))) (⟨by omega, hnx hbe⟩) (by omega)
  · obtain rfl : i = es.length := by omega
    refine Wk.on ?_
    rw [decide_eq_false (show ¬ ((es.length : Nat) : Int) < ((es.length : Nat) : Int) by omega)]
    refine Wk.on ?_
    intro _
    refine Wk.on ?_
    exact AH.Fin.nil2 ⟨by rw [chk_good h1 h2 hall]; rfl, rfl, rfl⟩
theorem flI_take (B : List (Int × Int)) (k : Nat) : (flI B).take (k * 2) = flI (B.take k) := by
  induction B generalizing k with
  | nil => simp [flI]
  | cons w ws ih =>
    cases k with
    | zero => simp [flI]
    | succ k =>
      have := ih k
      simp only [flI, List.flatMap_cons, List.cons_append, List.nil_append, List.take_succ_cons] at this ⊢
      rw [show (k + 1) * 2 = k * 2 + 1 + 1 by omega, List.take_succ_cons, List.take_succ_cons, this]
theorem oown_rs (es : List (Int × Int)) (h0 : 0 < es.length) (h1 : es.length ≤ 9223372036854775807) : FDet Tryd.prog 37 [.c (.rs 0 0 es.length)] [(0, .ro (ints (flI es)))] 1 (.c (.rs 1 0 (es.take 130).length)) [(1, .row 38 2 (ints (flI (es.take 130))))] 2 := by
  have hl : (ints (flI es)).length = es.length * 2 := by rw [ints_len, flI_len]
  obtain ⟨m, hm⟩ : ∃ m, m = min es.length 130 := ⟨_, rfl⟩
  have hml : (es.take 130).length = m := by rw [List.length_take, hm]; omega
  have hft : (ints (flI es)).take (m * 2) = ints (flI (es.take 130)) := by
    rw [ints, ← List.map_take, flI_take, hm, ints]
    congr 2
    by_cases e : es.length ≤ 130
    · rw [Nat.min_eq_left e, List.take_of_length_le (Nat.le_refl _), List.take_of_length_le e]
    · rw [Nat.min_eq_right (by omega)]
  rw [hml]
  have key : FDet Tryd.prog 37 [.c (.rs 0 0 es.length)] [(0, .ro (ints (flI es)))] 1 (.c (.row 1 m)) [(1, .row 38 2 (ints (flI (es.take 130))))] 2 := by
    have hmn : min ((es.length : Nat) : Int) 130 = (m : Int) := by omega
    have hm2 : m ≤ es.length := by omega
    have hm3 : m ≤ 130 := by omega
    have hm4 : 0 < m := by omega
    refine FSpec.body2 tok true Tryd.func37 ?_
    refine Wk.on ?_
    rw [hmn]
    refine ⟨⟨Int.le_refl 0, by show (0 : Int) ≤ (m : Int); omega, .inl (by show (m : Int) ≤ es.length; omega)⟩, ?_⟩
    refine Wk.on ?_
    refine ⟨by rw [hl]; show 0 + 0 * 2 + (Int.toNat (m : Int) - 0) * 2 ≤ _; omega, ?_⟩
    rw [show (Int.toNat ((some ((m : Nat) : Int)).getD ((es.length : Nat) : Int)) - Int.toNat ((none : Option Int).getD 0)) = m by show Int.toNat (m : Int) - 0 = _; omega]
    refine Wk.on ?_
    refine ⟨⟨Nat.le_of_ble_eq_true rfl, by show (m : Int) * 16 ≤ _; omega, by omega⟩, ?_⟩
    refine ⟨fun h => absurd h (by omega), fun _ => ?_⟩
    refine Wk.on ?_
    exact AH.Fin.new [1] _ _ ⟨rfl, rfl, rfl⟩ rfl ⟨by show some (ABlk.row 38 2 (((ints (flI es)).drop (0 + 0 * 2)).take (m * 2))) = some (ABlk.row 38 2 ((ints _).map _)); rw [ints_ren, Nat.zero_mul, Nat.add_zero, List.drop_zero, hft], trivial⟩ rfl (by simp [tupA, hpLt, tmLt, AV.lt, AE.lt, AC.lt, LL_cons, LL_nil, idOk, ABlk.lt, ints_LL, GB, tab64_LL, pC, castL, prs]) (by simp [tupA, hpLt, tmLt, AV.lt, AE.lt, AC.lt, LL_cons, LL_nil, idOk, ABlk.lt, ints_LL, GB, tab64_LL, pC, castL, prs])
  exact FDet.post key _ _ ⟨⟨rfl, rfl, rfl⟩, trivial⟩ ⟨⟨⟨rfl, rfl⟩, .inl rfl⟩, trivial⟩ (by simp [tupA, hpLt, tmLt, AV.lt, AE.lt, AC.lt, LL_cons, LL_nil, idOk, ABlk.lt, ints_LL, GB, tab64_LL, pC, castL, prs]) (by simp [tupA, hpLt, tmLt, AV.lt, AE.lt, AC.lt, LL_cons, LL_nil, idOk, ABlk.lt, ints_LL, GB, tab64_LL, pC, castL, prs]) rfl
theorem oown_ns : FDet Tryd.prog 37 [.c (.rs 0 0 0)] [(0, .ro [])] 1 (.c (.rs 0 0 0)) [] 1 := by
  have key : FDet Tryd.prog 37 [.c (.rs 0 0 0)] [(0, .ro [])] 1 (.c .nils) [] 1 := by
    refine FSpec.body2 tok true Tryd.func37 ?_
    refine Wk.on ?_
    exact AH.Fin.nil2 ⟨rfl, rfl, rfl⟩
  exact FDet.post key _ _ rfl trivial (by simp [tupA, hpLt, tmLt, AV.lt, AE.lt, AC.lt, LL_cons, LL_nil, idOk, ABlk.lt, ints_LL, GB, tab64_LL, pC, castL, prs]) (by simp [tupA, hpLt, tmLt, AV.lt, AE.lt, AC.lt, LL_cons, LL_nil, idOk, ABlk.lt, ints_LL, GB, tab64_LL, pC, castL, prs]) rfl
end Go.Proofs.YtimknijehaamlaaDoor
