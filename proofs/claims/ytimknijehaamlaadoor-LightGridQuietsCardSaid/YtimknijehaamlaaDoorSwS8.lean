/-
  Contracts: the law's polynomials: shifted, polynomial.
-/
import Derived.Test.YtimknijehaamlaaDoorSwS7
set_option linter.unusedSimpArgs false
set_option linter.unusedVariables false
namespace Go.Proofs.YtimknijehaamlaaDoor
open Go Go.AH Go.Lin
set_option maxRecDepth 100000
set_option maxHeartbeats 1000000

/-- x + 1 in the place of x: m coefficients, from the greatest on. -/
def hD (y : Nat) : Nat → Nat
  | 0 => 0
  | m + 1 => Nat.xor (Nat.xor (hD y m) (Nat.shiftLeft (hD y m) 1)) (cond (y.testBit (200 - m)) 1 0)
def hG (o : Nat) (j : Nat) : Bool := (o ^^^ (o <<< 1)).testBit j
theorem hG_zero (o : Nat) : bI (hG o) 0 = bI (fun j => o.testBit j) 0 := by
  rw [bI_val, bI_val, hG, Nat.testBit_xor, Nat.testBit_shiftLeft]; simp
theorem hG_succ (o j : Nat) : (bI (fun j => o.testBit j) (j + 1) + bI (fun j => o.testBit j) j) % 2 = bI (hG o) (j + 1) := by
  rw [bI_val, bI_val, bI_val, hG, Nat.testBit_xor, Nat.testBit_shiftLeft, decide_eq_true (show j + 1 ≥ 1 by omega), Nat.add_sub_cancel, Bool.true_and]
  cases o.testBit (j + 1) <;> cases o.testBit j <;> rfl
theorem hD_succ (y m : Nat) : (coL (hG (hD y m)) 201).set 0 ((bI (hG (hD y m)) 0 + bI (fun j => y.testBit j) (200 - m)) % 2) = cN (hD y (m + 1)) := by
  have e1 : ∀ j, (hD y (m + 1)).testBit j = (hG (hD y m) j != (cond (y.testBit (200 - m)) 1 0 : Nat).testBit j) := fun j => by
    rw [show hD y (m + 1) = (hD y m ^^^ (hD y m <<< 1)) ^^^ (cond (y.testBit (200 - m)) 1 0) from rfl, Nat.testBit_xor]; rfl
  have e2 : (bI (hG (hD y m)) 0 + bI (fun j => y.testBit j) (200 - m)) % 2 = bI (fun j => (hD y (m + 1)).testBit j) 0 := by
    rw [bI_val, bI_val, bI_val, e1]
    cases hG (hD y m) 0 <;> cases y.testBit (200 - m) <;> rfl
  rw [e2]
  refine coL_set fun j hj => ?_
  rw [e1]
  cases y.testBit (200 - m)
  · simp
  · have : (1 : Nat).testBit j = false := by
      refine Nat.testBit_lt_two_pow ?_
      have : 2 ^ 1 ≤ 2 ^ j := Nat.pow_le_pow_right (by omega) (by omega)
      omega
    simp [this]
theorem cN_zero : List.replicate 201 (0 : Int) = cN 0 := by
  rw [cN, coL]
  have : bI (fun j => (0 : Nat).testBit j) = fun _ => 0 := by funext j; rw [bI_val]; simp
  rw [this, tabL_all]
theorem iget00 (T : List Int) : (ints T).getD (0 + Int.toNat 0 * 1) (.int .i64 0) = .int .i64 (T.getD 0 0) := ints_getD T 0 0
theorem iset00 (T : List Int) (v : Int) : (ints T).set (0 + Int.toNat 0 * 1) (.int .i64 v) = ints (T.set 0 v) := iset T 0 v
theorem shifted_spec (y : Nat) : FDet Tryd.prog 33 [.c (.rs 0 0 201)] [(0, .ro (ints (cN y)))] 1 (.c (.sl 1 0 201 (some 201))) [(1, .own (ints (cN (hD y 201))))] 2 := by
  have cl : ∀ z, (ints (cN z)).length = 201 := fun z => by rw [ints_len, cN_len]
  have cly := cl y
  have hrep : rep 201 [.int .i64 0] = ints (cN 0) := by rw [rep_ints, cN_zero]
  have hmk : ∀ x : Nat, x < GB → (x < GB ∧ 0 < 1 ∧ [AC.int .i64 0].length = 1 ∧ (0 : Int) ≤ 201 ∧ (201 : Int) = 201 ∧ ((8 : Nat) : Int) * (201 : Int) ≤ 281474976710656 ∧ (201 : Int) ≤ 9223372036854775807) := fun x hx => ⟨hx, by omega, rfl, by omega, rfl, by omega, by omega⟩
  refine FSpec.body2 tok true Tryd.func33 ?_
  refine Wk.on ?_
  refine ⟨hmk _ (Nat.le_of_ble_eq_true rfl), ?_⟩
  refine Wk.on ?_
  refine Tr.loop (md := true) (X := Nat) (st := fun m => ⟨[(0, .c (.rs 0 0 201)), (3, .c (.sl 1 0 201 (some 201))), (4, .c (.int .i64 (200 - (m : Int))))], [(0, .ro (ints (cN y))), (1, .own (ints (cN (hD y m))))], 2, 62, 1⟩) (inv := fun m => m ≤ 201) (μ := fun m => 201 - m) (x0 := 0) (l := []) tok (by omega) ?_ ?_
  · exact Sub.nil ⟨rfl, rfl, (by simp [tab64_LL, pC, castL, prs, tV, tH, tK]), rfl, (by simp [tupA, hpLt, tmLt, AV.lt, AE.lt, AC.lt, LL_cons, LL_nil, idOk, ABlk.lt, ints_LL, GB, tab64_LL, pC, castL, prs, tV, tH, tK]), (by simp [tupA, hpLt, tmLt, AV.lt, AE.lt, AC.lt, LL_cons, LL_nil, idOk, ABlk.lt, ints_LL, GB, tab64_LL, pC, castL, prs, tV, tH, tK])⟩ (by (repeat (first | exact trivial | refine ⟨trivial, ?_⟩ | refine ⟨rfl, ?_⟩))) ⟨rfl, by show ABlk.own (rep 201 [.int .i64 0]) = _; rw [hrep]; rfl, trivial⟩
  intro m hm
  obtain ⟨o, ho⟩ : ∃ o, o = hD y m := ⟨_, rfl⟩
  have hsu := hD_succ y m
  have clo := cl o
  rw [← ho] at hsu ⊢
  by_cases hml : m < 201
  · have hi : 200 - (m : Int) = ((200 - m : Nat) : Int) := by omega
    rw [hi]
    refine Wk.on ?_
    rw [decide_eq_true (show (0 : Int) ≤ ((200 - m : Nat) : Int) by omega)]
    refine Wk.on ?_
    refine ⟨hmk _ (Nat.le_of_ble_eq_true rfl), ?_⟩
    refine Wk.on ?_
    refine Tr.loop (md := true) (X := Nat) (st := fun j => ⟨[(0, .c (.rs 0 0 201)), (3, .c (.sl 1 0 201 (some 201))), (4, .c (.int .i64 (200 - m : Nat))), (5, .c (.sl 2 0 201 (some 201))), (6, .c (.int .i64 j))], [(2, .own (ints (tabL (bI (hG o)) 201 j))), (0, .ro (ints (cN y))), (1, .own (ints (cN o)))], 3, 62, 1⟩) (inv := fun j => j ≤ 201) (μ := fun j => 201 - j) (x0 := 0) (l := []) tok (by omega) ?_ ?_
    · exact Sub.nil ⟨rfl, rfl, (by simp [tab64_LL, pC, castL, prs, tV, tH, tK]), rfl, (by simp [tupA, hpLt, tmLt, AV.lt, AE.lt, AC.lt, LL_cons, LL_nil, idOk, ABlk.lt, ints_LL, GB, tab64_LL, pC, castL, prs, tV, tH, tK]), (by simp [tupA, hpLt, tmLt, AV.lt, AE.lt, AC.lt, LL_cons, LL_nil, idOk, ABlk.lt, ints_LL, GB, tab64_LL, pC, castL, prs, tV, tH, tK])⟩ (by (repeat (first | exact trivial | refine ⟨trivial, ?_⟩ | refine ⟨rfl, ?_⟩))) ⟨by show ABlk.own (rep 201 [.int .i64 0]) = _; rw [rep_ints, tabL_zero], rfl, rfl, trivial⟩
    intro j hj
    have hl2 : (ints (tabL (bI (hG o)) 201 j)).length = 201 := by rw [ints_len, tabL_len]
    by_cases hjm : j < 201
    · have hsu2 := tabL_succ (bI (hG o)) 201 j
      have hg0 := cN_get o hjm
      have hb0 := bI_01 (fun j => o.testBit j) j
      rcases j with _ | j
      · have hs0 := hG_zero o
        generalize tabL (bI (hG o)) 201 0 = TT at *
        refine Wk.on ?_
        rw [iget, hg0, ← hs0]
        refine Wk.on ?_
        refine Again.mk (0 + 1) (Sub.nil ⟨rfl, rfl, (by simp [tab64_LL, pC, castL, prs, tV, tH, tK]), rfl, (by simp [tupA, hpLt, tmLt, AV.lt, AE.lt, AC.lt, LL_cons, LL_nil, idOk, ABlk.lt, ints_LL, GB, tab64_LL, pC, castL, prs, tV, tH, tK]), (by simp [tupA, hpLt, tmLt, AV.lt, AE.lt, AC.lt, LL_cons, LL_nil, idOk, ABlk.lt, ints_LL, GB, tab64_LL, pC, castL, prs, tV, tH, tK])⟩ (by (repeat (first | exact trivial | refine ⟨trivial, ?_⟩ | refine ⟨rfl, ?_⟩))) ⟨by show ABlk.own ((ints TT).set (0 + Int.toNat ((0 : Nat) : Int) * 1) (.int .i64 (bI (hG o) 0))) = ABlk.own (ints (tabL (bI (hG o)) 201 (0 + 1))); rw [iset, hsu2], rfl, rfl, trivial⟩) (by omega) (by omega)
      · have hg1 := cN_get o (j := j) (by omega)
        have hs1 := hG_succ o j
        have hb1 := bI_01 (fun j => o.testBit j) j
        generalize tabL (bI (hG o)) 201 (j + 1) = TT at *
        generalize bI (fun j => o.testBit j) (j + 1) = u at *
        generalize bI (fun j => o.testBit j) j = v at *
        refine Wk.on ?_
        rw [decide_eq_true (show ((j + 1 : Nat) : Int) < ((201 : Nat) : Int) by omega)]
        refine Wk.on ?_
        rw [iget, hg0]
        refine Wk.on ?_
        rw [decide_eq_true (show (0 : Int) < ((j + 1 : Nat) : Int) by omega)]
        refine Wk.on ?_
        refine Tr.draw (md := true) [⟨[], [36, 37, 38, 39, 40, 41, 42, 43, 44, 45, 46, 47], [], [], []⟩, ⟨[], [35, 37, 38, 39, 40, 41, 42, 43, 44, 45, 46, 47], [0], [], []⟩, ⟨[], [35, 36, 38, 41, 42, 43, 44, 45], [0, 1], [], []⟩, ⟨[], [35, 36, 37, 41, 42, 43, 44, 45], [0, 1, 2], [], []⟩, ⟨[2, 3], [35, 36, 41, 42, 43, 44, 45], [0, 1], [], []⟩, ⟨[2, 3, 4], [35, 36, 41, 42, 43, 44, 45], [0, 1], [], []⟩, ⟨[], [35, 36, 37, 38, 39, 40, 42, 43], [0, 1, 2, 3, 4, 5], [], []⟩, ⟨[], [35, 36, 37, 38, 39, 40, 41], [0, 1, 2, 3, 4, 5, 6], [], []⟩, ⟨[7], [35, 36, 37, 38, 39, 40, 41], [0, 1, 2, 3, 4, 5, 6], [], []⟩, ⟨[6, 7, 8], [35, 36, 37, 38, 39, 40], [0, 1, 2, 3, 4, 5], [], []⟩, ⟨[6, 7, 8, 9], [35, 36, 37, 38, 39, 40], [0, 1, 2, 3, 4, 5], [], []⟩, ⟨[2, 3, 4, 5, 6, 7, 8, 9, 10], [35, 36], [0, 1], [], []⟩, ⟨[2, 3, 4, 5, 6, 7, 8, 9, 10, 11], [35, 36], [0, 1], [], []⟩] tok (by kernel_rfl) (by kernel_rfl) ?_
        refine Wk.on ?_
        rw [iget, hg0]
        refine Wk.on ?_
        rw [iget1, hg1]
        refine Wk.on ?_
        rw [hs1]
        refine Wk.on ?_
        refine ⟨⟨rfl, by rw [List.length_set]; omega⟩, ?_⟩
        refine Wk.on ?_
        refine Again.mk (j + 1 + 1) (Sub.nil ⟨rfl, rfl, (by simp [tab64_LL, pC, castL, prs, tV, tH, tK]), rfl, (by simp [tupA, hpLt, tmLt, AV.lt, AE.lt, AC.lt, LL_cons, LL_nil, idOk, ABlk.lt, ints_LL, GB, tab64_LL, pC, castL, prs, tV, tH, tK]), (by simp [tupA, hpLt, tmLt, AV.lt, AE.lt, AC.lt, LL_cons, LL_nil, idOk, ABlk.lt, ints_LL, GB, tab64_LL, pC, castL, prs, tV, tH, tK])⟩ (by (repeat (first | exact trivial | refine ⟨trivial, ?_⟩ | refine ⟨rfl, ?_⟩))) ⟨by show ABlk.own (((ints TT).set (0 + Int.toNat ((j + 1 : Nat) : Int) * 1) (.int .i64 u)).set (0 + Int.toNat ((j + 1 : Nat) : Int) * 1) (.int .i64 (bI (hG o) (j + 1)))) = ABlk.own (ints (tabL (bI (hG o)) 201 (j + 1 + 1))); rw [List.set_set, iset, hsu2], rfl, rfl, trivial⟩) (by omega) (by omega)
    obtain rfl : j = 201 := by omega
    rw [show tabL (bI (hG o)) 201 201 = coL (hG o) 201 from rfl] at hl2 ⊢
    have hg0 := coL_get (f := hG o) (m := 201) (j := 0) (by omega)
    have hgy := cN_get y (j := 200 - m) (by omega)
    have hb0 := bI_01 (hG o) 0
    have hb1 := bI_01 (fun j => y.testBit j) (200 - m)
    generalize bI (hG o) 0 = u at *
    generalize bI (fun j => y.testBit j) (200 - m) = v at *
    refine Wk.on ?_
    refine Tr.draw (md := true) [⟨[], [50, 51, 52, 53, 54, 55, 56, 57, 58], [], [], []⟩, ⟨[], [49, 53, 54, 55, 56], [0], [], []⟩, ⟨[1], [49, 53, 54, 55, 56], [0], [], []⟩, ⟨[1, 2], [49, 53, 54, 55, 56], [0], [], []⟩, ⟨[], [49, 50, 51, 52, 54], [0, 1, 2, 3], [], []⟩, ⟨[], [49, 50, 51, 52, 53], [0, 1, 2, 3, 4], [], []⟩, ⟨[4, 5], [49, 50, 51, 52], [0, 1, 2, 3], [], []⟩, ⟨[4, 5, 6], [49, 50, 51, 52], [0, 1, 2, 3], [], []⟩, ⟨[1, 2, 3, 4, 5, 6, 7], [49], [0], [], []⟩, ⟨[1, 2, 3, 4, 5, 6, 7, 8], [49], [0], [], []⟩] tok (by kernel_rfl) (by kernel_rfl) ?_
    refine Wk.on ?_
    rw [iget00, hg0]
    refine Wk.on ?_
    rw [iget, hgy]
    refine Wk.on ?_
    have hnx : ((200 - m : Nat) : Int) - 1 = 200 - ((m + 1 : Nat) : Int) := by omega
    rw [hnx]
    refine Wk.on ?_
    refine Again.mk (m + 1) (Sub.new [(1, 2)] ⟨rfl, rfl, (by simp [tupA, hpLt, tmLt, AV.lt, AE.lt, AC.lt, LL_cons, LL_nil, idOk, ABlk.lt, ints_LL, GB, tab64_LL, pC, castL, prs, tV, tH, tK])⟩ rfl (by (repeat (first | exact trivial | refine ⟨trivial, ?_⟩ | refine ⟨rfl, ?_⟩))) ⟨by show some (ABlk.ro (ints (cN y))) = some (ABlk.ro ((ints _).map _)); rw [ints_ren], by show some (ABlk.own ((ints (coL (hG o) 201)).set (0 + Int.toNat 0 * 1) (.int .i64 ((u + v) % 2)))) = some (ABlk.own ((ints (cN (hD y (m + 1)))).map _)); rw [ints_ren, iset00, hsu], trivial⟩ rfl (by simp [tupA, hpLt, tmLt, AV.lt, AE.lt, AC.lt, LL_cons, LL_nil, idOk, ABlk.lt, ints_LL, GB, tab64_LL, pC, castL, prs, tV, tH, tK]) (by simp [tupA, hpLt, tmLt, AV.lt, AE.lt, AC.lt, LL_cons, LL_nil, idOk, ABlk.lt, ints_LL, GB, tab64_LL, pC, castL, prs, tV, tH, tK])) (by omega) (by omega)
  obtain rfl : m = 201 := by omega
  refine Wk.on ?_
  rw [ho]
  exact AH.Fin.new [1] _ _ ⟨rfl, rfl, rfl⟩ rfl ⟨by show some (ABlk.own (ints (cN (hD y 201)))) = some (ABlk.own ((ints _).map _)); rw [ints_ren], trivial⟩ rfl (by simp [tupA, hpLt, tmLt, AV.lt, AE.lt, AC.lt, LL_cons, LL_nil, idOk, ABlk.lt, ints_LL, GB, tab64_LL, pC, castL, prs, tV, tH, tK]) (by simp [tupA, hpLt, tmLt, AV.lt, AE.lt, AC.lt, LL_cons, LL_nil, idOk, ABlk.lt, ints_LL, GB, tab64_LL, pC, castL, prs, tV, tH, tK])
def mkF (T : List Nat) (i j : Nat) : Bool := decide (j ∈ T.take i)
theorem mkF_succ {T : List Nat} {i : Nat} (hi : i < T.length) : (coL (mkF T i) 201).set (T.getD i 0) 1 = coL (mkF T (i + 1)) 201 := by
  have hm : ∀ j, mkF T (i + 1) j = decide (j ∈ T.take i ∨ j = T.getD i 0) := fun j => by
    unfold mkF
    rw [take_succ T 0 hi]
    exact decide_eq_decide.2 (by rw [List.mem_append, List.mem_singleton])
  have h1 : bI (mkF T (i + 1)) (T.getD i 0) = 1 := by rw [bI_val, hm, decide_eq_true (Or.inr rfl)]; rfl
  rw [← h1]
  refine coL_set fun j hj => ?_
  rw [hm]
  unfold mkF
  exact decide_eq_decide.2 ⟨Or.inl, fun h => h.resolve_right hj⟩
theorem polynomial_spec (T : List Nat) (hT : ∀ t ∈ T, t ≤ 200) (hl : T.length ≤ 201) (x : Nat) (hx : ∀ j, x.testBit j = decide (j ∈ T)) : FDet Tryd.prog 31 [.c (.rs 0 0 T.length)] [(0, .ro (ints (castL T)))] 1 (.t [.c (.sl 1 0 201 (some 201)), .c (.bool true)]) [(1, .own (ints (cN x)))] 2 := by
  have hlen : (ints (castL T)).length = T.length := by rw [ints_len, castL_len]
  have hmk : ∀ x : Nat, x < GB → (x < GB ∧ 0 < 1 ∧ [AC.int .i64 0].length = 1 ∧ (0 : Int) ≤ 201 ∧ (201 : Int) = 201 ∧ ((8 : Nat) : Int) * (201 : Int) ≤ 281474976710656 ∧ (201 : Int) ≤ 9223372036854775807) := fun x hx => ⟨hx, by omega, rfl, by omega, rfl, by omega, by omega⟩
  have hrep : rep 201 [.int .i64 0] = ints (coL (mkF T 0) 201) := by
    rw [rep_ints, cN_zero, cN]
    congr 2
    funext j
    simp [mkF]
  have hend : coL (mkF T T.length) 201 = cN x := by
    rw [cN]
    congr 1
    funext j
    rw [hx, mkF, List.take_length]
  refine FSpec.body2 tok true Tryd.func31 ?_
  refine Wk.on ?_
  refine ⟨hmk _ (Nat.le_of_ble_eq_true rfl), ?_⟩
  refine Wk.on ?_
  refine Tr.loop (md := true) (X := Nat) (st := fun i => ⟨[(0, .c (.rs 0 0 T.length)), (4, .c (.sl 1 0 201 (some 201))), (5, .c (.int .i64 i))], [(0, .ro (ints (castL T))), (1, .own (ints (coL (mkF T i) 201)))], 2, 32, 1⟩) (inv := fun i => i ≤ T.length) (μ := fun i => T.length - i) (x0 := 0) (l := []) tok (by omega) ?_ ?_
  · exact Sub.nil ⟨rfl, rfl, (by simp [tab64_LL, pC, castL, prs, tV, tH, tK]), rfl, (by simp [tupA, hpLt, tmLt, AV.lt, AE.lt, AC.lt, LL_cons, LL_nil, idOk, ABlk.lt, ints_LL, GB, tab64_LL, pC, castL, prs, tV, tH, tK]), (by simp [tupA, hpLt, tmLt, AV.lt, AE.lt, AC.lt, LL_cons, LL_nil, idOk, ABlk.lt, ints_LL, GB, tab64_LL, pC, castL, prs, tV, tH, tK])⟩ (by (repeat (first | exact trivial | refine ⟨trivial, ?_⟩ | refine ⟨rfl, ?_⟩))) ⟨rfl, by show ABlk.own (rep 201 [.int .i64 0]) = _; rw [hrep], trivial⟩
  intro i hi
  have hl2 : (ints (coL (mkF T i) 201)).length = 201 := by rw [ints_len, coL_len]
  by_cases hil : i < T.length
  · have hsu := mkF_succ hil
    obtain ⟨t, ht⟩ : ∃ t, t = T.getD i 0 := ⟨_, rfl⟩
    have ht2 : t ≤ 200 := by
      rw [ht, List.getD_eq_getElem?_getD, List.getElem?_eq_getElem hil]; exact hT _ (List.getElem_mem hil)
    rw [← ht] at hsu
    refine Wk.on ?_
    rw [decide_eq_true (show ((i : Nat) : Int) < ((T.length : Nat) : Int) by omega)]
    refine Wk.on ?_
    rw [iget, castL_getD, ← ht]
    refine Wk.on ?_
    rw [decide_eq_false (show ¬ ((t : Nat) : Int) < 0 by omega)]
    refine Wk.on ?_
    rw [iget, castL_getD, ← ht]
    refine Wk.on ?_
    rw [decide_eq_false (show ¬ 200 < ((t : Nat) : Int) by omega)]
    refine Wk.on ?_
    rw [iget, castL_getD, ← ht]
    refine Wk.on ?_
    refine Again.mk (i + 1) (Sub.nil ⟨rfl, rfl, (by simp [tab64_LL, pC, castL, prs, tV, tH, tK]), rfl, (by simp [tupA, hpLt, tmLt, AV.lt, AE.lt, AC.lt, LL_cons, LL_nil, idOk, ABlk.lt, ints_LL, GB, tab64_LL, pC, castL, prs, tV, tH, tK]), (by simp [tupA, hpLt, tmLt, AV.lt, AE.lt, AC.lt, LL_cons, LL_nil, idOk, ABlk.lt, ints_LL, GB, tab64_LL, pC, castL, prs, tV, tH, tK])⟩ (by (repeat (first | exact trivial | refine ⟨trivial, ?_⟩ | refine ⟨rfl, ?_⟩))) ⟨rfl, by show ABlk.own ((ints (coL (mkF T i) 201)).set (0 + Int.toNat ((t : Nat) : Int) * 1) (.int .i64 1)) = ABlk.own (ints (coL (mkF T (i + 1)) 201)); rw [iset, hsu], trivial⟩) (by omega) (by omega)
  obtain rfl : i = T.length := by omega
  refine Wk.on ?_
  rw [decide_eq_false (show ¬ ((T.length : Nat) : Int) < ((T.length : Nat) : Int) by omega)]
  refine Wk.on ?_
  intro _
  refine Wk.on ?_
  exact AH.Fin.new [1] _ _ ⟨rfl, rfl, rfl⟩ rfl ⟨by show some (ABlk.own (ints (coL (mkF T T.length) 201))) = some (ABlk.own ((ints _).map _)); rw [ints_ren, hend], trivial⟩ rfl (by simp [tupA, hpLt, tmLt, AV.lt, AE.lt, AC.lt, LL_cons, LL_nil, idOk, ABlk.lt, ints_LL, GB, tab64_LL, pC, castL, prs, tV, tH, tK]) (by simp [tupA, hpLt, tmLt, AV.lt, AE.lt, AC.lt, LL_cons, LL_nil, idOk, ABlk.lt, ints_LL, GB, tab64_LL, pC, castL, prs, tV, tH, tK])
end Go.Proofs.YtimknijehaamlaaDoor
