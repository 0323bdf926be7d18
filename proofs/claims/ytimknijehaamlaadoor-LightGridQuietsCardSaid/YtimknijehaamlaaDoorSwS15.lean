/-
  Contract: the reference's number of quiet sets of a grid.
-/
import Derived.Test.YtimknijehaamlaaDoorSwS13
import Derived.Test.YtimknijehaamlaaDoorSwE20
set_option linter.unusedSimpArgs false
set_option linter.unusedVariables false
namespace Go.Proofs.YtimknijehaamlaaDoor
open Go Go.AH Go.Lin
set_option maxRecDepth 100000
set_option maxHeartbeats 1000000

def uL (L : List Nat) : List AC := L.map fun x : Nat => AC.int .u64 (x : Int)
theorem uL_len (L : List Nat) : (uL L).length = L.length := by simp [uL]
theorem uL_ren (q : Nat → Nat) (L : List Nat) : (uL L).map (AC.ren q) = uL L := by
  rw [uL, List.map_map]; rfl
theorem uL_LL (n : Nat) (L : List Nat) : LL n (uL L) := fun x hx => by
  obtain ⟨b, _, rfl⟩ := List.mem_map.1 hx; trivial
instance (L : List Nat) : RenC (uL L) := ⟨fun q => uL_ren q L, fun n => uL_LL n L⟩
theorem uL_getD (L : List Nat) (i : Nat) : (uL L).getD i (.int .u64 0) = .int .u64 ((L.getD i 0 : Nat) : Int) := by
  rw [uL, List.getD_eq_getElem?_getD, List.getD_eq_getElem?_getD, List.getElem?_map]
  cases L[i]? <;> rfl
theorem uL_set (L : List Nat) (i v : Nat) : (uL L).set i (.int .u64 (v : Int)) = uL (L.set i v) := by
  simp only [uL, List.map_set]
theorem uL_app (W : List Nat) (N : Nat) (q : Nat → Nat) : uL W ++ [.int .u64 (N : Int)] = (uL (W ++ [N])).map (AC.ren q) := by
  rw [uL_ren]; simp [uL]
def wL (own : Bool) (c r k : Nat) : List Nat := (List.range k).map fun j => (wR own c r j).2
theorem wL_len (own : Bool) (c r k : Nat) : (wL own c r k).length = k := by simp [wL]
theorem wL_succ (own : Bool) (c r k : Nat) : wL own c r (k + 1) = wL own c r k ++ [(wR own c r k).2] := by
  rw [wL, List.range_succ, List.map_append]; rfl
def gqSt (own : Bool) (r c : Nat) : Nat → AS
  | 0 => ⟨[(0, .c (.int .i64 r)), (1, .c (.int .i64 c)), (2, .c (.bool own)), (7, .c .nils), (8, .c (.int .i64 0))], [], 1, 123, 0⟩
  | k + 1 => ⟨[(0, .c (.int .i64 r)), (1, .c (.int .i64 c)), (2, .c (.bool own)), (7, .c (.row 0 (k + 1))), (8, .c (.int .i64 (k + 1 : Nat)))], [(0, .row 83 1 (uL (wL own c r (k + 1))))], 1, 123, 0⟩
theorem fndK_is {c b r j : Nat} {L : List Nat} (h1 : r ≤ j) (h2 : j < c) (hb : (L.getD j 0).testBit b = true) (h3 : ∀ i, r ≤ i → i < j → (L.getD i 0).testBit b = false) : fndK c b r L = some j := by
  refine List.find?_range_eq_some.2 ⟨?_, List.mem_range.2 h2, fun i hi => ?_⟩
  · rw [decide_eq_true h1, hb]; rfl
  · by_cases h : r ≤ i
    · rw [h3 i h hi, Bool.and_false]; rfl
    · rw [decide_eq_false h]; rfl
theorem fndK_isn {c b r : Nat} {L : List Nat} (h3 : ∀ i, r ≤ i → i < c → (L.getD i 0).testBit b = false) : fndK c b r L = none := by
  refine List.find?_range_eq_none.2 fun i hi => ?_
  by_cases h : r ≤ i
  · rw [h3 i h hi, Bool.and_false]; rfl
  · rw [decide_eq_false h]; rfl
def addT (c b r w i : Nat) (M : List Nat) : List Nat := (List.range c).map fun j => if j < i ∧ j ≠ r ∧ (M.getD j 0).testBit b = true then M.getD j 0 ^^^ w else M.getD j 0
theorem addT_len (c b r w i : Nat) (M : List Nat) : (addT c b r w i M).length = c := by simp [addT]
theorem addT_get {c b r w i j : Nat} {M : List Nat} (hj : j < c) : (addT c b r w i M).getD j 0 = if j < i ∧ j ≠ r ∧ (M.getD j 0).testBit b = true then M.getD j 0 ^^^ w else M.getD j 0 := by
  rw [addT, List.getD_eq_getElem?_getD, List.getElem?_map, List.getElem?_range hj]; rfl
theorem addT_zero {c b r w : Nat} {M : List Nat} (h : M.length = c) : addT c b r w 0 M = M := by
  refine List.ext_getElem (by rw [addT_len, h]) fun j h1 h2 => ?_
  have := addT_get (b := b) (r := r) (w := w) (i := 0) (M := M) (j := j) (by rw [addT_len] at h1; exact h1)
  rw [if_neg (by omega), List.getD_eq_getElem?_getD, List.getD_eq_getElem?_getD, List.getElem?_eq_getElem h1, List.getElem?_eq_getElem h2] at this
  exact this
theorem addT_all (c b r w : Nat) (M : List Nat) : addT c b r w c M = addW c b r w M := by
  refine List.map_congr_left fun j hj => ?_
  have := List.mem_range.1 hj
  by_cases h : j ≠ r ∧ (M.getD j 0).testBit b = true
  · rw [if_pos ⟨this, h⟩, if_pos h]
  · rw [if_neg (fun k => h k.2), if_neg h]
theorem addT_skip {c b r w i : Nat} {M : List Nat} (h : ¬ (i ≠ r ∧ (M.getD i 0).testBit b = true)) : addT c b r w (i + 1) M = addT c b r w i M := by
  refine List.map_congr_left fun j hj => ?_
  by_cases k : j = i
  · subst k
    rw [if_neg (fun k => h k.2), if_neg (fun k => h k.2)]
  · have : (j < i + 1) = (j < i) := by apply propext; omega
    simp only [this]
theorem addT_put {c b r w i : Nat} {M : List Nat} (hi : i < c) (h : i ≠ r ∧ (M.getD i 0).testBit b = true) : (addT c b r w i M).set i (M.getD i 0 ^^^ w) = addT c b r w (i + 1) M := by
  refine List.ext_getElem (by rw [List.length_set, addT_len, addT_len]) fun j h1 h2 => ?_
  have hj : j < c := by rw [addT_len] at h2; exact h2
  rw [List.getElem_set]
  have e1 := addT_get (b := b) (r := r) (w := w) (i := i + 1) (M := M) hj
  have e2 := addT_get (b := b) (r := r) (w := w) (i := i) (M := M) hj
  rw [List.getD_eq_getElem?_getD, List.getElem?_eq_getElem (by rw [addT_len]; exact hj)] at e1 e2
  by_cases k : i = j
  · subst k
    rw [if_pos rfl]
    rw [if_pos ⟨by omega, h⟩] at e1
    exact e1.symm
  · rw [if_neg k]
    have : (j < i + 1) = (j < i) := by apply propext; omega
    simp only [this] at e1
    exact e2.trans e1.symm
theorem uget (L : List Nat) (j : Nat) : (uL L).getD ((j : Int).toNat * 1) (.int .u64 0) = .int .u64 ((L.getD j 0 : Nat) : Int) := by
  rw [uL_getD, Int.toNat_natCast, Nat.mul_one]
theorem ishr (x b : Nat) : ((x : Nat) : Int) / 2 ^ Int.toNat (b : Int) = ((x / 2 ^ b : Nat) : Int) := by
  rw [Int.toNat_natCast]; simp
theorem el_inv {c : Nat} {W : List Nat} (hl : W.length = c) (ht : ∀ j, W.getD j 0 < 2 ^ 60) : ∀ b, (elR c W b).1.length = c ∧ (∀ j, (elR c W b).1.getD j 0 < 2 ^ 60) ∧ (elR c W b).2 ≤ b
  | 0 => ⟨hl, ht, Nat.le_refl 0⟩
  | b + 1 => by
    obtain ⟨h1, h2, h3⟩ := el_inv hl ht b
    rw [show elR c W (b + 1) = elS c b (elR c W b) from rfl]
    generalize elR c W b = S at *
    obtain ⟨L, k0⟩ := S
    dsimp only at h1 h2 h3
    unfold elS
    dsimp only
    cases e : fndK c b k0 L with
    | none => exact ⟨h1, h2, by show k0 ≤ b + 1; omega⟩
    | some k =>
      obtain ⟨hk, hrk, hkb⟩ := fndK_some e
      have hsw := swpL_get (rows := L) (k := k) (r := k0) (by omega) (by omega)
      have hs : ∀ j, (swpL L k k0).getD j 0 < 2 ^ 60 := fun j => by
        rw [hsw]
        split
        · exact h2 k
        · split
          · exact h2 k0
          · exact h2 j
      refine ⟨addW_len _ _ _ _ _, fun j => ?_, by show k0 + 1 ≤ _; omega⟩
      by_cases hj : j < c
      · show (addW c b k0 (L.getD k 0) (swpL L k k0)).getD j 0 < _
        rw [addW_get hj]
        split
        · exact Nat.xor_lt_two_pow (hs j) (h2 k)
        · exact hs j
      · show (addW c b k0 (L.getD k 0) (swpL L k k0)).getD j 0 < _
        rw [List.getD_eq_getElem?_getD, List.getElem?_eq_none (by rw [addW_len]; omega)]
        exact Nat.two_pow_pos 60
theorem refGQ_spec {r c : Nat} (r1 : 1 ≤ r) (c1 : 1 ≤ c) (r60 : r ≤ 60) (c60 : c ≤ 60) (own : Bool) : FDet Tryd.prog 27 [.c (.int .i64 r), .c (.int .i64 c), .c (.bool own)] [] 0 (.c (.int .i64 ((c : Int) - ((elR c (waysR own c r) c).2 : Int)))) [] 0 := by
  have hp60 : 2 ^ c ≤ 1152921504606846976 := (Nat.pow_le_pow_right (by omega) c60 : 2 ^ c ≤ 2 ^ 60)
  have hp0 := Nat.two_pow_pos c
  obtain ⟨m, hm⟩ : ∃ m, m = 2 ^ c - 1 := ⟨_, rfl⟩
  have hwm : IntKind.u64.wrap (IntKind.u64.wrap (1 * 2 ^ min (Int.toNat (c : Int)) IntKind.u64.bits) - 1) = ((m : Nat) : Int) := by
    have e1 : (1 : Int) * 2 ^ min (Int.toNat (c : Int)) IntKind.u64.bits = ((2 ^ c : Nat) : Int) := by
      rw [Int.toNat_natCast, Nat.min_eq_left (by show c ≤ 64; omega)]; simp
    rw [e1, wrapU (by omega), show ((2 ^ c : Nat) : Int) - 1 = ((m : Nat) : Int) by omega]
    exact wrapU (by omega)
  refine FSpec.body2 tok true Tryd.func27 ?_
  refine Wk.on ?_
  refine Tr.loopU (md := true) (X := Nat) (gqSt own r c) (fun k => k ≤ c) (fun k => c - k) 0 tok (by omega) (Under.wk [] ⟨rfl, rfl, Nat.le_of_ble_eq_true rfl, Nat.le_of_ble_eq_true rfl⟩ rfl ⟨.inl rfl, .inl rfl, .inl rfl, .inl rfl, .inl rfl, trivial⟩ trivial rfl (by simp [tupA, hpLt, tmLt, AV.lt, AE.lt, AC.lt, LL_cons, LL_nil, idOk, ABlk.lt, ints_LL, GB, uL_LL, gqSt]) (by simp [tupA, hpLt, tmLt, AV.lt, AE.lt, AC.lt, LL_cons, LL_nil, idOk, ABlk.lt, ints_LL, GB, uL_LL, gqSt])) ?_
  intro k hk
  by_cases hkc : k < c
  · obtain ⟨q, hq⟩ : ∃ q, q = 2 ^ k := ⟨_, rfl⟩
    have hq2 : q < 1152921504606846976 := by rw [hq]; exact Nat.pow_lt_pow_right (n := 60) (by omega) (by omega)
    have hsh : (1 : Int) * 2 ^ (Int.toNat (k : Int)) = (q : Int) := by simp [hq]
    rcases k with _ | k
    · have hst : gqSt own r c 0 = ⟨[(0, .c (.int .i64 r)), (1, .c (.int .i64 c)), (2, .c (.bool own)), (7, .c .nils), (8, .c (.int .i64 0))], [], 1, 123, 0⟩ := rfl
      rw [hst]
      refine Wk.on ?_
      rw [decide_eq_true (show (0 : Int) < ((c : Nat) : Int) by omega)]
      refine Wk.on ?_
      refine Tr.draw (md := true) [⟨[], [9], [], [], []⟩, ⟨[0], [9], [], [], []⟩, ⟨[], [23, 24], [0, 1], [], []⟩] tok (by kernel_rfl) (by kernel_rfl) ?_
      refine Wk.on ?_
      refine Tr.loop (md := true) (X := Nat) (st := fun i => ⟨[(0, .c (.int .i64 r)), (1, .c (.int .i64 c)), (2, .c (.bool own)), (7, .c (.nils)), (8, .c (.int .i64 0)), (9, .c (.int .u64 ((wR own c i 0).1 : Nat))), (10, .c (.int .u64 ((wR own c i 0).2 : Nat))), (11, .c (.int .i64 i))], [], 1, 123, 0⟩) (inv := fun i => i ≤ r) (μ := fun i => r - i) (x0 := 0) (l := []) tok (by omega) ?_ ?_
      · exact Sub.nil ⟨rfl, rfl, (by simp [uL_LL, gqSt]), rfl, (by simp [tupA, hpLt, tmLt, AV.lt, AE.lt, AC.lt, LL_cons, LL_nil, idOk, ABlk.lt, ints_LL, GB, uL_LL, gqSt]), (by simp [tupA, hpLt, tmLt, AV.lt, AE.lt, AC.lt, LL_cons, LL_nil, idOk, ABlk.lt, ints_LL, GB, uL_LL, gqSt])⟩ (by (repeat (first | exact trivial | refine ⟨trivial, ?_⟩ | refine ⟨rfl, ?_⟩))) (by (repeat (first | exact trivial | refine ⟨trivial, ?_⟩ | refine ⟨rfl, ?_⟩)))
      intro i hi
      obtain ⟨B, hB⟩ : ∃ B, B = (wR own c i 0).1 := ⟨_, rfl⟩
      obtain ⟨N, hN⟩ : ∃ N, N = (wR own c i 0).2 := ⟨_, rfl⟩
      by_cases hir : i < r
      · rw [← hB, ← hN]
        refine Wk.on ?_
        rw [decide_eq_true (show ((i : Nat) : Int) < ((r : Nat) : Int) by omega)]
        refine Wk.on ?_
        have hBN := wR_lt own hkc i
        obtain ⟨N1, hN1⟩ : ∃ x, x = N <<< 1 := ⟨_, rfl⟩
        have hN1v : N1 = N * 2 := by rw [hN1, Nat.shiftLeft_eq]
        have hw1 : IntKind.u64.wrap ((N : Int) * 2 ^ min (Int.toNat 1) IntKind.u64.bits) = ((N1 : Nat) : Int) := by
          rw [show ((N : Int) * 2 ^ min (Int.toNat 1) IntKind.u64.bits) = ((N1 : Nat) : Int) by rw [hN1v]; show (N : Int) * 2 = _; omega]
          exact wrapU (by omega)
        rw [hw1]
        refine Wk.on ?_
        obtain ⟨N2, hN2⟩ : ∃ x, x = N >>> 1 := ⟨_, rfl⟩
        have hN2v : N2 = N / 2 := by rw [hN2, Nat.shiftRight_eq_div_pow]
        have hw2 : (N : Int) / 2 ^ Int.toNat 1 = ((N2 : Nat) : Int) := by
          rw [hN2v]; show (N : Int) / 2 = _; omega
        obtain ⟨X1, hX1⟩ : ∃ x, x = B ^^^ N1 := ⟨_, rfl⟩
        have hX1l : X1 < 2 ^ 62 := by rw [hX1]; exact Nat.xor_lt_two_pow (by omega) (by omega)
        rw [Int.toNat_natCast, Int.toNat_natCast, ← hX1, hw2]
        refine Wk.on ?_
        obtain ⟨X2, hX2⟩ : ∃ x, x = X1 ^^^ N2 := ⟨_, rfl⟩
        have hX2l : X2 < 2 ^ 62 := by rw [hX2]; exact Nat.xor_lt_two_pow hX1l (by omega)
        rw [Int.toNat_natCast, Int.toNat_natCast, ← hX2]
        cases own
        · refine Wk.on ?_
          rw [hwm]
          refine Wk.on ?_
          have hs1 : (wR false c (i + 1) 0).1 = N := hN.symm
          have hs2 : (wR false c (i + 1) 0).2 = X2 &&& m := by
            show ((wR false c i 0).1 ^^^ ((wR false c i 0).2 <<< 1) ^^^ ((wR false c i 0).2 >>> 1) ^^^ 0) &&& (2 ^ c - 1) = _
            rw [← hB, ← hN, Nat.xor_zero, hX2, hX1, hN1, hN2, hm]
          rw [Int.toNat_natCast, Int.toNat_natCast]
          refine Again.mk (i + 1) (Sub.nil ⟨rfl, rfl, (by simp [uL_LL, gqSt]), rfl, (by simp [tupA, hpLt, tmLt, AV.lt, AE.lt, AC.lt, LL_cons, LL_nil, idOk, ABlk.lt, ints_LL, GB, uL_LL, gqSt]), (by simp [tupA, hpLt, tmLt, AV.lt, AE.lt, AC.lt, LL_cons, LL_nil, idOk, ABlk.lt, ints_LL, GB, uL_LL, gqSt])⟩ ⟨rfl, rfl, rfl, rfl, rfl, by rw [hs1]; rfl, by rw [hs2]; rfl, rfl, trivial⟩ (by (repeat (first | exact trivial | refine ⟨trivial, ?_⟩ | refine ⟨rfl, ?_⟩)))) (by omega) (by omega)
        · refine Wk.on ?_
          obtain ⟨X3, hX3⟩ : ∃ x, x = X2 ^^^ N := ⟨_, rfl⟩
          have hX3l : X3 < 2 ^ 62 := by rw [hX3]; exact Nat.xor_lt_two_pow hX2l (by omega)
          rw [Int.toNat_natCast, Int.toNat_natCast, ← hX3]
          refine Wk.on ?_
          rw [hwm]
          refine Wk.on ?_
          have hs1 : (wR true c (i + 1) 0).1 = N := hN.symm
          have hs2 : (wR true c (i + 1) 0).2 = X3 &&& m := by
            show ((wR true c i 0).1 ^^^ ((wR true c i 0).2 <<< 1) ^^^ ((wR true c i 0).2 >>> 1) ^^^ (wR true c i 0).2) &&& (2 ^ c - 1) = _
            rw [← hB, ← hN, hX3, hX2, hX1, hN1, hN2, hm]
          rw [Int.toNat_natCast, Int.toNat_natCast]
          refine Again.mk (i + 1) (Sub.nil ⟨rfl, rfl, (by simp [uL_LL, gqSt]), rfl, (by simp [tupA, hpLt, tmLt, AV.lt, AE.lt, AC.lt, LL_cons, LL_nil, idOk, ABlk.lt, ints_LL, GB, uL_LL, gqSt]), (by simp [tupA, hpLt, tmLt, AV.lt, AE.lt, AC.lt, LL_cons, LL_nil, idOk, ABlk.lt, ints_LL, GB, uL_LL, gqSt])⟩ ⟨rfl, rfl, rfl, rfl, rfl, by rw [hs1]; rfl, by rw [hs2]; rfl, rfl, trivial⟩ (by (repeat (first | exact trivial | refine ⟨trivial, ?_⟩ | refine ⟨rfl, ?_⟩)))) (by omega) (by omega)
      · obtain rfl : i = r := by omega
        rw [← hB, ← hN]
        have hBN := wR_lt own hkc i
        refine Wk.on ?_
        rw [decide_eq_false (show ¬ ((i : Nat) : Int) < ((i : Nat) : Int) by omega)]
        refine Wk.on ?_
        intro _
        refine Wk.on ?_
        have hwl : wL own c i 1 = [N] := by rw [hN]; rfl
        refine Again.under 1 ?_ (by show 1 ≤ c; omega) (by show c - 1 < c - 0; omega)
        have hst1 : gqSt own i c 1 = ⟨[(0, .c (.int .i64 i)), (1, .c (.int .i64 c)), (2, .c (.bool own)), (7, .c (.row 0 1)), (8, .c (.int .i64 (1 : Nat)))], [(0, .row 83 1 (uL [N]))], 1, 123, 0⟩ := by rw [← hwl]; rfl
        rw [hst1]
        exact Under.wk [(0, 2)] ⟨rfl, rfl, Nat.le_of_ble_eq_true rfl, Nat.le_of_ble_eq_true rfl⟩ rfl ⟨.inl rfl, .inl rfl, .inl rfl, .inl rfl, .inl rfl, trivial⟩ ⟨.inl (congrArg (ABlk.row _ _) (uL_ren _ [N]).symm), trivial⟩ rfl (by simp [tupA, hpLt, tmLt, AV.lt, AE.lt, AC.lt, LL_cons, LL_nil, idOk, ABlk.lt, ints_LL, GB, uL_LL, gqSt]) (by simp [tupA, hpLt, tmLt, AV.lt, AE.lt, AC.lt, LL_cons, LL_nil, idOk, ABlk.lt, ints_LL, GB, uL_LL, gqSt])
    · obtain ⟨W, hW⟩ : ∃ W, W = wL own c r (k + 1) := ⟨_, rfl⟩
      have hWl : W.length = k + 1 := by rw [hW, wL_len]
      have hWl2 : (uL W).length = k + 1 := by rw [uL_len, hWl]
      have hwq : IntKind.u64.wrap (1 * 2 ^ min (Int.toNat ((k + 1 : Nat) : Int)) IntKind.u64.bits) = ((q : Nat) : Int) := by
        rw [show (1 : Int) * 2 ^ min (Int.toNat ((k + 1 : Nat) : Int)) IntKind.u64.bits = ((q : Nat) : Int) by
          rw [Int.toNat_natCast, Nat.min_eq_left (by show k + 1 ≤ 64; omega), hq]; simp]
        exact wrapU (by omega)
      have hst : gqSt own r c (k + 1) = ⟨[(0, .c (.int .i64 r)), (1, .c (.int .i64 c)), (2, .c (.bool own)), (7, .c (.row 0 (k + 1))), (8, .c (.int .i64 (k + 1 : Nat)))], [(0, .row 83 1 (uL W))], 1, 123, 0⟩ := by rw [hW]; rfl
      rw [hst]
      refine Wk.on ?_
      rw [decide_eq_true (show ((k + 1 : Nat) : Int) < ((c : Nat) : Int) by omega)]
      refine Wk.on ?_
      refine Tr.draw (md := true) [⟨[], [9], [], [], []⟩, ⟨[0], [9], [], [], []⟩, ⟨[], [23, 24], [0, 1], [], []⟩] tok (by kernel_rfl) (by kernel_rfl) ?_
      refine Wk.on ?_
      rw [hwq]
      refine Wk.on ?_
      refine Tr.loop (md := true) (X := Nat) (st := fun i => ⟨[(0, .c (.int .i64 r)), (1, .c (.int .i64 c)), (2, .c (.bool own)), (7, .c (.row 0 (k + 1))), (8, .c (.int .i64 (k + 1 : Nat))), (9, .c (.int .u64 ((wR own c i (k + 1)).1 : Nat))), (10, .c (.int .u64 ((wR own c i (k + 1)).2 : Nat))), (11, .c (.int .i64 i))], [(0, .row 83 1 (uL W))], 1, 123, 0⟩) (inv := fun i => i ≤ r) (μ := fun i => r - i) (x0 := 0) (l := []) tok (by omega) ?_ ?_
      · exact Sub.nil ⟨rfl, rfl, (by simp [uL_LL, gqSt]), rfl, (by simp [tupA, hpLt, tmLt, AV.lt, AE.lt, AC.lt, LL_cons, LL_nil, idOk, ABlk.lt, ints_LL, GB, uL_LL, gqSt]), (by simp [tupA, hpLt, tmLt, AV.lt, AE.lt, AC.lt, LL_cons, LL_nil, idOk, ABlk.lt, ints_LL, GB, uL_LL, gqSt])⟩ ⟨rfl, rfl, rfl, rfl, rfl, rfl, by rw [hq]; rfl, rfl, trivial⟩ (by (repeat (first | exact trivial | refine ⟨trivial, ?_⟩ | refine ⟨rfl, ?_⟩)))
      intro i hi
      obtain ⟨B, hB⟩ : ∃ B, B = (wR own c i (k + 1)).1 := ⟨_, rfl⟩
      obtain ⟨N, hN⟩ : ∃ N, N = (wR own c i (k + 1)).2 := ⟨_, rfl⟩
      by_cases hir : i < r
      · rw [← hB, ← hN]
        refine Wk.on ?_
        rw [decide_eq_true (show ((i : Nat) : Int) < ((r : Nat) : Int) by omega)]
        refine Wk.on ?_
        have hBN := wR_lt own hkc i
        obtain ⟨N1, hN1⟩ : ∃ x, x = N <<< 1 := ⟨_, rfl⟩
        have hN1v : N1 = N * 2 := by rw [hN1, Nat.shiftLeft_eq]
        have hw1 : IntKind.u64.wrap ((N : Int) * 2 ^ min (Int.toNat 1) IntKind.u64.bits) = ((N1 : Nat) : Int) := by
          rw [show ((N : Int) * 2 ^ min (Int.toNat 1) IntKind.u64.bits) = ((N1 : Nat) : Int) by rw [hN1v]; show (N : Int) * 2 = _; omega]
          exact wrapU (by omega)
        rw [hw1]
        refine Wk.on ?_
        obtain ⟨N2, hN2⟩ : ∃ x, x = N >>> 1 := ⟨_, rfl⟩
        have hN2v : N2 = N / 2 := by rw [hN2, Nat.shiftRight_eq_div_pow]
        have hw2 : (N : Int) / 2 ^ Int.toNat 1 = ((N2 : Nat) : Int) := by
          rw [hN2v]; show (N : Int) / 2 = _; omega
        obtain ⟨X1, hX1⟩ : ∃ x, x = B ^^^ N1 := ⟨_, rfl⟩
        have hX1l : X1 < 2 ^ 62 := by rw [hX1]; exact Nat.xor_lt_two_pow (by omega) (by omega)
        rw [Int.toNat_natCast, Int.toNat_natCast, ← hX1, hw2]
        refine Wk.on ?_
        obtain ⟨X2, hX2⟩ : ∃ x, x = X1 ^^^ N2 := ⟨_, rfl⟩
        have hX2l : X2 < 2 ^ 62 := by rw [hX2]; exact Nat.xor_lt_two_pow hX1l (by omega)
        rw [Int.toNat_natCast, Int.toNat_natCast, ← hX2]
        cases own
        · refine Wk.on ?_
          rw [hwm]
          refine Wk.on ?_
          have hs1 : (wR false c (i + 1) (k + 1)).1 = N := hN.symm
          have hs2 : (wR false c (i + 1) (k + 1)).2 = X2 &&& m := by
            show ((wR false c i (k + 1)).1 ^^^ ((wR false c i (k + 1)).2 <<< 1) ^^^ ((wR false c i (k + 1)).2 >>> 1) ^^^ 0) &&& (2 ^ c - 1) = _
            rw [← hB, ← hN, Nat.xor_zero, hX2, hX1, hN1, hN2, hm]
          rw [Int.toNat_natCast, Int.toNat_natCast]
          refine Again.mk (i + 1) (Sub.nil ⟨rfl, rfl, (by simp [uL_LL, gqSt]), rfl, (by simp [tupA, hpLt, tmLt, AV.lt, AE.lt, AC.lt, LL_cons, LL_nil, idOk, ABlk.lt, ints_LL, GB, uL_LL, gqSt]), (by simp [tupA, hpLt, tmLt, AV.lt, AE.lt, AC.lt, LL_cons, LL_nil, idOk, ABlk.lt, ints_LL, GB, uL_LL, gqSt])⟩ ⟨rfl, rfl, rfl, rfl, rfl, by rw [hs1]; rfl, by rw [hs2]; rfl, rfl, trivial⟩ (by (repeat (first | exact trivial | refine ⟨trivial, ?_⟩ | refine ⟨rfl, ?_⟩)))) (by omega) (by omega)
        · refine Wk.on ?_
          obtain ⟨X3, hX3⟩ : ∃ x, x = X2 ^^^ N := ⟨_, rfl⟩
          have hX3l : X3 < 2 ^ 62 := by rw [hX3]; exact Nat.xor_lt_two_pow hX2l (by omega)
          rw [Int.toNat_natCast, Int.toNat_natCast, ← hX3]
          refine Wk.on ?_
          rw [hwm]
          refine Wk.on ?_
          have hs1 : (wR true c (i + 1) (k + 1)).1 = N := hN.symm
          have hs2 : (wR true c (i + 1) (k + 1)).2 = X3 &&& m := by
            show ((wR true c i (k + 1)).1 ^^^ ((wR true c i (k + 1)).2 <<< 1) ^^^ ((wR true c i (k + 1)).2 >>> 1) ^^^ (wR true c i (k + 1)).2) &&& (2 ^ c - 1) = _
            rw [← hB, ← hN, hX3, hX2, hX1, hN1, hN2, hm]
          rw [Int.toNat_natCast, Int.toNat_natCast]
          refine Again.mk (i + 1) (Sub.nil ⟨rfl, rfl, (by simp [uL_LL, gqSt]), rfl, (by simp [tupA, hpLt, tmLt, AV.lt, AE.lt, AC.lt, LL_cons, LL_nil, idOk, ABlk.lt, ints_LL, GB, uL_LL, gqSt]), (by simp [tupA, hpLt, tmLt, AV.lt, AE.lt, AC.lt, LL_cons, LL_nil, idOk, ABlk.lt, ints_LL, GB, uL_LL, gqSt])⟩ ⟨rfl, rfl, rfl, rfl, rfl, by rw [hs1]; rfl, by rw [hs2]; rfl, rfl, trivial⟩ (by (repeat (first | exact trivial | refine ⟨trivial, ?_⟩ | refine ⟨rfl, ?_⟩)))) (by omega) (by omega)
      · obtain rfl : i = r := by omega
        rw [← hB, ← hN]
        have hBN := wR_lt own hkc i
        refine Wk.on ?_
        rw [decide_eq_false (show ¬ ((i : Nat) : Int) < ((i : Nat) : Int) by omega)]
        refine Wk.on ?_
        intro _
        refine Wk.on ?_
        refine ⟨⟨Nat.le_of_ble_eq_true rfl, rfl, rfl, by rw [hWl2]; omega, by show ((k + 1 + 1 : Nat) : Int) * 8 ≤ _; omega, by omega⟩, ?_⟩
        refine Wk.on ?_
        have hwl : wL own c i (k + 1 + 1) = W ++ [N] := by rw [wL_succ, hW, hN]
        refine Again.under (k + 1 + 1) ?_ (by show k + 1 + 1 ≤ c; omega) (by show c - (k + 1 + 1) < c - (k + 1); omega)
        have hst1 : gqSt own i c (k + 1 + 1) = ⟨[(0, .c (.int .i64 i)), (1, .c (.int .i64 c)), (2, .c (.bool own)), (7, .c (.row 0 (k + 1 + 1))), (8, .c (.int .i64 (k + 1 + 1 : Nat)))], [(0, .row 83 1 (uL (W ++ [N])))], 1, 123, 0⟩ := by rw [← hwl]; rfl
        rw [hst1]
        exact Under.wk [(0, 2)] ⟨rfl, rfl, Nat.le_of_ble_eq_true rfl, Nat.le_of_ble_eq_true rfl⟩ rfl ⟨.inl rfl, .inl rfl, .inl rfl, .inl rfl, .inl rfl, trivial⟩ ⟨.inl (congrArg (ABlk.row _ _) (uL_app W N _)), trivial⟩ rfl (by simp [tupA, hpLt, tmLt, AV.lt, AE.lt, AC.lt, LL_cons, LL_nil, idOk, ABlk.lt, ints_LL, GB, uL_LL, gqSt]) (by simp [tupA, hpLt, tmLt, AV.lt, AE.lt, AC.lt, LL_cons, LL_nil, idOk, ABlk.lt, ints_LL, GB, uL_LL, gqSt])
  · obtain rfl : k = c := by omega
    obtain ⟨c', rfl⟩ : ∃ c', k = c' + 1 := ⟨k - 1, by omega⟩
    obtain ⟨W, hW⟩ : ∃ W, W = waysR own (c' + 1) r := ⟨_, rfl⟩
    have hWw : wL own (c' + 1) r (c' + 1) = W := by rw [hW]; rfl
    have hWl : W.length = c' + 1 := by rw [hW, waysR_len]
    have hWt : ∀ j, W.getD j 0 < 2 ^ 60 := fun j => by rw [hW]; exact waysR_lt own c60 j
    have hst : gqSt own r (c' + 1) (c' + 1) = ⟨[(0, .c (.int .i64 r)), (1, .c (.int .i64 (c' + 1 : Nat))), (2, .c (.bool own)), (7, .c (.row 0 (c' + 1))), (8, .c (.int .i64 (c' + 1 : Nat)))], [(0, .row 83 1 (uL W))], 1, 123, 0⟩ := by rw [← hWw]; rfl
    rw [hst, ← hW]
    clear hst hWw
    generalize c' + 1 = c at *
    have hI := el_inv hWl hWt
    clear hW hm hwm hp0
    refine Wk.on ?_
    rw [decide_eq_false (show ¬ ((c : Nat) : Int) < ((c : Nat) : Int) by omega)]
    refine Wk.on ?_
    intro _
    refine Wk.on ?_
    refine Tr.loop (md := true) (X := Nat) (st := fun b => ⟨[(0, .c (.int .i64 r)), (1, .c (.int .i64 c)), (7, .c (.row 0 c)), (13, .c (.int .i64 ((elR c W b).2 : Nat))), (14, .c (.int .i64 b))], [(0, .row 83 1 (uL (elR c W b).1))], 1, 123, 0⟩) (inv := fun b => b ≤ c) (μ := fun b => c - b) (x0 := 0) (l := []) tok (by omega) ?_ ?_
    · exact Sub.nil ⟨rfl, rfl, (by simp [uL_LL, gqSt]), rfl, (by simp [tupA, hpLt, tmLt, AV.lt, AE.lt, AC.lt, LL_cons, LL_nil, idOk, ABlk.lt, ints_LL, GB, uL_LL, gqSt]), (by simp [tupA, hpLt, tmLt, AV.lt, AE.lt, AC.lt, LL_cons, LL_nil, idOk, ABlk.lt, ints_LL, GB, uL_LL, gqSt])⟩ (by (repeat (first | exact trivial | refine ⟨trivial, ?_⟩ | refine ⟨rfl, ?_⟩))) (by (repeat (first | exact trivial | refine ⟨trivial, ?_⟩ | refine ⟨rfl, ?_⟩)))
    intro b hb
    obtain ⟨Ll, Lt, Lr⟩ := hI b
    have hes : elR c W (b + 1) = elS c b (elR c W b) := rfl
    by_cases hbc : b < c
    · generalize elR c W b = S at *
      obtain ⟨L, k0⟩ := S
      dsimp only at Ll Lt Lr
      have Lul : (uL L).length = c := by rw [uL_len, Ll]
      refine Wk.on ?_
      rw [decide_eq_true (show ((b : Nat) : Int) < ((c : Nat) : Int) by omega)]
      refine Wk.on ?_
      refine Tr.loop (md := true) (X := Nat) (st := fun j => ⟨[(0, .c (.int .i64 r)), (1, .c (.int .i64 c)), (7, .c (.row 0 c)), (13, .c (.int .i64 k0)), (14, .c (.int .i64 b)), (15, .c (.int .i64 j))], [(0, .row 83 1 (uL L))], 1, 123, 0⟩) (inv := fun j => k0 ≤ j ∧ j ≤ c ∧ ∀ i, k0 ≤ i → i < j → (L.getD i 0).testBit b = false) (μ := fun j => c - j) (x0 := k0) (l := []) tok ⟨Nat.le_refl _, by omega, fun i h1 h2 => by omega⟩ ?_ ?_
      · exact Sub.nil ⟨rfl, rfl, (by simp [uL_LL, gqSt]), rfl, (by simp [tupA, hpLt, tmLt, AV.lt, AE.lt, AC.lt, LL_cons, LL_nil, idOk, ABlk.lt, ints_LL, GB, uL_LL, gqSt]), (by simp [tupA, hpLt, tmLt, AV.lt, AE.lt, AC.lt, LL_cons, LL_nil, idOk, ABlk.lt, ints_LL, GB, uL_LL, gqSt])⟩ (by (repeat (first | exact trivial | refine ⟨trivial, ?_⟩ | refine ⟨rfl, ?_⟩))) (by (repeat (first | exact trivial | refine ⟨trivial, ?_⟩ | refine ⟨rfl, ?_⟩)))
      rintro j ⟨hj1, hj2, hj3⟩
      by_cases hjc : j < c
      · refine Wk.on ?_
        rw [decide_eq_true (show ((j : Nat) : Int) < ((c : Nat) : Int) by omega)]
        refine Wk.on ?_
        rw [uget]
        have hx := Lt j
        obtain ⟨x, hxe⟩ : ∃ x, x = L.getD j 0 := ⟨_, rfl⟩
        rw [← hxe] at hx ⊢
        refine Wk.on ?_
        obtain ⟨y, hy⟩ : ∃ y, y = x / 2 ^ b := ⟨_, rfl⟩
        rw [ishr x b, ← hy]
        refine ⟨⟨by omega, by decide⟩, ?_⟩
        refine Wk.on ?_
        have hbit : x.testBit b = decide (y % 2 = 1) := by rw [hy]; exact Nat.testBit_eq_decide_div_mod_eq
        by_cases hy0 : y % 2 = 0
        · rw [decide_eq_true (show ((y : Nat) : Int) % 2 = 0 by omega)]
          refine Wk.on ?_
          have hbf : (L.getD j 0).testBit b = false := by rw [← hxe, hbit]; exact decide_eq_false (by omega)
          have hnx : ∀ i, k0 ≤ i → i < j + 1 → (L.getD i 0).testBit b = false := fun i h1 h2 => by
            by_cases h : i = j
            · rw [h]; exact hbf
            · exact hj3 i h1 (by omega)
          refine Again.mk (j + 1) (Sub.nil ⟨rfl, rfl, (by simp [uL_LL, gqSt]), rfl, (by simp [tupA, hpLt, tmLt, AV.lt, AE.lt, AC.lt, LL_cons, LL_nil, idOk, ABlk.lt, ints_LL, GB, uL_LL, gqSt]), (by simp [tupA, hpLt, tmLt, AV.lt, AE.lt, AC.lt, LL_cons, LL_nil, idOk, ABlk.lt, ints_LL, GB, uL_LL, gqSt])⟩ (by (repeat (first | exact trivial | refine ⟨trivial, ?_⟩ | refine ⟨rfl, ?_⟩))) (by (repeat (first | exact trivial | refine ⟨trivial, ?_⟩ | refine ⟨rfl, ?_⟩)))) (⟨by omega, by omega, hnx⟩) (by omega)
        · rw [decide_eq_false (show ¬ ((y : Nat) : Int) % 2 = 0 by omega)]
          refine Wk.on ?_
          have hbt : (L.getD j 0).testBit b = true := by rw [← hxe, hbit]; exact decide_eq_true (by omega)
          have hfk := fndK_is hj1 hjc hbt hj3
          have hes2 : elR c W (b + 1) = (addW c b k0 x (swpL L j k0), k0 + 1) := by
            rw [hes]; unfold elS; dsimp only; rw [hfk, hxe]
          rw [decide_eq_false (show ¬ ((j : Nat) : Int) = ((c : Nat) : Int) by omega)]
          refine Wk.on ?_
          rw [uget L j, ← hxe, uget L k0]
          refine ⟨⟨rfl, by rw [List.length_set, Lul, Int.toNat_natCast]; omega⟩, ?_⟩
          obtain ⟨M, hM⟩ : ∃ M, M = swpL L j k0 := ⟨_, rfl⟩
          have hMl : M.length = c := by rw [hM, swpL, List.length_set, List.length_set, Ll]
          have hMt : ∀ i, M.getD i 0 < 2 ^ 60 := fun i => by
            rw [hM, swpL_get (by omega) (by omega)]
            split
            · exact Lt j
            · split
              · exact Lt k0
              · exact Lt i
          have hset : ((uL L).set ((j : Int).toNat * 1) (.int .u64 ((L.getD k0 0 : Nat) : Int))).set ((k0 : Int).toNat * 1) (.int .u64 ((x : Nat) : Int)) = uL M := by
            rw [Int.toNat_natCast, Int.toNat_natCast, Nat.mul_one, Nat.mul_one, uL_set, uL_set, hxe, hM]; rfl
          rw [← hM] at hes2
          refine Wk.on ?_
          refine Tr.loop (md := true) (X := Nat) (st := fun i => ⟨[(0, .c (.int .i64 r)), (1, .c (.int .i64 c)), (7, .c (.row 0 c)), (13, .c (.int .i64 k0)), (14, .c (.int .i64 b)), (16, .c (.int .u64 x)), (17, .c (.int .i64 i))], [(0, .row 83 1 (uL (addT c b k0 x i M)))], 1, 123, 0⟩) (inv := fun i => i ≤ c) (μ := fun i => c - i) (x0 := 0) (l := []) tok (by omega) ?_ ?_
          · exact Sub.nil ⟨rfl, rfl, (by simp [uL_LL, gqSt]), rfl, (by simp [tupA, hpLt, tmLt, AV.lt, AE.lt, AC.lt, LL_cons, LL_nil, idOk, ABlk.lt, ints_LL, GB, uL_LL, gqSt]), (by simp [tupA, hpLt, tmLt, AV.lt, AE.lt, AC.lt, LL_cons, LL_nil, idOk, ABlk.lt, ints_LL, GB, uL_LL, gqSt])⟩ (by (repeat (first | exact trivial | refine ⟨trivial, ?_⟩ | refine ⟨rfl, ?_⟩))) ⟨by rw [addT_zero hMl, ← hset]; rfl, trivial⟩
          intro i hi
          have hTl : (uL (addT c b k0 x i M)).length = c := by rw [uL_len, addT_len]
          by_cases hic : i < c
          · refine Wk.on ?_
            rw [decide_eq_true (show ((i : Nat) : Int) < ((c : Nat) : Int) by omega)]
            refine Wk.on ?_
            by_cases hik : i = k0
            · subst hik
              have hsk := addT_skip (c := c) (b := b) (r := i) (w := x) (i := i) (M := M) (fun h => h.1 rfl)
              rw [decide_eq_false (fun h : ((i : Nat) : Int) ≠ ((i : Nat) : Int) => h rfl)]
              refine Wk.on ?_
              refine Again.mk (i + 1) (Sub.nil ⟨rfl, rfl, (by simp [uL_LL, gqSt]), rfl, (by simp [tupA, hpLt, tmLt, AV.lt, AE.lt, AC.lt, LL_cons, LL_nil, idOk, ABlk.lt, ints_LL, GB, uL_LL, gqSt]), (by simp [tupA, hpLt, tmLt, AV.lt, AE.lt, AC.lt, LL_cons, LL_nil, idOk, ABlk.lt, ints_LL, GB, uL_LL, gqSt])⟩ (by (repeat (first | exact trivial | refine ⟨trivial, ?_⟩ | refine ⟨rfl, ?_⟩))) ⟨by rw [hsk]; rfl, trivial⟩) (by omega) (by omega)
            · have hu := hMt i
              have hget : (addT c b k0 x i M).getD i 0 = M.getD i 0 := by rw [addT_get hic, if_neg (by omega)]
              obtain ⟨u, hue⟩ : ∃ u, u = M.getD i 0 := ⟨_, rfl⟩
              rw [← hue] at hu hget
              obtain ⟨y2, hy2⟩ : ∃ y, y = u / 2 ^ b := ⟨_, rfl⟩
              have hbit2 : u.testBit b = decide (y2 % 2 = 1) := by rw [hy2]; exact Nat.testBit_eq_decide_div_mod_eq
              rw [decide_eq_true (show ((i : Nat) : Int) ≠ ((k0 : Nat) : Int) by omega)]
              refine Wk.on ?_
              rw [uget, hget]
              refine Wk.on ?_
              rw [ishr u b, ← hy2]
              refine ⟨⟨by omega, by decide⟩, ?_⟩
              refine Wk.on ?_
              by_cases h1 : y2 % 2 = 1
              · have hpt := addT_put (b := b) (r := k0) (w := x) (i := i) (M := M) hic ⟨hik, by rw [← hue, hbit2]; exact decide_eq_true h1⟩
                rw [← hue] at hpt
                rw [decide_eq_true (show ((y2 : Nat) : Int) % 2 = 1 by omega)]
                refine Wk.on ?_
                rw [uget, hget]
                refine Wk.on ?_
                have hst2 : (uL (addT c b k0 x i M)).set ((i : Int).toNat * 1) (.int .u64 ((((u : Nat) : Int).toNat ^^^ ((x : Nat) : Int).toNat : Nat) : Int)) = uL (addT c b k0 x (i + 1) M) := by
                  rw [Int.toNat_natCast, Int.toNat_natCast, Int.toNat_natCast, Nat.mul_one, uL_set, hpt]
                refine Again.mk (i + 1) (Sub.nil ⟨rfl, rfl, (by simp [uL_LL, gqSt]), rfl, (by simp [tupA, hpLt, tmLt, AV.lt, AE.lt, AC.lt, LL_cons, LL_nil, idOk, ABlk.lt, ints_LL, GB, uL_LL, gqSt]), (by simp [tupA, hpLt, tmLt, AV.lt, AE.lt, AC.lt, LL_cons, LL_nil, idOk, ABlk.lt, ints_LL, GB, uL_LL, gqSt])⟩ (by (repeat (first | exact trivial | refine ⟨trivial, ?_⟩ | refine ⟨rfl, ?_⟩))) ⟨by rw [← hst2]; rfl, trivial⟩) (by omega) (by omega)
              · have hsk := addT_skip (c := c) (b := b) (r := k0) (w := x) (i := i) (M := M) (fun h => by rw [← hue, hbit2] at h; exact h1 (of_decide_eq_true h.2))
                rw [decide_eq_false (show ¬ ((y2 : Nat) : Int) % 2 = 1 by omega)]
                refine Wk.on ?_
                refine Again.mk (i + 1) (Sub.nil ⟨rfl, rfl, (by simp [uL_LL, gqSt]), rfl, (by simp [tupA, hpLt, tmLt, AV.lt, AE.lt, AC.lt, LL_cons, LL_nil, idOk, ABlk.lt, ints_LL, GB, uL_LL, gqSt]), (by simp [tupA, hpLt, tmLt, AV.lt, AE.lt, AC.lt, LL_cons, LL_nil, idOk, ABlk.lt, ints_LL, GB, uL_LL, gqSt])⟩ (by (repeat (first | exact trivial | refine ⟨trivial, ?_⟩ | refine ⟨rfl, ?_⟩))) ⟨by rw [hsk]; rfl, trivial⟩) (by omega) (by omega)
          · obtain rfl : i = c := by omega
            refine Wk.on ?_
            rw [decide_eq_false (show ¬ ((i : Nat) : Int) < ((i : Nat) : Int) by omega)]
            refine Wk.on ?_
            intro _
            refine Wk.on ?_
            rw [addT_all] at hTl ⊢
            refine Again.mk (b + 1) (Sub.nil ⟨rfl, rfl, (by simp [uL_LL, gqSt]), rfl, (by simp [tupA, hpLt, tmLt, AV.lt, AE.lt, AC.lt, LL_cons, LL_nil, idOk, ABlk.lt, ints_LL, GB, uL_LL, gqSt]), (by simp [tupA, hpLt, tmLt, AV.lt, AE.lt, AC.lt, LL_cons, LL_nil, idOk, ABlk.lt, ints_LL, GB, uL_LL, gqSt])⟩ ⟨rfl, rfl, rfl, by rw [hes2]; rfl, rfl, trivial⟩ ⟨by rw [hes2]; rfl, trivial⟩) (by show b + 1 ≤ i; omega) (by show i - (b + 1) < i - b; omega)
      · obtain rfl : j = c := by omega
        have hfk := fndK_isn hj3
        have hes2 : elR j W (b + 1) = (L, k0) := by
          rw [hes]; unfold elS; dsimp only; rw [hfk]
        refine Wk.on ?_
        rw [decide_eq_false (show ¬ ((j : Nat) : Int) < ((j : Nat) : Int) by omega)]
        refine Wk.on ?_
        intro _
        refine Wk.on ?_
        rw [decide_eq_true (show ((j : Nat) : Int) = ((j : Nat) : Int) from rfl)]
        refine Wk.on ?_
        refine Again.mk (b + 1) (Sub.nil ⟨rfl, rfl, (by simp [uL_LL, gqSt]), rfl, (by simp [tupA, hpLt, tmLt, AV.lt, AE.lt, AC.lt, LL_cons, LL_nil, idOk, ABlk.lt, ints_LL, GB, uL_LL, gqSt]), (by simp [tupA, hpLt, tmLt, AV.lt, AE.lt, AC.lt, LL_cons, LL_nil, idOk, ABlk.lt, ints_LL, GB, uL_LL, gqSt])⟩ ⟨rfl, rfl, rfl, by rw [hes2]; rfl, rfl, trivial⟩ ⟨by rw [hes2]; rfl, trivial⟩) (by show b + 1 ≤ j; omega) (by show j - (b + 1) < j - b; omega)
    · obtain rfl : b = c := by omega
      refine Wk.on ?_
      rw [decide_eq_false (show ¬ ((b : Nat) : Int) < ((b : Nat) : Int) by omega)]
      refine Wk.on ?_
      intro _
      refine Wk.on ?_
      exact AH.Fin.nil2 ⟨rfl, rfl, rfl⟩
end Go.Proofs.YtimknijehaamlaaDoor
