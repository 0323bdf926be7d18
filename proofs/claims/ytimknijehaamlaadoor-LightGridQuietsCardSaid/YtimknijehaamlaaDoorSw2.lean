/-
  Contracts: sorting of at most twelve numbers.
-/
import Derived.Test.YtimknijehaamlaaDoorSw1
set_option linter.unusedSimpArgs false
set_option linter.unusedVariables false
namespace Go.Proofs.YtimknijehaamlaaDoor
open Go Go.AH Go.Lin
set_option maxRecDepth 100000
set_option maxHeartbeats 1000000

theorem isNaN_spec (x : Int) : FDet Tryd.prog 92 [.c (.int .i64 x)] [] 0 (.c (.bool false)) [] 0 := by
  refine FSpec.body2 tok true Tryd.func92 ?_
  refine Wk.on ?_
  exact AH.Fin.nil2 ⟨by show AV.c (.bool (decide (x ≠ x))) = _; simp, rfl, rfl⟩
theorem Less_spec (x y : Int) : FDet Tryd.prog 108 [.c (.int .i64 x), .c (.int .i64 y)] [] 0 (.c (.bool (asc x y))) [] 0 := by
  refine FSpec.body2 tok true Tryd.func108 ?_
  refine Wk.on ?_
  refine CallA.ro2 [] (.c (.bool false)) (isNaN_spec x) ?_
  refine Wk.on ?_
  by_cases h : x < y
  · rw [decide_eq_true h]
    refine Wk.on ?_
    exact AH.Fin.nil2 ⟨by rw [asc, decide_eq_true h]; rfl, rfl, rfl⟩
  · rw [decide_eq_false h]
    refine Wk.on ?_
    exact AH.Fin.nil2 ⟨by rw [asc, decide_eq_false h]; rfl, rfl, rfl⟩
theorem tidied1_spec (x y : Nat) (hx : x < 65536) (hy : y < 65536) : FDet Tryd.prog 73 [.c (.int .i64 x), .c (.int .i64 y)] [] 0 (.c (.int .i64 (y - x))) [] 0 := by
  refine FSpec.body2 tok true Tryd.func73 ?_
  refine Wk.on ?_
  exact AH.Fin.nil2 ⟨rfl, rfl, rfl⟩
/-- What the list is when its first i elements are in order. -/
def iS (lt : Int → Int → Bool) (L : List Int) (i : Nat) : List Int := (isortR lt (L.take i)).reverse ++ L.drop i
theorem iS_full (lt : Int → Int → Bool) (L : List Int) {i : Nat} (h : L.length ≤ i) : iS lt L i = isort lt L := by
  rw [iS, List.take_of_length_le h, List.drop_of_length_le h, List.append_nil, isort]
theorem iS_succ (lt : Int → Int → Bool) (L : List Int) {i : Nat} (h : i < L.length) : iS lt L (i + 1) = (insR lt L[i] (isortR lt (L.take i))).reverse ++ L.drop (i + 1) := by
  rw [iS, List.take_add_one, List.getElem?_eq_getElem h]
  simp only [isortR, Option.toList_some, List.foldl_append, List.foldl_cons, List.foldl_nil]
theorem iS_one (lt : Int → Int → Bool) (L : List Int) : iS lt L 1 = L := by
  cases L with
  | nil => rfl
  | cons x L => simp [iS, isortR, insR]
theorem iS_at (lt : Int → Int → Bool) (L : List Int) {i : Nat} (h : i < L.length) : iS lt L i = (isortR lt (L.take i)).reverse ++ L[i] :: ([] ++ L.drop (i + 1)) := by
  rw [iS, List.nil_append, List.drop_eq_getElem_cons h]
theorem isortR_len (lt : Int → Int → Bool) (L : List Int) : (isortR lt L).length = L.length := (isortR_perm lt L).length_eq
theorem swap_eq (A : List Int) (y x : Int) (B : List Int) : ((A ++ [y] ++ x :: B).set (A.length + 1) y).set A.length x = A ++ x :: (y :: B) := by
  rw [List.append_assoc, List.singleton_append, List.set_append_right _ _ (by omega), show A.length + 1 - A.length = 1 by omega, List.set_cons_succ, List.set_cons_zero, List.set_append_right _ _ (by omega), Nat.sub_self, List.set_cons_zero]
theorem get_x (A : List Int) (y x : Int) (B : List Int) : (A ++ [y] ++ x :: B).getD (A.length + 1) 0 = x ∧ (A ++ [y] ++ x :: B).getD A.length 0 = y := by
  constructor
  · rw [List.getD_eq_getElem?_getD, List.getElem?_append_right (by simp)]; simp
  · rw [List.getD_eq_getElem?_getD, List.append_assoc, List.getElem?_append_right (by simp)]; simp

theorem insort_spec (L : List Int) (hL : L.length ≤ 1000) : FDet Tryd.prog 102 [.c (.row 0 L.length), .c (.int .i64 0), .c (.int .i64 L.length)] [(0, .row 3 1 (ints L))] 1 (.t []) [(0, .row 3 1 (ints (isort asc L)))] 1 := by
  refine FSpec.body2 tok true Tryd.func102 ?_
  refine Wk.on ?_
  refine Tr.loop (md := true) (X := Nat) (st := fun i => ⟨[(0, .c (.row 0 L.length)), (1, .c (.int .i64 0)), (2, .c (.int .i64 L.length)), (6, .c (.int .i64 i))], [(0, .row 3 1 (ints (iS asc L i)))], 1, 49, 1⟩) (inv := fun i => 1 ≤ i ∧ i ≤ 1001) (μ := fun i => 1001 - i) (x0 := 1) (l := []) tok ⟨by omega, by omega⟩ ?_ ?_
  · exact Sub.nil ⟨rfl, rfl, (by simp), rfl, (by simp [tupA, hpLt, tmLt, AV.lt, AE.lt, AC.lt, LL_cons, LL_nil, idOk, ABlk.lt, ints_LL, GB]), (by simp [tupA, hpLt, tmLt, AV.lt, AE.lt, AC.lt, LL_cons, LL_nil, idOk, ABlk.lt, ints_LL, GB])⟩ (by (repeat (first | exact trivial | refine ⟨trivial, ?_⟩ | refine ⟨rfl, ?_⟩))) ⟨by rw [iS_one]; rfl, trivial⟩
  · rintro i ⟨h1, h2⟩
    by_cases hi : i < L.length
    · obtain ⟨P, hP⟩ : ∃ P, P = (isortR asc (L.take i)).reverse := ⟨_, rfl⟩
      obtain ⟨x, hx⟩ : ∃ x, x = L[i] := ⟨_, rfl⟩
      obtain ⟨S, hS⟩ : ∃ S, S = L.drop (i + 1) := ⟨_, rfl⟩
      have hat := iS_at asc L hi
      have hsu := iS_succ asc L hi
      rw [← hP, ← hx, ← hS] at hat
      rw [← hx, ← hS] at hsu
      have hPl : P.length = i := by rw [hP, List.length_reverse, isortR_len, List.length_take]; omega
      have hSl : S.length + (i + 1) = L.length := by rw [hS, List.length_drop]; omega
      have hPr : isortR asc (L.take i) = P.reverse := by rw [hP, List.reverse_reverse]
      rw [hPr] at hsu
      have hmem : ∀ y ∈ P ++ x :: ([] ++ S), y ∈ L := fun y hy => by
        have hp : (P ++ x :: ([] ++ S)).Perm L := by
          rw [← hat, iS, hPr, List.reverse_reverse]
          have h3 : P.Perm (L.take i) := by rw [hP]; exact (List.reverse_perm _).trans (isortR_perm _ _)
          exact (h3.append_right _).trans (by rw [List.take_append_drop])
        exact hp.mem_iff.1 hy
      have hxL : x ∈ L := hmem x (by simp)
      rw [hat]
      clear hP hx hS hPr hat
      refine Wk.on ?_
      rw [decide_eq_true (show ((i : Nat) : Int) < ((L.length : Nat) : Int) by omega)]
      refine Wk.on ?_
      refine Tr.loop (md := true) (X := List Int × List Int) (st := fun q => ⟨[(0, .c (.row 0 L.length)), (1, .c (.int .i64 0)), (2, .c (.int .i64 L.length)), (6, .c (.int .i64 i)), (7, .c (.int .i64 q.1.length))], [(0, .row 3 1 (ints (q.1 ++ x :: (q.2 ++ S))))], 1, 49, 1⟩) (inv := fun q => q.1.length + q.2.length = i ∧ (insR asc x q.1.reverse).reverse ++ q.2 = (insR asc x P.reverse).reverse ∧ ∀ y ∈ q.1, y ∈ L) (μ := fun q => q.1.length) (x0 := (P, [])) (l := []) tok ⟨by simp [hPl], by simp, fun y hy => hmem y (List.mem_append_left _ hy)⟩ ?_ ?_
      · exact Sub.nil ⟨rfl, rfl, (by simp), rfl, (by simp [tupA, hpLt, tmLt, AV.lt, AE.lt, AC.lt, LL_cons, LL_nil, idOk, ABlk.lt, ints_LL, GB]), (by simp [tupA, hpLt, tmLt, AV.lt, AE.lt, AC.lt, LL_cons, LL_nil, idOk, ABlk.lt, ints_LL, GB])⟩ ⟨rfl, rfl, rfl, rfl, by rw [hPl]; rfl, trivial⟩ (by (repeat (first | exact trivial | refine ⟨trivial, ?_⟩ | refine ⟨rfl, ?_⟩)))
      · rintro ⟨A, B⟩ ⟨hl, hin, hA⟩
        dsimp only at hl hin hA ⊢
        by_cases hA0 : A = []
        · subst hA0
          refine Wk.on ?_
          refine Tr.draw (md := true) [⟨[], [17], [], [], []⟩, ⟨[], [16], [0], [], []⟩, ⟨[0, 1], [], [], [], []⟩, ⟨[0, 1, 2], [], [], [], []⟩, ⟨[0, 1, 2, 3], [21, 24, 25, 26, 27, 28], [], [], []⟩, ⟨[0, 1, 2, 3], [20, 24, 25, 26, 27, 28], [4], [], []⟩, ⟨[0, 1, 2, 3, 4, 5], [24, 25, 26, 27, 28], [], [], []⟩, ⟨[0, 1, 2, 3, 4, 5, 6], [24, 25, 26, 27, 28], [], [], []⟩, ⟨[0, 1, 2, 3], [20, 21, 22, 23, 25, 26], [4, 5, 6, 7], [], []⟩, ⟨[0, 1, 2, 3], [20, 21, 22, 23, 24], [4, 5, 6, 7, 8], [], []⟩, ⟨[0, 1, 2, 3, 9], [20, 21, 22, 23, 24], [4, 5, 6, 7, 8], [], []⟩, ⟨[0, 1, 2, 3, 8, 9, 10], [20, 21, 22, 23], [4, 5, 6, 7], [], []⟩, ⟨[0, 1, 2, 3, 8, 9, 10, 11], [20, 21, 22, 23], [4, 5, 6, 7], [], []⟩] tok (by kernel_rfl) (by kernel_rfl) ?_
          refine Wk.on ?_
          refine Again.mk (i + 1) (Sub.nil ⟨rfl, rfl, (by simp), rfl, (by simp [tupA, hpLt, tmLt, AV.lt, AE.lt, AC.lt, LL_cons, LL_nil, idOk, ABlk.lt, ints_LL, GB]), (by simp [tupA, hpLt, tmLt, AV.lt, AE.lt, AC.lt, LL_cons, LL_nil, idOk, ABlk.lt, ints_LL, GB])⟩ (by (repeat (first | exact trivial | refine ⟨trivial, ?_⟩ | refine ⟨rfl, ?_⟩))) ⟨by show ABlk.row 3 1 (ints _) = ABlk.row 3 1 (ints _); rw [hsu, ← hin]; simp [insR], trivial⟩) (⟨by omega, by omega⟩) (by omega)
        · obtain ⟨A', y, rfl⟩ : ∃ A' y, A = A' ++ [y] := ⟨A.dropLast, A.getLast hA0, (List.dropLast_concat_getLast hA0).symm⟩
          rw [List.length_append, List.length_singleton] at hl
          have hlen : (ints (A' ++ [y] ++ x :: (B ++ S))).length = L.length := by simp [ints_len]; omega
          obtain ⟨g1, g2⟩ := get_x A' y x (B ++ S)
          have hsw := swap_eq A' y x (B ++ S)
          have e1 : (A' ++ [y]).length = A'.length + 1 := by simp
          have hyL : y ∈ L := hA y (by simp)
          have hr1 : (A' ++ [y]).reverse = y :: A'.reverse := by simp
          have k1 : (((A'.length + 1 : Nat) : Int)).toNat = A'.length + 1 := Int.toNat_natCast _
          have k2 : (((A'.length + 1 : Nat) : Int) - 1).toNat = A'.length := by omega
          rw [hr1] at hin
          rw [e1]
          generalize hj : A'.length = j at *
          generalize hV : A' ++ [y] ++ x :: (B ++ S) = V at *
          have hb1 : (0 : Int) ≤ ((j + 1 : Nat) : Int) ∧ ((j + 1 : Nat) : Int) < ((L.length : Nat) : Int) := by omega
          have hb2 : (0 : Int) ≤ ((j + 1 : Nat) : Int) - 1 ∧ ((j + 1 : Nat) : Int) - 1 < ((L.length : Nat) : Int) := by omega
          refine Wk.on ?_
          refine Tr.draw (md := true) [⟨[], [17], [], [], []⟩, ⟨[], [16], [0], [], []⟩, ⟨[0, 1], [], [], [], []⟩, ⟨[0, 1, 2], [], [], [], []⟩, ⟨[0, 1, 2, 3], [21, 24, 25, 26, 27, 28], [], [], []⟩, ⟨[0, 1, 2, 3], [20, 24, 25, 26, 27, 28], [4], [], []⟩, ⟨[0, 1, 2, 3, 4, 5], [24, 25, 26, 27, 28], [], [], []⟩, ⟨[0, 1, 2, 3, 4, 5, 6], [24, 25, 26, 27, 28], [], [], []⟩, ⟨[0, 1, 2, 3], [20, 21, 22, 23, 25, 26], [4, 5, 6, 7], [], []⟩, ⟨[0, 1, 2, 3], [20, 21, 22, 23, 24], [4, 5, 6, 7, 8], [], []⟩, ⟨[0, 1, 2, 3, 9], [20, 21, 22, 23, 24], [4, 5, 6, 7, 8], [], []⟩, ⟨[0, 1, 2, 3, 8, 9, 10], [20, 21, 22, 23], [4, 5, 6, 7], [], []⟩, ⟨[0, 1, 2, 3, 8, 9, 10, 11], [20, 21, 22, 23], [4, 5, 6, 7], [], []⟩] tok (by kernel_rfl) (by kernel_rfl) ?_
          refine Wk.on ?_
          rw [decide_eq_true (show (0 : Int) < ((j + 1 : Nat) : Int) by omega)]
          refine Wk.on ?_
          simp only [ints_getD, Nat.mul_one, Nat.zero_add, k1, k2, g1, g2]
          refine CallA.ro2 [] (.c (.bool (asc x y))) (Less_spec x y) ?_
          refine Wk.on ?_
          cases hlt : asc x y with
          | true =>
            refine Wk.on ?_
            refine Tr.draw (md := true) [⟨[], [34, 35, 36, 37, 38, 39, 40, 41, 42, 43, 44, 45, 46], [], [], []⟩, ⟨[], [33, 35, 36, 37, 38, 39, 40, 41, 42, 43, 44, 45, 46], [0], [], []⟩, ⟨[], [33, 34, 36, 37, 38, 39, 40, 41, 42, 43, 44, 45, 46, 47], [0, 1], [], [0]⟩, ⟨[], [33, 34, 35, 38, 39, 40, 41, 42, 43, 44, 45, 46, 47], [0, 1, 2], [], [0]⟩, ⟨[3], [33, 34, 35, 38, 39, 40, 41, 42, 43, 44, 45, 46, 47], [0, 1, 2], [], [0]⟩, ⟨[], [33, 34, 35, 36, 37, 39, 40, 43, 44, 45, 46], [0, 1, 2, 3, 4], [], []⟩, ⟨[], [33, 34, 35, 36, 37, 38, 43, 44, 45, 46], [0, 1, 2, 3, 4, 5], [], []⟩, ⟨[6], [33, 34, 35, 36, 37, 38, 43, 44, 45, 46], [0, 1, 2, 3, 4, 5], [], []⟩, ⟨[5, 6, 7], [33, 34, 35, 36, 37, 43, 44, 45, 46], [0, 1, 2, 3, 4], [], []⟩, ⟨[5, 6, 7, 8], [33, 34, 35, 36, 37, 43, 44, 45, 46], [0, 1, 2, 3, 4], [], []⟩, ⟨[], [33, 34, 35, 36, 37, 38, 39, 40, 41, 42, 44], [0, 1, 2, 3, 4, 5, 6, 7, 8, 9], [], []⟩, ⟨[], [33, 34, 35, 36, 37, 38, 39, 40, 41, 42, 43], [0, 1, 2, 3, 4, 5, 6, 7, 8, 9, 10], [], []⟩, ⟨[10, 11], [33, 34, 35, 36, 37, 38, 39, 40, 41, 42], [0, 1, 2, 3, 4, 5, 6, 7, 8, 9], [], []⟩, ⟨[10, 11, 12], [33, 34, 35, 36, 37, 38, 39, 40, 41, 42], [0, 1, 2, 3, 4, 5, 6, 7, 8, 9], [], []⟩, ⟨[0, 1, 5, 6, 7, 8, 9, 10, 11, 12, 13], [35, 36, 37], [2, 3, 4], [], []⟩, ⟨[0, 1, 5, 6, 7, 8, 9, 10, 11, 12, 13, 14], [35, 36, 37], [2, 3, 4], [0], []⟩] tok (by kernel_rfl) (by kernel_rfl) ?_
            refine Wk.on ?_
            refine ⟨⟨rfl, by rw [List.length_set]; omega⟩, ?_⟩
            refine Wk.on ?_
            refine Again.mk (A', y :: B) (Sub.nil ⟨rfl, rfl, (by simp), rfl, (by simp [tupA, hpLt, tmLt, AV.lt, AE.lt, AC.lt, LL_cons, LL_nil, idOk, ABlk.lt, ints_LL, GB]), (by simp [tupA, hpLt, tmLt, AV.lt, AE.lt, AC.lt, LL_cons, LL_nil, idOk, ABlk.lt, ints_LL, GB])⟩ ⟨rfl, rfl, rfl, rfl, by show AV.c (.int .i64 _) = AV.c (.int .i64 _); rw [hj]; congr 2; omega, trivial⟩ ⟨by show ABlk.row 3 1 (((ints V).set _ ((ints V).getD _ (.int .i64 0))).set _ ((ints V).getD _ (.int .i64 0))) = ABlk.row 3 1 (ints _); simp only [ints_getD, Nat.mul_one, Nat.zero_add, k1, k2, g1, g2, ints_set, hsw]; rfl, trivial⟩) ⟨by show A'.length + (y :: B).length = i; rw [hj, List.length_cons]; omega, by rw [← hin, insR, hlt]; simp, fun z hz => hA z (by simp [hz])⟩ (by show A'.length < j + 1; omega)
          | false =>
            refine Wk.on ?_
            refine Again.mk (i + 1) (Sub.nil ⟨rfl, rfl, (by simp), rfl, (by simp [tupA, hpLt, tmLt, AV.lt, AE.lt, AC.lt, LL_cons, LL_nil, idOk, ABlk.lt, ints_LL, GB]), (by simp [tupA, hpLt, tmLt, AV.lt, AE.lt, AC.lt, LL_cons, LL_nil, idOk, ABlk.lt, ints_LL, GB])⟩ (by (repeat (first | exact trivial | refine ⟨trivial, ?_⟩ | refine ⟨rfl, ?_⟩))) ⟨by show ABlk.row 3 1 (ints _) = ABlk.row 3 1 (ints _); rw [hsu, ← hin, insR, hlt]; simp [← hV], trivial⟩) (⟨by omega, by omega⟩) (by omega)
    · refine Wk.on ?_
      rw [decide_eq_false (show ¬ ((i : Nat) : Int) < ((L.length : Nat) : Int) by omega)]
      refine Wk.on ?_
      exact Fin.nil [(0, .row 3 1 (ints (isort asc L)))] ⟨rfl, rfl, rfl⟩ (by simp [tupA, AV.lt]) ⟨by show ABlk.row 3 1 (ints _) = ABlk.row 3 1 (ints _); rw [iS_full asc L (by omega)], trivial⟩ (by simp [tupA, hpLt, tmLt, AV.lt, AE.lt, AC.lt, LL_cons, LL_nil, idOk, ABlk.lt, ints_LL, GB]) rfl (by simp [GB])
theorem insortC_spec (L : List Int) (hL : L.length ≤ 1000) (hs : ∀ y ∈ L, 0 ≤ y ∧ y < 65536) : FDet Tryd.prog 94 [.c (.row 0 L.length), .c (.int .i64 0), .c (.int .i64 L.length), .c (.fn 73 [] [])] [(0, .row 3 1 (ints L))] 1 (.t []) [(0, .row 3 1 (ints (isort desc L)))] 1 := by
  refine FSpec.body2 tok true Tryd.func94 ?_
  refine Wk.on ?_
  refine Tr.loop (md := true) (X := Nat) (st := fun i => ⟨[(0, .c (.row 0 L.length)), (1, .c (.int .i64 0)), (2, .c (.int .i64 L.length)), (3, .c (.fn 73 [] [])), (8, .c (.int .i64 i))], [(0, .row 3 1 (ints (iS desc L i)))], 1, 53, 1⟩) (inv := fun i => 1 ≤ i ∧ i ≤ 1001) (μ := fun i => 1001 - i) (x0 := 1) (l := []) tok ⟨by omega, by omega⟩ ?_ ?_
  · exact Sub.nil ⟨rfl, rfl, (by simp), rfl, (by simp [tupA, hpLt, tmLt, AV.lt, AE.lt, AC.lt, LL_cons, LL_nil, idOk, ABlk.lt, ints_LL, GB]), (by simp [tupA, hpLt, tmLt, AV.lt, AE.lt, AC.lt, LL_cons, LL_nil, idOk, ABlk.lt, ints_LL, GB])⟩ (by (repeat (first | exact trivial | refine ⟨trivial, ?_⟩ | refine ⟨rfl, ?_⟩))) ⟨by rw [iS_one]; rfl, trivial⟩
  · rintro i ⟨h1, h2⟩
    by_cases hi : i < L.length
    · obtain ⟨P, hP⟩ : ∃ P, P = (isortR desc (L.take i)).reverse := ⟨_, rfl⟩
      obtain ⟨x, hx⟩ : ∃ x, x = L[i] := ⟨_, rfl⟩
      obtain ⟨S, hS⟩ : ∃ S, S = L.drop (i + 1) := ⟨_, rfl⟩
      have hat := iS_at desc L hi
      have hsu := iS_succ desc L hi
      rw [← hP, ← hx, ← hS] at hat
      rw [← hx, ← hS] at hsu
      have hPl : P.length = i := by rw [hP, List.length_reverse, isortR_len, List.length_take]; omega
      have hSl : S.length + (i + 1) = L.length := by rw [hS, List.length_drop]; omega
      have hPr : isortR desc (L.take i) = P.reverse := by rw [hP, List.reverse_reverse]
      rw [hPr] at hsu
      have hmem : ∀ y ∈ P ++ x :: ([] ++ S), y ∈ L := fun y hy => by
        have hp : (P ++ x :: ([] ++ S)).Perm L := by
          rw [← hat, iS, hPr, List.reverse_reverse]
          have h3 : P.Perm (L.take i) := by rw [hP]; exact (List.reverse_perm _).trans (isortR_perm _ _)
          exact (h3.append_right _).trans (by rw [List.take_append_drop])
        exact hp.mem_iff.1 hy
      have hxL : x ∈ L := hmem x (by simp)
      rw [hat]
      clear hP hx hS hPr hat
      refine Wk.on ?_
      rw [decide_eq_true (show ((i : Nat) : Int) < ((L.length : Nat) : Int) by omega)]
      refine Wk.on ?_
      refine Tr.loop (md := true) (X := List Int × List Int) (st := fun q => ⟨[(0, .c (.row 0 L.length)), (1, .c (.int .i64 0)), (2, .c (.int .i64 L.length)), (3, .c (.fn 73 [] [])), (8, .c (.int .i64 i)), (9, .c (.int .i64 q.1.length))], [(0, .row 3 1 (ints (q.1 ++ x :: (q.2 ++ S))))], 1, 53, 1⟩) (inv := fun q => q.1.length + q.2.length = i ∧ (insR desc x q.1.reverse).reverse ++ q.2 = (insR desc x P.reverse).reverse ∧ ∀ y ∈ q.1, y ∈ L) (μ := fun q => q.1.length) (x0 := (P, [])) (l := []) tok ⟨by simp [hPl], by simp, fun y hy => hmem y (List.mem_append_left _ hy)⟩ ?_ ?_
      · exact Sub.nil ⟨rfl, rfl, (by simp), rfl, (by simp [tupA, hpLt, tmLt, AV.lt, AE.lt, AC.lt, LL_cons, LL_nil, idOk, ABlk.lt, ints_LL, GB]), (by simp [tupA, hpLt, tmLt, AV.lt, AE.lt, AC.lt, LL_cons, LL_nil, idOk, ABlk.lt, ints_LL, GB])⟩ ⟨rfl, rfl, rfl, rfl, rfl, by rw [hPl]; rfl, trivial⟩ (by (repeat (first | exact trivial | refine ⟨trivial, ?_⟩ | refine ⟨rfl, ?_⟩)))
      · rintro ⟨A, B⟩ ⟨hl, hin, hA⟩
        dsimp only at hl hin hA ⊢
        by_cases hA0 : A = []
        · subst hA0
          refine Wk.on ?_
          refine Tr.draw (md := true) [⟨[], [19], [], [], []⟩, ⟨[], [18], [0], [], []⟩, ⟨[0, 1], [], [], [], []⟩, ⟨[0, 1, 2], [], [], [], []⟩, ⟨[0, 1, 2, 3], [23, 24, 25, 26, 27, 28, 29, 30, 31], [], [], []⟩, ⟨[0, 1, 2, 3], [22, 24, 27, 28, 29, 30, 31], [4], [], []⟩, ⟨[0, 1, 2, 3], [22, 23, 27, 28, 29, 30, 31], [4, 5], [], []⟩, ⟨[0, 1, 2, 3, 5, 6], [22, 27, 28, 29, 30, 31], [4], [], []⟩, ⟨[0, 1, 2, 3, 5, 6, 7], [22, 27, 28, 29, 30, 31], [4], [], []⟩, ⟨[0, 1, 2, 3], [22, 23, 24, 25, 26, 28, 29], [4, 5, 6, 7, 8], [], []⟩, ⟨[0, 1, 2, 3], [22, 23, 24, 25, 26, 27], [4, 5, 6, 7, 8, 9], [], []⟩, ⟨[0, 1, 2, 3, 10], [22, 23, 24, 25, 26, 27], [4, 5, 6, 7, 8, 9], [], []⟩, ⟨[0, 1, 2, 3, 9, 10, 11], [22, 23, 24, 25, 26], [4, 5, 6, 7, 8], [], []⟩, ⟨[0, 1, 2, 3, 9, 10, 11, 12], [22, 23, 24, 25, 26], [4, 5, 6, 7, 8], [], []⟩] tok (by kernel_rfl) (by kernel_rfl) ?_
          refine Wk.on ?_
          refine Again.mk (i + 1) (Sub.nil ⟨rfl, rfl, (by simp), rfl, (by simp [tupA, hpLt, tmLt, AV.lt, AE.lt, AC.lt, LL_cons, LL_nil, idOk, ABlk.lt, ints_LL, GB]), (by simp [tupA, hpLt, tmLt, AV.lt, AE.lt, AC.lt, LL_cons, LL_nil, idOk, ABlk.lt, ints_LL, GB])⟩ (by (repeat (first | exact trivial | refine ⟨trivial, ?_⟩ | refine ⟨rfl, ?_⟩))) ⟨by show ABlk.row 3 1 (ints _) = ABlk.row 3 1 (ints _); rw [hsu, ← hin]; simp [insR], trivial⟩) (⟨by omega, by omega⟩) (by omega)
        · obtain ⟨A', y, rfl⟩ : ∃ A' y, A = A' ++ [y] := ⟨A.dropLast, A.getLast hA0, (List.dropLast_concat_getLast hA0).symm⟩
          rw [List.length_append, List.length_singleton] at hl
          have hlen : (ints (A' ++ [y] ++ x :: (B ++ S))).length = L.length := by simp [ints_len]; omega
          obtain ⟨g1, g2⟩ := get_x A' y x (B ++ S)
          have hsw := swap_eq A' y x (B ++ S)
          have e1 : (A' ++ [y]).length = A'.length + 1 := by simp
          have hyL : y ∈ L := hA y (by simp)
          have hr1 : (A' ++ [y]).reverse = y :: A'.reverse := by simp
          have k1 : (((A'.length + 1 : Nat) : Int)).toNat = A'.length + 1 := Int.toNat_natCast _
          have k2 : (((A'.length + 1 : Nat) : Int) - 1).toNat = A'.length := by omega
          rw [hr1] at hin
          rw [e1]
          generalize hj : A'.length = j at *
          generalize hV : A' ++ [y] ++ x :: (B ++ S) = V at *
          have hb1 : (0 : Int) ≤ ((j + 1 : Nat) : Int) ∧ ((j + 1 : Nat) : Int) < ((L.length : Nat) : Int) := by omega
          have hb2 : (0 : Int) ≤ ((j + 1 : Nat) : Int) - 1 ∧ ((j + 1 : Nat) : Int) - 1 < ((L.length : Nat) : Int) := by omega
          refine Wk.on ?_
          refine Tr.draw (md := true) [⟨[], [19], [], [], []⟩, ⟨[], [18], [0], [], []⟩, ⟨[0, 1], [], [], [], []⟩, ⟨[0, 1, 2], [], [], [], []⟩, ⟨[0, 1, 2, 3], [23, 24, 25, 26, 27, 28, 29, 30, 31], [], [], []⟩, ⟨[0, 1, 2, 3], [22, 24, 27, 28, 29, 30, 31], [4], [], []⟩, ⟨[0, 1, 2, 3], [22, 23, 27, 28, 29, 30, 31], [4, 5], [], []⟩, ⟨[0, 1, 2, 3, 5, 6], [22, 27, 28, 29, 30, 31], [4], [], []⟩, ⟨[0, 1, 2, 3, 5, 6, 7], [22, 27, 28, 29, 30, 31], [4], [], []⟩, ⟨[0, 1, 2, 3], [22, 23, 24, 25, 26, 28, 29], [4, 5, 6, 7, 8], [], []⟩, ⟨[0, 1, 2, 3], [22, 23, 24, 25, 26, 27], [4, 5, 6, 7, 8, 9], [], []⟩, ⟨[0, 1, 2, 3, 10], [22, 23, 24, 25, 26, 27], [4, 5, 6, 7, 8, 9], [], []⟩, ⟨[0, 1, 2, 3, 9, 10, 11], [22, 23, 24, 25, 26], [4, 5, 6, 7, 8], [], []⟩, ⟨[0, 1, 2, 3, 9, 10, 11, 12], [22, 23, 24, 25, 26], [4, 5, 6, 7, 8], [], []⟩] tok (by kernel_rfl) (by kernel_rfl) ?_
          refine Wk.on ?_
          rw [decide_eq_true (show (0 : Int) < ((j + 1 : Nat) : Int) by omega)]
          refine Wk.on ?_
          simp only [ints_getD, Nat.mul_one, Nat.zero_add, k1, k2, g1, g2]
          obtain ⟨⟨xn, rfl⟩, ⟨yn, rfl⟩⟩ : (∃ xn : Nat, x = xn) ∧ ∃ yn : Nat, y = yn := ⟨⟨x.toNat, by have := hs x hxL; omega⟩, ⟨y.toNat, by have := hs y hyL; omega⟩⟩
          have hxs := hs _ hxL
          have hys := hs _ hyL
          refine CallA.ro2 [] (.c (.int .i64 ((yn : Int) - xn))) (tidied1_spec xn yn (by omega) (by omega)) ?_
          have hlt0 : decide (((yn : Nat) : Int) - ((xn : Nat) : Int) < 0) = desc xn yn := decide_eq_decide.2 (by omega)
          generalize (xn : Int) = x at *
          generalize (yn : Int) = y at *
          refine Wk.on ?_
          rw [hlt0]
          refine Wk.on ?_
          cases hlt : desc x y with
          | true =>
            refine Wk.on ?_
            refine Tr.draw (md := true) [⟨[], [38, 39, 40, 41, 42, 43, 44, 45, 46, 47, 48, 49, 50], [], [], []⟩, ⟨[], [37, 39, 40, 41, 42, 43, 44, 45, 46, 47, 48, 49, 50], [0], [], []⟩, ⟨[], [37, 38, 40, 41, 42, 43, 44, 45, 46, 47, 48, 49, 50, 51], [0, 1], [], [0]⟩, ⟨[], [37, 38, 39, 42, 43, 44, 45, 46, 47, 48, 49, 50, 51], [0, 1, 2], [], [0]⟩, ⟨[3], [37, 38, 39, 42, 43, 44, 45, 46, 47, 48, 49, 50, 51], [0, 1, 2], [], [0]⟩, ⟨[], [37, 38, 39, 40, 41, 43, 44, 47, 48, 49, 50], [0, 1, 2, 3, 4], [], []⟩, ⟨[], [37, 38, 39, 40, 41, 42, 47, 48, 49, 50], [0, 1, 2, 3, 4, 5], [], []⟩, ⟨[6], [37, 38, 39, 40, 41, 42, 47, 48, 49, 50], [0, 1, 2, 3, 4, 5], [], []⟩, ⟨[5, 6, 7], [37, 38, 39, 40, 41, 47, 48, 49, 50], [0, 1, 2, 3, 4], [], []⟩, ⟨[5, 6, 7, 8], [37, 38, 39, 40, 41, 47, 48, 49, 50], [0, 1, 2, 3, 4], [], []⟩, ⟨[], [37, 38, 39, 40, 41, 42, 43, 44, 45, 46, 48], [0, 1, 2, 3, 4, 5, 6, 7, 8, 9], [], []⟩, ⟨[], [37, 38, 39, 40, 41, 42, 43, 44, 45, 46, 47], [0, 1, 2, 3, 4, 5, 6, 7, 8, 9, 10], [], []⟩, ⟨[10, 11], [37, 38, 39, 40, 41, 42, 43, 44, 45, 46], [0, 1, 2, 3, 4, 5, 6, 7, 8, 9], [], []⟩, ⟨[10, 11, 12], [37, 38, 39, 40, 41, 42, 43, 44, 45, 46], [0, 1, 2, 3, 4, 5, 6, 7, 8, 9], [], []⟩, ⟨[0, 1, 5, 6, 7, 8, 9, 10, 11, 12, 13], [39, 40, 41], [2, 3, 4], [], []⟩, ⟨[0, 1, 5, 6, 7, 8, 9, 10, 11, 12, 13, 14], [39, 40, 41], [2, 3, 4], [0], []⟩] tok (by kernel_rfl) (by kernel_rfl) ?_
            refine Wk.on ?_
            refine ⟨⟨rfl, by rw [List.length_set]; omega⟩, ?_⟩
            refine Wk.on ?_
            refine Again.mk (A', y :: B) (Sub.nil ⟨rfl, rfl, (by simp), rfl, (by simp [tupA, hpLt, tmLt, AV.lt, AE.lt, AC.lt, LL_cons, LL_nil, idOk, ABlk.lt, ints_LL, GB]), (by simp [tupA, hpLt, tmLt, AV.lt, AE.lt, AC.lt, LL_cons, LL_nil, idOk, ABlk.lt, ints_LL, GB])⟩ ⟨rfl, rfl, rfl, rfl, rfl, by show AV.c (.int .i64 _) = AV.c (.int .i64 _); rw [hj]; congr 2; omega, trivial⟩ ⟨by show ABlk.row 3 1 (((ints V).set _ ((ints V).getD _ (.int .i64 0))).set _ ((ints V).getD _ (.int .i64 0))) = ABlk.row 3 1 (ints _); simp only [ints_getD, Nat.mul_one, Nat.zero_add, k1, k2, g1, g2, ints_set, hsw]; rfl, trivial⟩) ⟨by show A'.length + (y :: B).length = i; rw [hj, List.length_cons]; omega, by rw [← hin, insR, hlt]; simp, fun z hz => hA z (by simp [hz])⟩ (by show A'.length < j + 1; omega)
          | false =>
            refine Wk.on ?_
            refine Again.mk (i + 1) (Sub.nil ⟨rfl, rfl, (by simp), rfl, (by simp [tupA, hpLt, tmLt, AV.lt, AE.lt, AC.lt, LL_cons, LL_nil, idOk, ABlk.lt, ints_LL, GB]), (by simp [tupA, hpLt, tmLt, AV.lt, AE.lt, AC.lt, LL_cons, LL_nil, idOk, ABlk.lt, ints_LL, GB])⟩ (by (repeat (first | exact trivial | refine ⟨trivial, ?_⟩ | refine ⟨rfl, ?_⟩))) ⟨by show ABlk.row 3 1 (ints _) = ABlk.row 3 1 (ints _); rw [hsu, ← hin, insR, hlt]; simp [← hV], trivial⟩) (⟨by omega, by omega⟩) (by omega)
    · refine Wk.on ?_
      rw [decide_eq_false (show ¬ ((i : Nat) : Int) < ((L.length : Nat) : Int) by omega)]
      refine Wk.on ?_
      exact Fin.nil [(0, .row 3 1 (ints (isort desc L)))] ⟨rfl, rfl, rfl⟩ (by simp [tupA, AV.lt]) ⟨by show ABlk.row 3 1 (ints _) = ABlk.row 3 1 (ints _); rw [iS_full desc L (by omega)], trivial⟩ (by simp [tupA, hpLt, tmLt, AV.lt, AE.lt, AC.lt, LL_cons, LL_nil, idOk, ABlk.lt, ints_LL, GB]) rfl (by simp [GB])

theorem pdqO_spec (L : List Int) (hL : L.length ≤ 12) (m : Nat) : FDet Tryd.prog 88 [.c (.row 0 L.length), .c (.int .i64 0), .c (.int .i64 L.length), .c (.int .i64 m)] [(0, .row 3 1 (ints L))] 1 (.t []) [(0, .row 3 1 (ints (isort asc L)))] 1 := by
  refine FSpec.body2 tok true Tryd.func88 ?_
  refine Wk.on ?_
  refine Tr.loop (md := true) (X := Unit) (st := fun _ => ⟨[(0, .c (.row 0 L.length)), (1, .c (.int .i64 0)), (2, .c (.int .i64 L.length))], [(0, .row 3 1 (ints L))], 1, 134, 1⟩) (inv := fun _ => True) (μ := fun _ => 0) (x0 := ()) (l := []) tok trivial ?_ ?_
  · exact Sub.nil ⟨rfl, rfl, (by simp), rfl, (by simp [tupA, hpLt, tmLt, AV.lt, AE.lt, AC.lt, LL_cons, LL_nil, idOk, ABlk.lt, ints_LL, GB]), (by simp [tupA, hpLt, tmLt, AV.lt, AE.lt, AC.lt, LL_cons, LL_nil, idOk, ABlk.lt, ints_LL, GB])⟩ (by (repeat (first | exact trivial | refine ⟨trivial, ?_⟩ | refine ⟨rfl, ?_⟩))) (by (repeat (first | exact trivial | refine ⟨trivial, ?_⟩ | refine ⟨rfl, ?_⟩)))
  · intro _ _
    refine Wk.on ?_
    rw [decide_eq_true (show ((L.length : Nat) : Int) - 0 ≤ 12 by omega)]
    refine Wk.on ?_
    refine CallA.det2 [0] (.t []) ([(0, .row 3 1 (ints (isort asc L)))]) (insort_spec L (by omega)) ?_
    refine Wk.on ?_
    exact Fin.nil [(0, .row 3 1 (ints (isort asc L)))] ⟨rfl, rfl, rfl⟩ (by simp [tupA, AV.lt]) ⟨rfl, trivial⟩ (by simp [tupA, hpLt, tmLt, AV.lt, AE.lt, AC.lt, LL_cons, LL_nil, idOk, ABlk.lt, ints_LL, GB]) rfl (by simp [GB])
theorem Sort_spec (L : List Int) (hL : L.length ≤ 12) : FDet Tryd.prog 74 [.c (.row 0 L.length)] [(0, .row 3 1 (ints L))] 1 (.t []) [(0, .row 3 1 (ints (isort asc L)))] 1 := by
  have hw : IntKind.u64.wrap (L.length : Int) = L.length := wrapU (by omega)
  refine FSpec.body2 tok true Tryd.func74 ?_
  refine Wk.on ?_
  rw [hw]
  refine CallA.ro2 [] (.c (.int .i64 (lenN L.length))) (len_spec (n := L.length) (by omega)) ?_
  refine Wk.on ?_
  refine CallA.det2 [0] (.t []) ([(0, .row 3 1 (ints (isort asc L)))]) (pdqO_spec L hL (lenN L.length)) ?_
  refine Wk.on ?_
  exact Fin.nil [(0, .row 3 1 (ints (isort asc L)))] ⟨rfl, rfl, rfl⟩ (by simp [tupA, AV.lt]) ⟨rfl, trivial⟩ (by simp [tupA, hpLt, tmLt, AV.lt, AE.lt, AC.lt, LL_cons, LL_nil, idOk, ABlk.lt, ints_LL, GB]) rfl (by simp [GB])
theorem pdqC_spec (L : List Int) (hL : L.length ≤ 12) (hs : ∀ y ∈ L, 0 ≤ y ∧ y < 65536) (m : Nat) : FDet Tryd.prog 87 [.c (.row 0 L.length), .c (.int .i64 0), .c (.int .i64 L.length), .c (.int .i64 m), .c (.fn 73 [] [])] [(0, .row 3 1 (ints L))] 1 (.t []) [(0, .row 3 1 (ints (isort desc L)))] 1 := by
  refine FSpec.body2 tok true Tryd.func87 ?_
  refine Wk.on ?_
  refine Tr.loop (md := true) (X := Unit) (st := fun _ => ⟨[(0, .c (.row 0 L.length)), (1, .c (.int .i64 0)), (2, .c (.int .i64 L.length)), (4, .c (.fn 73 [] []))], [(0, .row 3 1 (ints L))], 1, 148, 1⟩) (inv := fun _ => True) (μ := fun _ => 0) (x0 := ()) (l := []) tok trivial ?_ ?_
  · exact Sub.nil ⟨rfl, rfl, (by simp), rfl, (by simp [tupA, hpLt, tmLt, AV.lt, AE.lt, AC.lt, LL_cons, LL_nil, idOk, ABlk.lt, ints_LL, GB]), (by simp [tupA, hpLt, tmLt, AV.lt, AE.lt, AC.lt, LL_cons, LL_nil, idOk, ABlk.lt, ints_LL, GB])⟩ (by (repeat (first | exact trivial | refine ⟨trivial, ?_⟩ | refine ⟨rfl, ?_⟩))) (by (repeat (first | exact trivial | refine ⟨trivial, ?_⟩ | refine ⟨rfl, ?_⟩)))
  · intro _ _
    refine Wk.on ?_
    rw [decide_eq_true (show ((L.length : Nat) : Int) - 0 ≤ 12 by omega)]
    refine Wk.on ?_
    refine CallA.det2 [0] (.t []) ([(0, .row 3 1 (ints (isort desc L)))]) (insortC_spec L (by omega) hs) ?_
    refine Wk.on ?_
    exact Fin.nil [(0, .row 3 1 (ints (isort desc L)))] ⟨rfl, rfl, rfl⟩ (by simp [tupA, AV.lt]) ⟨rfl, trivial⟩ (by simp [tupA, hpLt, tmLt, AV.lt, AE.lt, AC.lt, LL_cons, LL_nil, idOk, ABlk.lt, ints_LL, GB]) rfl (by simp [GB])
theorem SortFunc_spec (L : List Int) (hL : L.length ≤ 12) (hs : ∀ y ∈ L, 0 ≤ y ∧ y < 65536) : FDet Tryd.prog 72 [.c (.row 0 L.length), .c (.fn 73 [] [])] [(0, .row 3 1 (ints L))] 1 (.t []) [(0, .row 3 1 (ints (isort desc L)))] 1 := by
  have hw : IntKind.u64.wrap (L.length : Int) = L.length := wrapU (by omega)
  refine FSpec.body2 tok true Tryd.func72 ?_
  refine Wk.on ?_
  rw [hw]
  refine CallA.ro2 [] (.c (.int .i64 (lenN L.length))) (len_spec (n := L.length) (by omega)) ?_
  refine Wk.on ?_
  refine CallA.det2 [0] (.t []) ([(0, .row 3 1 (ints (isort desc L)))]) (pdqC_spec L hL hs (lenN L.length)) ?_
  refine Wk.on ?_
  exact Fin.nil [(0, .row 3 1 (ints (isort desc L)))] ⟨rfl, rfl, rfl⟩ (by simp [tupA, AV.lt]) ⟨rfl, trivial⟩ (by simp [tupA, hpLt, tmLt, AV.lt, AE.lt, AC.lt, LL_cons, LL_nil, idOk, ABlk.lt, ints_LL, GB]) rfl (by simp [GB])
theorem insort_nil : FDet Tryd.prog 102 [.c .nils, .c (.int .i64 0), .c (.int .i64 0)] [] 0 (.t []) [] 0 := by
  refine FSpec.body2 tok true Tryd.func102 ?_
  refine Wk.on ?_
  refine Tr.loop (md := true) (X := Unit) (st := fun _ => ⟨[(0, .c .nils), (1, .c (.int .i64 0)), (2, .c (.int .i64 0)), (6, .c (.int .i64 1))], [], 0, 49, 0⟩) (inv := fun _ => True) (μ := fun _ => 0) (x0 := ()) (l := []) tok trivial ?_ ?_
  · exact Sub.nil ⟨rfl, rfl, (by simp), rfl, (by simp [tupA, hpLt, tmLt, AV.lt, AE.lt, AC.lt, LL_cons, LL_nil, idOk, ABlk.lt, ints_LL, GB]), (by simp [tupA, hpLt, tmLt, AV.lt, AE.lt, AC.lt, LL_cons, LL_nil, idOk, ABlk.lt, ints_LL, GB])⟩ (by (repeat (first | exact trivial | refine ⟨trivial, ?_⟩ | refine ⟨rfl, ?_⟩))) (by (repeat (first | exact trivial | refine ⟨trivial, ?_⟩ | refine ⟨rfl, ?_⟩)))
  · intro _ _
    refine Wk.on ?_
    exact AH.Fin.nil2 ⟨rfl, rfl, rfl⟩
theorem pdqO_nil : FDet Tryd.prog 88 [.c .nils, .c (.int .i64 0), .c (.int .i64 0), .c (.int .i64 0)] [] 0 (.t []) [] 0 := by
  refine FSpec.body2 tok true Tryd.func88 ?_
  refine Wk.on ?_
  refine Tr.loop (md := true) (X := Unit) (st := fun _ => ⟨[(0, .c .nils), (1, .c (.int .i64 0)), (2, .c (.int .i64 0))], [], 0, 134, 0⟩) (inv := fun _ => True) (μ := fun _ => 0) (x0 := ()) (l := []) tok trivial ?_ ?_
  · exact Sub.nil ⟨rfl, rfl, (by simp), rfl, (by simp [tupA, hpLt, tmLt, AV.lt, AE.lt, AC.lt, LL_cons, LL_nil, idOk, ABlk.lt, ints_LL, GB]), (by simp [tupA, hpLt, tmLt, AV.lt, AE.lt, AC.lt, LL_cons, LL_nil, idOk, ABlk.lt, ints_LL, GB])⟩ (by (repeat (first | exact trivial | refine ⟨trivial, ?_⟩ | refine ⟨rfl, ?_⟩))) (by (repeat (first | exact trivial | refine ⟨trivial, ?_⟩ | refine ⟨rfl, ?_⟩)))
  · intro _ _
    refine Wk.on ?_
    refine CallA.ro2 [] (.t []) (insort_nil) ?_
    refine Wk.on ?_
    exact AH.Fin.nil2 ⟨rfl, rfl, rfl⟩
theorem Sort_nil : FDet Tryd.prog 74 [.c .nils] [] 0 (.t []) [] 0 := by
  refine FSpec.body2 tok true Tryd.func74 ?_
  refine Wk.on ?_
  refine CallA.ro2 [] (.c (.int .i64 (lenN 0))) (len_spec (n := 0) (by omega)) ?_
  refine Wk.on ?_
  refine CallA.ro2 [] (.t []) (pdqO_nil) ?_
  refine Wk.on ?_
  exact AH.Fin.nil2 ⟨rfl, rfl, rfl⟩
end Go.Proofs.YtimknijehaamlaaDoor

/-
  Contracts: one more in a list of pairs.
-/
namespace Go.Proofs.YtimknijehaamlaaDoor
open Go Go.AH Go.Lin
set_option maxRecDepth 100000
set_option maxHeartbeats 1000000

def prs (B : List (Nat × Nat)) : List Int := B.flatMap fun p => [(p.1 : Int), (p.2 : Int)]
theorem prs_len (B : List (Nat × Nat)) : (prs B).length = B.length * 2 := by
  induction B with
  | nil => rfl
  | cons w ws ih => simp [prs] at ih ⊢; omega
theorem prs_app (A B : List (Nat × Nat)) : prs (A ++ B) = prs A ++ prs B := by simp [prs]
theorem prs_take (B : List (Nat × Nat)) (k : Nat) : (prs B).take (k * 2) = prs (B.take k) := by
  induction B generalizing k with
  | nil => simp [prs]
  | cons w ws ih =>
    cases k with
    | zero => simp [prs]
    | succ k =>
      have := ih k
      simp only [prs, List.flatMap_cons, List.cons_append, List.nil_append, List.take_succ_cons] at this ⊢
      rw [show (k + 1) * 2 = k * 2 + 1 + 1 by omega, List.take_succ_cons, List.take_succ_cons, this]
theorem prs_drop (B : List (Nat × Nat)) (k : Nat) : (prs B).drop (k * 2) = prs (B.drop k) := by
  induction B generalizing k with
  | nil => simp [prs]
  | cons w ws ih =>
    cases k with
    | zero => simp [prs]
    | succ k =>
      have := ih k
      simp only [prs, List.flatMap_cons, List.cons_append, List.nil_append, List.drop_succ_cons] at this ⊢
      rw [show (k + 1) * 2 = k * 2 + 1 + 1 by omega, List.drop_succ_cons, List.drop_succ_cons, this]
theorem prs_get (B : List (Nat × Nat)) (i : Nat) : (prs B).getD (i * 2) 0 = ((B.getD i (0, 0)).1 : Int) ∧ (prs B).getD (i * 2 + 1) 0 = ((B.getD i (0, 0)).2 : Int) := by
  induction B generalizing i with
  | nil => simp [prs]
  | cons w ws ih =>
    cases i with
    | zero => simp [prs]
    | succ i =>
      have := ih i
      simp only [prs, List.flatMap_cons, List.getD_eq_getElem?_getD, List.cons_append, List.nil_append] at this ⊢
      rw [show (i + 1) * 2 = i * 2 + 1 + 1 by omega]
      simpa using this
def pC (p : Nat × Nat) : List AC := [.int .i64 p.1, .int .i64 p.2]
instance (p : Nat × Nat) : RenC (pC p) := ⟨fun _ => rfl, fun n => by simp [pC, LL_cons, LL_nil, AC.lt]⟩
theorem prs_rdn (B : List (Nat × Nat)) (i : Nat) : rdn (ints (prs B)) (i * 2) [.int .i64 0, .int .i64 0] = pC (B.getD i (0, 0)) := by
  simp only [rdn, ints_getD, (prs_get B i).1, (prs_get B i).2, pC]
theorem ints_take (L : List Int) (k : Nat) : (ints L).take k = ints (L.take k) := by simp [ints, List.map_take]
theorem ints_drop (L : List Int) (k : Nat) : (ints L).drop k = ints (L.drop k) := by simp [ints, List.map_drop]
/-- Where one belongs: before the first that is less. -/
def ixN (e : Nat) : List (Nat × Nat) → Nat
  | [] => 0
  | b :: B => if b.2 < e then 0 else ixN e B + 1
theorem ixN_le (e : Nat) (B : List (Nat × Nat)) : ixN e B ≤ B.length := by
  induction B with
  | nil => simp [ixN]
  | cons b B ih => rw [ixN]; split <;> simp; omega
theorem insP_ix (p : Nat × Nat) (B : List (Nat × Nat)) : insP p B = B.take (ixN p.2 B) ++ p :: B.drop (ixN p.2 B) := by
  induction B with
  | nil => rfl
  | cons b B ih =>
    rw [insP, ixN]
    split
    · rfl
    · rw [ih]; rfl
theorem ixN_step {e k : Nat} {B : List (Nat × Nat)} (hk : k < B.length) (h : ∀ j, j < k → ¬ (B.getD j (0, 0)).2 < e) : if (B.getD k (0, 0)).2 < e then ixN e B = k else True := by
  induction B generalizing k with
  | nil => simp at hk
  | cons b B ih =>
    cases k with
    | zero =>
      split
      · rename_i hc
        have hc : b.2 < e := by simpa using hc
        rw [ixN, if_pos hc]
      · trivial
    | succ k =>
      have h0 := h 0 (by omega)
      have := ih (k := k) (by simpa using hk) fun j hj => by simpa using h (j + 1) (by omega)
      split
      · rename_i hc
        have hc : (B.getD k (0, 0)).2 < e := by simpa using hc
        rw [if_pos hc] at this
        rw [ixN, if_neg (by simpa using h0), this]
      · trivial
theorem ixN_all {e : Nat} {B : List (Nat × Nat)} (h : ∀ j, j < B.length → ¬ (B.getD j (0, 0)).2 < e) : ixN e B = B.length := by
  induction B with
  | nil => rfl
  | cons b B ih =>
    have h0 := h 0 (by simp)
    rw [ixN, if_neg (by simpa using h0), ih fun j hj => by simpa using h (j + 1) (by simpa using hj)]
    rfl
def ixI (e : Nat) (B : List (Nat × Nat)) : Int := if ixN e B < B.length then ixN e B else -1

theorem red11_spec (x y a e : Nat) : FDet Tryd.prog 69 [.g [.int .i64 x, .int .i64 y], .c (.ptr 0 0)] [(0, .ro [.int .i64 a, .int .i64 e])] 1 (.c (.bool (decide (y < e)))) [] 1 := by
  refine FSpec.body2 tok true Tryd.func69 ?_
  refine Wk.on ?_
  exact AH.Fin.nil2 ⟨congrArg (fun b => AV.c (.bool b)) (decide_eq_decide.2 (by simp)), rfl, rfl⟩
theorem index_spec (B : List (Nat × Nat)) (hB : B.length ≤ 1000) (a e : Nat) : FDet Tryd.prog 68 [.c (.rs 0 0 B.length), .c (.fn 69 [] [1])] [(0, .ro (ints (prs B))), (1, .ro [.int .i64 a, .int .i64 e])] 2 (.c (.int .i64 (ixI e B))) [] 2 := by
  have hlen : (ints (prs B)).length = B.length * 2 := by rw [ints_len, prs_len]
  refine FSpec.body2 tok true Tryd.func68 ?_
  refine Wk.on ?_
  refine Tr.loop (md := true) (X := Nat) (st := fun k => ⟨[(0, .c (.rs 0 0 B.length)), (1, .c (.fn 69 [] [1])), (7, .c (.int .i64 B.length)), (8, .c (.int .i64 k))], [(0, .ro (ints (prs B))), (1, .ro [.int .i64 a, .int .i64 e])], 2, 19, 2⟩) (inv := fun k => k ≤ B.length ∧ ∀ j, j < k → ¬ (B.getD j (0, 0)).2 < e) (μ := fun k => B.length - k) (x0 := 0) (l := []) tok ⟨by omega, fun j hj => by omega⟩ ?_ ?_
  · exact Sub.nil ⟨rfl, rfl, (by simp [pC]), rfl, (by simp [tupA, hpLt, tmLt, AV.lt, AE.lt, AC.lt, LL_cons, LL_nil, idOk, ABlk.lt, ints_LL, GB, pC]), (by simp [tupA, hpLt, tmLt, AV.lt, AE.lt, AC.lt, LL_cons, LL_nil, idOk, ABlk.lt, ints_LL, GB, pC])⟩ (by (repeat (first | exact trivial | refine ⟨trivial, ?_⟩ | refine ⟨rfl, ?_⟩))) (by (repeat (first | exact trivial | refine ⟨trivial, ?_⟩ | refine ⟨rfl, ?_⟩)))
  · rintro k ⟨hk, hall⟩
    by_cases hkl : k < B.length
    · have hst := ixN_step hkl hall
      refine Wk.on ?_
      rw [decide_eq_true (show ((k : Nat) : Int) < ((B.length : Nat) : Int) by omega)]
      refine Wk.on ?_
      refine ⟨⟨by rw [hlen, Int.toNat_natCast]; show 0 + k * 2 + 2 ≤ _; omega, rfl⟩, ?_⟩
      rw [Int.toNat_natCast, Nat.zero_add]
      refine Wk.on ?_
      rw [prs_rdn]
      refine CallA.ro2 [1] (.c (.bool (decide ((B.getD k (0, 0)).2 < e)))) (red11_spec (B.getD k (0, 0)).1 (B.getD k (0, 0)).2 a e) ?_
      refine Wk.on ?_
      by_cases hc : (B.getD k (0, 0)).2 < e
      · rw [if_pos hc] at hst
        rw [decide_eq_true hc]
        refine Wk.on ?_
        exact AH.Fin.nil2 ⟨by rw [ixI, hst, if_pos hkl]; rfl, rfl, rfl⟩
      · rw [decide_eq_false hc]
        refine Wk.on ?_
        have hnx : ∀ j, j < k + 1 → ¬ (B.getD j (0, 0)).2 < e := fun j hj => by
          by_cases e1 : j = k
          · rw [e1]; exact hc
          · exact hall j (by omega)
        refine Again.mk (k + 1) (Sub.nil ⟨rfl, rfl, (by simp [pC]), rfl, (by simp [tupA, hpLt, tmLt, AV.lt, AE.lt, AC.lt, LL_cons, LL_nil, idOk, ABlk.lt, ints_LL, GB, pC]), (by simp [tupA, hpLt, tmLt, AV.lt, AE.lt, AC.lt, LL_cons, LL_nil, idOk, ABlk.lt, ints_LL, GB, pC])⟩ (by (repeat (first | exact trivial | refine ⟨trivial, ?_⟩ | refine ⟨rfl, ?_⟩))) (by (repeat (first | exact trivial | refine ⟨trivial, ?_⟩ | refine ⟨rfl, ?_⟩)))) (⟨by omega, hnx⟩) (by omega)
    · refine Wk.on ?_
      rw [decide_eq_false (show ¬ ((k : Nat) : Int) < ((B.length : Nat) : Int) by omega)]
      refine Wk.on ?_
      exact AH.Fin.nil2 ⟨by rw [ixI, ixN_all fun j hj => hall j (by omega), if_neg (by omega)]; rfl, rfl, rfl⟩

theorem index_row (B : List (Nat × Nat)) (hB : B.length ≤ 1000) (a e : Nat) : FDet Tryd.prog 68 [.c (.row 0 B.length), .c (.fn 69 [] [1])] [(0, .row 93 2 (ints (prs B))), (1, .own [.int .i64 a, .int .i64 e])] 2 (.c (.int .i64 (ixI e B))) [(0, .row 93 2 (ints (prs B))), (1, .own [.int .i64 a, .int .i64 e])] 2 := by
  have hlen : (ints (prs B)).length = B.length * 2 := by rw [ints_len, prs_len]
  refine FSpec.body2 tok true Tryd.func68 ?_
  refine Wk.on ?_
  refine Tr.loop (md := true) (X := Nat) (st := fun k => ⟨[(0, .c (.row 0 B.length)), (1, .c (.fn 69 [] [1])), (7, .c (.int .i64 B.length)), (8, .c (.int .i64 k))], [(0, .row 93 2 (ints (prs B))), (1, .own [.int .i64 a, .int .i64 e])], 2, 19, 2⟩) (inv := fun k => k ≤ B.length ∧ ∀ j, j < k → ¬ (B.getD j (0, 0)).2 < e) (μ := fun k => B.length - k) (x0 := 0) (l := []) tok ⟨by omega, fun j hj => by omega⟩ ?_ ?_
  · exact Sub.nil ⟨rfl, rfl, (by simp [pC]), rfl, (by simp [tupA, hpLt, tmLt, AV.lt, AE.lt, AC.lt, LL_cons, LL_nil, idOk, ABlk.lt, ints_LL, GB, pC]), (by simp [tupA, hpLt, tmLt, AV.lt, AE.lt, AC.lt, LL_cons, LL_nil, idOk, ABlk.lt, ints_LL, GB, pC])⟩ (by (repeat (first | exact trivial | refine ⟨trivial, ?_⟩ | refine ⟨rfl, ?_⟩))) (by (repeat (first | exact trivial | refine ⟨trivial, ?_⟩ | refine ⟨rfl, ?_⟩)))
  · rintro k ⟨hk, hall⟩
    by_cases hkl : k < B.length
    · have hst := ixN_step hkl hall
      refine Wk.on ?_
      rw [decide_eq_true (show ((k : Nat) : Int) < ((B.length : Nat) : Int) by omega)]
      refine Wk.on ?_
      refine ⟨⟨by rw [hlen, Int.toNat_natCast]; show k * 2 + 2 ≤ _; omega, rfl⟩, ?_⟩
      rw [Int.toNat_natCast]
      refine Wk.on ?_
      rw [prs_rdn]
      refine CallA.ro2 [1] (.c (.bool (decide ((B.getD k (0, 0)).2 < e)))) (red11_spec (B.getD k (0, 0)).1 (B.getD k (0, 0)).2 a e) ?_
      refine Wk.on ?_
      by_cases hc : (B.getD k (0, 0)).2 < e
      · rw [if_pos hc] at hst
        rw [decide_eq_true hc]
        refine Wk.on ?_
        exact Fin.nil [(0, .row 93 2 (ints (prs B))), (1, .own [.int .i64 a, .int .i64 e])] ⟨by rw [ixI, hst, if_pos hkl]; rfl, rfl, rfl⟩ trivial ⟨rfl, rfl, trivial⟩ (by simp [tupA, hpLt, tmLt, AV.lt, AE.lt, AC.lt, LL_cons, LL_nil, idOk, ABlk.lt, ints_LL, GB, pC]) rfl (by simp [GB])
      · rw [decide_eq_false hc]
        refine Wk.on ?_
        have hnx : ∀ j, j < k + 1 → ¬ (B.getD j (0, 0)).2 < e := fun j hj => by
          by_cases e1 : j = k
          · rw [e1]; exact hc
          · exact hall j (by omega)
        refine Again.mk (k + 1) (Sub.nil ⟨rfl, rfl, (by simp [pC]), rfl, (by simp [tupA, hpLt, tmLt, AV.lt, AE.lt, AC.lt, LL_cons, LL_nil, idOk, ABlk.lt, ints_LL, GB, pC]), (by simp [tupA, hpLt, tmLt, AV.lt, AE.lt, AC.lt, LL_cons, LL_nil, idOk, ABlk.lt, ints_LL, GB, pC])⟩ (by (repeat (first | exact trivial | refine ⟨trivial, ?_⟩ | refine ⟨rfl, ?_⟩))) (by (repeat (first | exact trivial | refine ⟨trivial, ?_⟩ | refine ⟨rfl, ?_⟩)))) (⟨by omega, hnx⟩) (by omega)
    · refine Wk.on ?_
      rw [decide_eq_false (show ¬ ((k : Nat) : Int) < ((B.length : Nat) : Int) by omega)]
      refine Wk.on ?_
      exact Fin.nil [(0, .row 93 2 (ints (prs B))), (1, .own [.int .i64 a, .int .i64 e])] ⟨by rw [ixI, ixN_all fun j hj => hall j (by omega), if_neg (by omega)]; rfl, rfl, rfl⟩ trivial ⟨rfl, rfl, trivial⟩ (by simp [tupA, hpLt, tmLt, AV.lt, AE.lt, AC.lt, LL_cons, LL_nil, idOk, ABlk.lt, ints_LL, GB, pC]) rfl (by simp [GB])

theorem insert_end (B : List (Nat × Nat)) (hB : B.length ≤ 1000) (p : Nat × Nat) : FDet Tryd.prog 70 [.c (.row 0 B.length), .c (.int .i64 B.length), .c (.sl 1 0 1 (some 1))] [(0, .row 93 2 (ints (prs B))), (1, .own (pC p))] 2 (.c (.row 2 (B.length + 1))) [(2, .row 93 2 (ints (prs (B ++ [p]))))] 3 := by
  have hlen : (ints (prs B)).length = B.length * 2 := by rw [ints_len, prs_len]
  have hap : ints (prs B) ++ pC p = ints (prs (B ++ [p])) := by rw [prs_app, ← ints_app]; rfl
  refine FSpec.body2 tok true Tryd.func70 ?_
  refine Wk.on ?_
  rw [decide_eq_true rfl]
  refine Wk.on ?_
  refine ⟨⟨Nat.le_of_ble_eq_true rfl, rfl, rfl, hlen, by show ((B.length + 1 : Nat) : Int) * 16 ≤ _; omega, by omega⟩, ?_⟩
  refine Wk.on ?_
  exact AH.Fin.new [2] _ _ ⟨rfl, rfl, rfl⟩ rfl ⟨by show some (ABlk.row 93 2 (ints (prs B) ++ pC p)) = some (ABlk.row 93 2 ((ints _).map _)); rw [hap, ints_ren], trivial⟩ rfl (by simp [tupA, hpLt, tmLt, AV.lt, AE.lt, AC.lt, LL_cons, LL_nil, idOk, ABlk.lt, ints_LL, GB, pC]) (by simp [tupA, hpLt, tmLt, AV.lt, AE.lt, AC.lt, LL_cons, LL_nil, idOk, ABlk.lt, ints_LL, GB, pC])
theorem cells_mid (B : List (Nat × Nat)) (p : Nat × Nat) {i : Nat} (hi : i ≤ B.length) : ints (prs (B.take i)) ++ pC p ++ ints (prs (B.drop i)) = ints (prs (B.take i ++ p :: B.drop i)) := by
  rw [prs_app, ← ints_app, List.append_assoc]
  rfl
theorem grow_cells {X P0 V D : List AC} {i n : Nat} (hi : i < n) (hX : X.length = (n + 1) * 2) (hXt : X.take (i * 2) = P0) (hV : V.length = 2) (hD : D.length = (n - i) * 2) :
    (X.take (i * 2) ++ V ++ X.drop (i * 2 + 1 * 2)).length = (n + 1) * 2 ∧
    (X.take (i * 2) ++ V ++ X.drop (i * 2 + 1 * 2)).take ((i + 1) * 2) ++ D ++ (X.take (i * 2) ++ V ++ X.drop (i * 2 + 1 * 2)).drop ((i + 1) * 2 + (n - i) * 2) = P0 ++ V ++ D := by
  have hl : (X.take (i * 2)).length = i * 2 := by rw [List.length_take]; omega
  have h1 : (X.take (i * 2) ++ V ++ X.drop (i * 2 + 1 * 2)).length = (n + 1) * 2 := by simp only [List.length_append, hl, hV, List.length_drop, hX]; omega
  refine ⟨h1, ?_⟩
  have h2 : (X.take (i * 2) ++ V ++ X.drop (i * 2 + 1 * 2)).take ((i + 1) * 2) = P0 ++ V := by
    rw [List.take_append_of_le_length (by simp only [List.length_append, hl, hV]; omega), List.take_of_length_le (by simp only [List.length_append, hl, hV]; omega), hXt]
  have h3 : (X.take (i * 2) ++ V ++ X.drop (i * 2 + 1 * 2)).drop ((i + 1) * 2 + (n - i) * 2) = [] := List.drop_of_length_le (by rw [h1]; omega)
  rw [h2, h3, List.append_nil]
theorem shift_cells {C V : List AC} {i n : Nat} (hi : i < n) (hC : C.length = n * 2) (hV : V.length = 2) :
    i * 2 ≤ (C.take ((i + 1) * 2) ++ (C.drop (i * 2)).take ((n - i) * 2) ++ C.drop ((i + 1) * 2 + (n - i) * 2)).length ∧
    (C.take ((i + 1) * 2) ++ (C.drop (i * 2)).take ((n - i) * 2) ++ C.drop ((i + 1) * 2 + (n - i) * 2)).take (i * 2) ++ V ++ (C.take ((i + 1) * 2) ++ (C.drop (i * 2)).take ((n - i) * 2) ++ C.drop ((i + 1) * 2 + (n - i) * 2)).drop (i * 2 + 1 * 2) = C.take (i * 2) ++ V ++ C.drop (i * 2) := by
  have e1 : (C.drop (i * 2)).take ((n - i) * 2) = C.drop (i * 2) := List.take_of_length_le (by rw [List.length_drop]; omega)
  have e2 : C.drop ((i + 1) * 2 + (n - i) * 2) = [] := List.drop_of_length_le (by omega)
  have hl : (C.take ((i + 1) * 2)).length = (i + 1) * 2 := by rw [List.length_take]; omega
  rw [e1, e2, List.append_nil]
  refine ⟨by simp only [List.length_append, hl]; omega, ?_⟩
  rw [List.take_append_of_le_length (by rw [hl]; omega), List.take_take, Nat.min_eq_left (by omega)]
  rw [show i * 2 + 1 * 2 = (C.take ((i + 1) * 2)).length by rw [hl]; omega, List.drop_left]
theorem insert_mid (B : List (Nat × Nat)) (hB : B.length ≤ 1000) (p : Nat × Nat) (i : Nat) (hi : i < B.length) : FDet Tryd.prog 70 [.c (.row 0 B.length), .c (.int .i64 i), .c (.sl 1 0 1 (some 1))] [(0, .row 93 2 (ints (prs B))), (1, .own (pC p))] 2 (.c (.row 2 (B.length + 1))) [(2, .row 93 2 (ints (prs (B.take i ++ p :: B.drop i))))] 3 := by
  have hlen : (ints (prs B)).length = B.length * 2 := by rw [ints_len, prs_len]
  refine FSpec.capRow (z := 2) rfl (fun vs w => (insert_end B hB p).call vs w) fun c hc1 hc2 => ?_
  by_cases hc : c < B.length + 1
  · show FDet Tryd.prog 70 [.c (.rp 0 0 B.length c 2), .c (.int .i64 i), .c (.sl 1 0 1 (some 1))] _ 2 _ _ 3
    refine FSpec.body2 tok true Tryd.func70 ?_
    refine Wk.on ?_
    refine ⟨⟨rfl, by show (0 : Int) ≤ i; omega, by show (i : Int) ≤ B.length; omega, by show (B.length : Int) ≤ c; omega, .inr (by show (i : Int) < c; omega)⟩, ?_⟩
    refine Wk.on ?_
    rw [decide_eq_false (show ¬ ((i : Nat) : Int) = ((B.length : Nat) : Int) by omega)]
    refine Wk.on ?_
    rw [decide_eq_true (show ((c : Nat) : Int) < ((B.length : Nat) : Int) + ((1 : Nat) : Int) by omega)]
    refine Wk.on ?_
    refine ⟨⟨rfl, Int.le_refl 0, by show (0 : Int) ≤ i; omega, by show (i : Int) ≤ c; omega, .inl rfl⟩, ?_⟩
    refine Wk.on ?_
    simp only [Option.getD_some, Option.getD_none, Int.toNat_natCast, Int.toNat_zero, Nat.sub_zero, Nat.zero_add]
    rw [show (B.length : Int) + ((1 : Nat) : Int) - i = ((B.length + 1 - i : Nat) : Int) by omega]
    have hlm : i + (B.length + 1 - i) = B.length + 1 := by omega
    refine ⟨⟨Nat.le_of_ble_eq_true rfl, by decide, trivial, rfl, by omega, by rw [Int.toNat_natCast]; omega, by rw [hlen]; omega, by rw [Int.toNat_natCast, hlm]; show ((B.length + 1 : Nat) : Int) * 16 ≤ _; omega, by rw [Int.toNat_natCast]; omega⟩, ?_⟩
    rw [Int.toNat_natCast, hlm, show 0 * 2 = 0 from rfl, List.drop_zero, ints_take, prs_take]
    refine Wk.on ?_
    have hpl : (prs (B.take i)).length = i * 2 := by rw [prs_len, List.length_take, Nat.min_eq_left (by omega)]
    have hXl : (ints (prs (B.take i)) ++ rep (B.length + 1 - i) [.int .i64 0, .int .i64 0]).length = (B.length + 1) * 2 := by
      rw [List.length_append, ints_len, hpl, rep_len]; show i * 2 + (B.length + 1 - i) * 2 = _; omega
    have hXt : (ints (prs (B.take i)) ++ rep (B.length + 1 - i) [.int .i64 0, .int .i64 0]).take (i * 2) = ints (prs (B.take i)) := by
      rw [List.take_append_of_le_length (by rw [ints_len, hpl]; exact Nat.le_refl _), List.take_of_length_le (by rw [ints_len, hpl]; exact Nat.le_refl _)]
    obtain ⟨X, hX⟩ : ∃ X, X = ints (prs (B.take i)) ++ rep (B.length + 1 - i) [.int .i64 0, .int .i64 0] := ⟨_, rfl⟩
    rw [← hX] at hXl hXt
    rw [← hX]
    clear hX
    refine ⟨⟨by show (0 : Int) ≤ i; omega, by show (i : Int) ≤ ((B.length + 1 : Nat) : Int); omega, .inl (Int.le_refl _)⟩, ?_⟩
    simp only [Option.getD_none, Option.getD_some, Int.toNat_natCast, Option.map_none, Nat.zero_add]
    refine Wk.on ?_
    rw [show min 1 (B.length + 1 - i) = 1 by omega]
    refine ⟨by show 0 + 1 * 2 ≤ 2; omega, ?_⟩
    refine Wk.on ?_
    refine ⟨⟨rfl, by rw [hXl]; show i * 2 + 1 * 2 ≤ _; omega⟩, ?_⟩
    refine Wk.on ?_
    refine Tr.draw (md := true) [⟨[], [47, 48, 49, 51, 52, 53], [], [], []⟩, ⟨[], [46, 48, 51, 52, 53], [0], [], []⟩, ⟨[], [46, 47, 51, 52, 53], [0, 1], [], []⟩, ⟨[1, 2], [46, 51, 52, 53], [0], [], []⟩, ⟨[0, 1, 2, 3], [51, 52, 53], [], [], []⟩, ⟨[], [46, 47, 48, 49, 50, 52], [0, 1, 2, 3, 4], [], []⟩, ⟨[], [46, 47, 48, 49, 50, 51], [0, 1, 2, 3, 4, 5], [], []⟩, ⟨[5, 6], [46, 47, 48, 49, 50], [0, 1, 2, 3, 4], [], []⟩] tok (by kernel_rfl) (by kernel_rfl) ?_
    refine Wk.on ?_
    refine ⟨⟨by show (0 : Int) ≤ (i : Int) + ((1 : Nat) : Int); omega, by show (i : Int) + ((1 : Nat) : Int) ≤ ((B.length + 1 : Nat) : Int); omega, .inl (Int.le_refl _)⟩, ?_⟩
    refine Wk.on ?_
    refine ⟨⟨rfl, by show (0 : Int) ≤ i; omega, by show (i : Int) ≤ B.length; omega, by show (B.length : Int) ≤ c; omega, .inr (by show (i : Int) < c; omega)⟩, ?_⟩
    refine Wk.on ?_
    have hmm : min (B.length - i) (B.length + 1 - (i + 1)) = B.length - i := by omega
    have hD : ((ints (prs B)).drop ((0 + i) * 2)).take (min (B.length - i) (B.length + 1 - (i + 1)) * 2) = ints (prs (B.drop i)) := by
      rw [Nat.zero_add, hmm, ints_drop, prs_drop, List.take_of_length_le (by rw [ints_len, prs_len, List.length_drop]; exact Nat.le_refl _)]
    obtain ⟨hYl, hYe⟩ := grow_cells (V := ((pC p).drop 0).take (1 * 2)) (D := ((ints (prs B)).drop ((0 + i) * 2)).take (min (B.length - i) (B.length + 1 - (i + 1)) * 2)) hi hXl hXt rfl (by rw [hD, ints_len, prs_len, List.length_drop])
    refine ⟨⟨rfl, by show (0 + i) * 2 + min (B.length - i) (B.length + 1 - (i + 1)) * 2 ≤ (ints (prs B)).length; rw [hlen]; omega⟩, ?_⟩
    refine Wk.on ?_
    refine ⟨⟨rfl, by show 0 + (i + 1) * 2 + min (B.length - i) (B.length + 1 - (i + 1)) * 2 ≤ (X.take (i * 2) ++ ((pC p).drop 0).take (1 * 2) ++ X.drop (i * 2 + 1 * 2)).length; rw [hYl]; omega⟩, ?_⟩
    refine Wk.on ?_
    exact AH.Fin.new [2] _ _ ⟨rfl, rfl, rfl⟩ rfl ⟨by
      show some (ABlk.row 93 2 ((X.take (i * 2) ++ ((pC p).drop 0).take (1 * 2) ++ X.drop (i * 2 + 1 * 2)).take (0 + (i + 1) * 2) ++ ((ints (prs B)).drop ((0 + i) * 2)).take (min (B.length - i) (B.length + 1 - (i + 1)) * 2) ++ (X.take (i * 2) ++ ((pC p).drop 0).take (1 * 2) ++ X.drop (i * 2 + 1 * 2)).drop (0 + (i + 1) * 2 + min (B.length - i) (B.length + 1 - (i + 1)) * 2))) = some (ABlk.row 93 2 ((ints _).map _))
      rw [Nat.zero_add ((i + 1) * 2), hmm] at *
      rw [hYe, hD, ints_ren]
      exact congrArg (fun l => some (ABlk.row 93 2 l)) (cells_mid B p (by omega)), trivial⟩ rfl (by simp [tupA, hpLt, tmLt, AV.lt, AE.lt, AC.lt, LL_cons, LL_nil, idOk, ABlk.lt, ints_LL, GB, pC]) (by simp [tupA, hpLt, tmLt, AV.lt, AE.lt, AC.lt, LL_cons, LL_nil, idOk, ABlk.lt, ints_LL, GB, pC])
  · refine FSpec.rowNew (i := 0) (by omega) (by decide) (ints_LL _ _) ?_
    refine FDet.post (r := .c (.rp 0 0 (B.length + 1) c 2)) (hq := [(0, .row 93 2 (ints (prs (B.take i ++ p :: B.drop i))))]) (k' := 2) ?_ _ _ ⟨rfl, rfl, rfl⟩ ⟨⟨⟨rfl, rfl⟩, .inl rfl⟩, trivial⟩ (by simp [tupA, hpLt, tmLt, AV.lt, AE.lt, AC.lt, LL_cons, LL_nil, idOk, ABlk.lt, ints_LL, GB, pC]) (by simp [tupA, hpLt, tmLt, AV.lt, AE.lt, AC.lt, LL_cons, LL_nil, idOk, ABlk.lt, ints_LL, GB, pC]) rfl
    show FDet Tryd.prog 70 [.c (.rp 0 0 B.length c 2), .c (.int .i64 i), .c (.sl 1 0 1 (some 1))] _ 2 _ _ 2
    refine FSpec.body2 tok true Tryd.func70 ?_
    refine Wk.on ?_
    refine ⟨⟨rfl, by show (0 : Int) ≤ i; omega, by show (i : Int) ≤ B.length; omega, by show (B.length : Int) ≤ c; omega, .inr (by show (i : Int) < c; omega)⟩, ?_⟩
    refine Wk.on ?_
    rw [decide_eq_false (show ¬ ((i : Nat) : Int) = ((B.length : Nat) : Int) by omega)]
    refine Wk.on ?_
    rw [decide_eq_false (show ¬ ((c : Nat) : Int) < ((B.length : Nat) : Int) + ((1 : Nat) : Int) by omega)]
    refine Wk.on ?_
    refine ⟨⟨rfl, Int.le_refl 0, by show (0 : Int) ≤ (B.length : Int) + ((1 : Nat) : Int); omega, by show (B.length : Int) + ((1 : Nat) : Int) ≤ c; omega, .inl rfl⟩, ?_⟩
    refine Wk.on ?_
    simp only [Option.getD_some, Option.getD_none, Int.toNat_zero, Nat.sub_zero, Nat.zero_add]
    rw [show ((B.length : Int) + ((1 : Nat) : Int)).toNat = B.length + 1 by omega]
    refine ⟨⟨trivial, by omega, by omega, by omega, .inr (by omega)⟩, ?_⟩
    rw [show ((i : Int) + ((1 : Nat) : Int)).toNat = i + 1 by omega]
    refine Wk.on ?_
    refine CallA.overlaps (t := 75) tok (fn := Tryd.f83) Tryd.func83 (by kernel_rfl) (by kernel_rfl) (by kernel_rfl) (tr := 4) (by kernel_rfl) rfl rfl rfl rfl (by decide) (by decide) (by rw [hlen]; omega) ?_
    refine Wk.on ?_
    refine Tr.draw (md := true) [⟨[], [70, 71, 72, 74, 75, 76], [], [], []⟩, ⟨[], [69, 71, 74, 75, 76], [0], [], []⟩, ⟨[], [69, 70, 74, 75, 76], [0, 1], [], []⟩, ⟨[1, 2], [69, 74, 75, 76], [0], [], []⟩, ⟨[0, 1, 2, 3], [74, 75, 76], [], [], []⟩, ⟨[], [69, 70, 71, 72, 73, 75], [0, 1, 2, 3, 4], [], []⟩, ⟨[], [69, 70, 71, 72, 73, 74], [0, 1, 2, 3, 4, 5], [], []⟩, ⟨[5, 6], [69, 70, 71, 72, 73], [0, 1, 2, 3, 4], [], []⟩] tok (by kernel_rfl) (by kernel_rfl) ?_
    refine Wk.on ?_
    refine ⟨⟨rfl, by show (0 : Int) ≤ (i : Int) + ((1 : Nat) : Int); omega, by show (i : Int) + ((1 : Nat) : Int) ≤ ((B.length + 1 : Nat) : Int); omega, by show ((B.length + 1 : Nat) : Int) ≤ c; omega, .inr (by show (i : Int) + ((1 : Nat) : Int) < c; omega)⟩, ?_⟩
    refine Wk.on ?_
    refine ⟨⟨rfl, by show (0 : Int) ≤ i; omega, by show (i : Int) ≤ ((B.length + 1 : Nat) : Int); omega, by show ((B.length + 1 : Nat) : Int) ≤ c; omega, .inr (by show (i : Int) < c; omega)⟩, ?_⟩
    refine Wk.on ?_
    have hmm : min (B.length + 1 - i) (B.length + 1 - (i + 1)) = B.length - i := by omega
    obtain ⟨hWl, hWe⟩ := shift_cells (V := pC p) hi hlen rfl
    refine ⟨⟨rfl, by show (0 + i) * 2 + min (B.length + 1 - i) (B.length + 1 - (i + 1)) * 2 ≤ (ints (prs B)).length; rw [hlen]; omega⟩, ?_⟩
    refine Wk.on ?_
    refine ⟨⟨rfl, rfl, by show (0 + (i + 1)) * 2 ≤ (ints (prs B)).length; rw [hlen]; omega⟩, ?_⟩
    refine Wk.on ?_
    refine ⟨⟨rfl, by show (0 : Int) ≤ i; omega, by show (i : Int) ≤ ((B.length + 1 : Nat) : Int); omega, by show ((B.length + 1 : Nat) : Int) ≤ c; omega, .inr (by show (i : Int) < c; omega)⟩, ?_⟩
    refine Wk.on ?_
    have hm1 : min 1 (B.length + 1 - i) = 1 := by omega
    refine ⟨by show 0 + min 1 (B.length + 1 - i) * 2 ≤ 2; omega, ?_⟩
    refine Wk.on ?_
    refine ⟨⟨rfl, rfl, by
      show (0 + i) * 2 ≤ ((ints (prs B)).take ((0 + (i + 1)) * 2) ++ ((ints (prs B)).drop ((0 + i) * 2)).take (min (B.length + 1 - i) (B.length + 1 - (i + 1)) * 2) ++ (ints (prs B)).drop ((0 + (i + 1)) * 2 + min (B.length + 1 - i) (B.length + 1 - (i + 1)) * 2)).length
      rw [hmm, Nat.zero_add, Nat.zero_add]; exact hWl⟩, ?_⟩
    refine Wk.on ?_
    exact Fin.nil [(0, .row 93 2 (ints (prs (B.take i ++ p :: B.drop i))))] ⟨rfl, rfl, rfl⟩ (by simp [tupA, hpLt, tmLt, AV.lt, AE.lt, AC.lt, LL_cons, LL_nil, idOk, ABlk.lt, ints_LL, GB, pC]) ⟨by
      show ABlk.row 93 2 (((ints (prs B)).take ((0 + (i + 1)) * 2) ++ ((ints (prs B)).drop ((0 + i) * 2)).take (min (B.length + 1 - i) (B.length + 1 - (i + 1)) * 2) ++ (ints (prs B)).drop ((0 + (i + 1)) * 2 + min (B.length + 1 - i) (B.length + 1 - (i + 1)) * 2)).take ((0 + i) * 2) ++ ((pC p).drop 0).take (min 1 (B.length + 1 - i) * 2) ++ ((ints (prs B)).take ((0 + (i + 1)) * 2) ++ ((ints (prs B)).drop ((0 + i) * 2)).take (min (B.length + 1 - i) (B.length + 1 - (i + 1)) * 2) ++ (ints (prs B)).drop ((0 + (i + 1)) * 2 + min (B.length + 1 - i) (B.length + 1 - (i + 1)) * 2)).drop ((0 + i) * 2 + min 1 (B.length + 1 - i) * 2)) = ABlk.row 93 2 (ints _)
      rw [hmm, hm1, Nat.zero_add, Nat.zero_add]
      refine congrArg (ABlk.row 93 2) (hWe.trans ?_)
      rw [ints_take, ints_drop, prs_take, prs_drop]
      exact cells_mid B p (by omega), trivial⟩ (by simp [tupA, hpLt, tmLt, AV.lt, AE.lt, AC.lt, LL_cons, LL_nil, idOk, ABlk.lt, ints_LL, GB, pC]) rfl (by simp [GB])
end Go.Proofs.YtimknijehaamlaaDoor

/-
  Contracts: a pressing is added.
-/
namespace Go.Proofs.YtimknijehaamlaaDoor
open Go Go.AH Go.Lin
set_option maxRecDepth 100000
set_option maxHeartbeats 1000000

theorem castL_app (A B : List Nat) : castL (A ++ B) = castL A ++ castL B := by simp [castL]
theorem insert_spec (B : List (Nat × Nat)) (hB : B.length ≤ 1000) (p : Nat × Nat) : FDet Tryd.prog 70 [.c (.row 0 B.length), .c (.int .i64 (ixN p.2 B)), .c (.sl 1 0 1 (some 1))] [(0, .row 93 2 (ints (prs B))), (1, .own (pC p))] 2 (.c (.row 2 (B.length + 1))) [(2, .row 93 2 (ints (prs (insP p B))))] 3 := by
  rw [insP_ix]
  by_cases h : ixN p.2 B < B.length
  · exact insert_mid B hB p _ h
  · have e : ixN p.2 B = B.length := by have := ixN_le p.2 B; omega
    rw [e, List.take_of_length_le (Nat.le_refl _), List.drop_of_length_le (Nat.le_refl _)]
    exact insert_end B hB p
theorem insert_nil (p : Nat × Nat) : FDet Tryd.prog 70 [.c .nils, .c (.int .i64 0), .c (.sl 0 0 1 (some 1))] [(0, .own (pC p))] 1 (.c (.row 1 1)) [(1, .row 93 2 (ints (prs [p])))] 2 := by
  refine FSpec.body2 tok true Tryd.func70 ?_
  refine Wk.on ?_
  exact AH.Fin.new [1] _ _ ⟨rfl, rfl, rfl⟩ rfl ⟨rfl, trivial⟩ rfl (by simp [tupA, hpLt, tmLt, AV.lt, AE.lt, AC.lt, LL_cons, LL_nil, idOk, ABlk.lt, ints_LL, GB, pC, castL]) (by simp [tupA, hpLt, tmLt, AV.lt, AE.lt, AC.lt, LL_cons, LL_nil, idOk, ABlk.lt, ints_LL, GB, pC, castL])
theorem index_nil (a e : Nat) : FDet Tryd.prog 68 [.c .nils, .c (.fn 69 [] [0])] [(0, .ro [.int .i64 a, .int .i64 e])] 1 (.c (.int .i64 (-1))) [] 1 := by
  refine FSpec.body2 tok true Tryd.func68 ?_
  refine Wk.on ?_
  refine Tr.loop (md := true) (X := Unit) (st := fun _ => ⟨[(7, .c (.int .i64 0)), (8, .c (.int .i64 0))], [], 1, 19, 1⟩) (inv := fun _ => True) (μ := fun _ => 0) (x0 := ()) (l := []) tok trivial ?_ ?_
  · exact Sub.nil ⟨rfl, rfl, (by simp [pC, castL]), rfl, (by simp [tupA, hpLt, tmLt, AV.lt, AE.lt, AC.lt, LL_cons, LL_nil, idOk, ABlk.lt, ints_LL, GB, pC, castL]), (by simp [tupA, hpLt, tmLt, AV.lt, AE.lt, AC.lt, LL_cons, LL_nil, idOk, ABlk.lt, ints_LL, GB, pC, castL])⟩ (by (repeat (first | exact trivial | refine ⟨trivial, ?_⟩ | refine ⟨rfl, ?_⟩))) (by (repeat (first | exact trivial | refine ⟨trivial, ?_⟩ | refine ⟨rfl, ?_⟩)))
  · intro _ _
    refine Wk.on ?_
    exact AH.Fin.nil2 ⟨rfl, rfl, rfl⟩
/-- All numbers are sets. -/
def Small (B : List (Nat × Nat)) : Prop := ∀ b ∈ B, b.1 < 65536 ∧ b.2 < 65536
theorem redP_small {B : List (Nat × Nat)} (h : Small B) {p : Nat × Nat} (h1 : p.1 < 65536) (h2 : p.2 < 65536) : (redP B p).1 < 65536 ∧ (redP B p).2 < 65536 := by
  induction B generalizing p with
  | nil => exact ⟨h1, h2⟩
  | cons b B ih =>
    have hb := h b (by simp)
    rw [redP_cons]
    refine ih (fun c hc => h c (by simp [hc])) ?_ ?_
    · split
      · exact Nat.xor_lt_two_pow (n := 16) h1 hb.1
      · exact h1
    · split
      · exact Nat.xor_lt_two_pow (n := 16) h2 hb.2
      · exact h2
theorem redP_take {B : List (Nat × Nat)} {k : Nat} (hk : k < B.length) (p : Nat × Nat) : redP (B.take (k + 1)) p = (if (redP (B.take k) p).2 ^^^ (B.getD k (0, 0)).2 < (redP (B.take k) p).2 then ((redP (B.take k) p).1 ^^^ (B.getD k (0, 0)).1, (redP (B.take k) p).2 ^^^ (B.getD k (0, 0)).2) else redP (B.take k) p) := by
  have e : B.getD k (0, 0) = B[k] := by rw [List.getD_eq_getElem?_getD, List.getElem?_eq_getElem hk]; rfl
  rw [redP, List.take_add_one, List.getElem?_eq_getElem hk, e, List.foldl_append]
  rfl
theorem getD_small {B : List (Nat × Nat)} (h : Small B) (k : Nat) : (B.getD k (0, 0)).1 < 65536 ∧ (B.getD k (0, 0)).2 < 65536 := by
  by_cases hk : k < B.length
  · rw [List.getD_eq_getElem?_getD, List.getElem?_eq_getElem hk]
    exact h _ (List.getElem_mem hk)
  · rw [List.getD_eq_getElem?_getD, List.getElem?_eq_none (by omega)]
    exact ⟨by decide, by decide⟩

theorem add_rr_q  (Q : List Nat) (hQ : Q.length ≤ 100)  (B : List (Nat × Nat)) (hB : B.length ≤ 100) (hS : Small B) (s e : Nat) (hs : s < 65536) (he : e < 65536) (hz : (redP B (s, e)).2 = 0) : FDet Tryd.prog 67 [.g [.int .i64 s, .int .i64 e], .c (.ptr 0 0), .c (.ptr 1 0)] [(0, .own [.row 2 B.length]), (1, .own [.row 3 Q.length]), (2, .row 93 2 (ints (prs B))), (3, .row 3 1 (ints (castL Q)))] 4 (.t []) [(0, .own [.row 2 B.length]), (1, .own [.row 4 (Q.length + 1)]), (2, .row 93 2 (ints (prs B))), (4, .row 3 1 (ints (castL (Q ++ [(redP B (s, e)).1]))))] 5 := by
  refine FSpec.body2 tok true Tryd.func67 ?_
  refine Wk.on ?_
  have hlen : (ints (prs B)).length = B.length * 2 := by rw [ints_len, prs_len]
  refine Tr.loop (md := true) (X := Nat) (st := fun k => ⟨[(1, .c (.ptr 0 0)), (2, .c (.ptr 1 0)), (3, .c (.ptr 4 0)), (7, .c (.row 2 B.length)), (8, .c (.int .i64 B.length)), (9, .c (.int .i64 k))], [(4, .own (pC (redP (B.take k) (s, e)))), (0, .own [.row 2 B.length]), (1, .own [.row 3 Q.length]), (2, .row 93 2 (ints (prs B))), (3, .row 3 1 (ints (castL Q)))], 5, 53, 4⟩) (inv := fun k => k ≤ B.length) (μ := fun k => B.length - k) (x0 := 0) (l := []) tok (by omega) ?_ ?_
  · exact Sub.nil ⟨rfl, rfl, (by simp [pC, castL]), rfl, (by simp [tupA, hpLt, tmLt, AV.lt, AE.lt, AC.lt, LL_cons, LL_nil, idOk, ABlk.lt, ints_LL, GB, pC, castL]), (by simp [tupA, hpLt, tmLt, AV.lt, AE.lt, AC.lt, LL_cons, LL_nil, idOk, ABlk.lt, ints_LL, GB, pC, castL])⟩ (by (repeat (first | exact trivial | refine ⟨trivial, ?_⟩ | refine ⟨rfl, ?_⟩))) (by (repeat (first | exact trivial | refine ⟨trivial, ?_⟩ | refine ⟨rfl, ?_⟩)))
  · intro k hk
    by_cases hkl : k < B.length
    · have hsm := redP_small (B := B.take k) (fun c hc => hS c (List.mem_of_mem_take hc)) (p := (s, e)) hs he
      have hgs := getD_small hS k
      have htk := redP_take hkl (s, e)
      obtain ⟨pa, hpa⟩ : ∃ pa, pa = (redP (B.take k) (s, e)).1 := ⟨_, rfl⟩
      obtain ⟨pe, hpe⟩ : ∃ pe, pe = (redP (B.take k) (s, e)).2 := ⟨_, rfl⟩
      have hpc : pC (redP (B.take k) (s, e)) = [.int .i64 pa, .int .i64 pe] := by rw [pC, hpa, hpe]
      rw [hpc]
      rw [← hpa, ← hpe] at hsm htk
      obtain ⟨ba, hba⟩ : ∃ ba, ba = (B.getD k (0, 0)).1 := ⟨_, rfl⟩
      obtain ⟨be, hbe⟩ : ∃ be, be = (B.getD k (0, 0)).2 := ⟨_, rfl⟩
      have hbc : pC (B.getD k (0, 0)) = [.int .i64 ba, .int .i64 be] := by rw [pC, hba, hbe]
      rw [← hba, ← hbe] at hgs htk
      refine Wk.on ?_
      rw [decide_eq_true (show ((k : Nat) : Int) < ((B.length : Nat) : Int) by omega)]
      refine Wk.on ?_
      refine ⟨⟨by rw [hlen, Int.toNat_natCast]; show k * 2 + 2 ≤ _; omega, rfl⟩, ?_⟩
      rw [Int.toNat_natCast]
      refine Wk.on ?_
      rw [prs_rdn, hbc]
      refine Wk.on ?_
      simp only [Int.toNat_natCast]
      rw [show decide (((pe ^^^ be : Nat) : Int) < (pe : Int)) = decide (pe ^^^ be < pe) from decide_eq_decide.2 (by omega)]
      by_cases hx : pe ^^^ be < pe
      · rw [if_pos hx] at htk
        rw [decide_eq_true hx]
        refine Wk.on ?_
        refine Again.mk (k + 1) (Sub.nil ⟨rfl, rfl, (by simp [pC, castL]), rfl, (by simp [tupA, hpLt, tmLt, AV.lt, AE.lt, AC.lt, LL_cons, LL_nil, idOk, ABlk.lt, ints_LL, GB, pC, castL]), (by simp [tupA, hpLt, tmLt, AV.lt, AE.lt, AC.lt, LL_cons, LL_nil, idOk, ABlk.lt, ints_LL, GB, pC, castL])⟩ (by (repeat (first | exact trivial | refine ⟨trivial, ?_⟩ | refine ⟨rfl, ?_⟩))) ⟨by show ABlk.own [.int .i64 ((((pa : Int).toNat ^^^ (ba : Int).toNat : Nat) : Int)), .int .i64 ((((pe : Int).toNat ^^^ (be : Int).toNat : Nat) : Int))] = ABlk.own (pC _); rw [htk]; rfl, rfl, rfl, rfl, rfl, trivial⟩) (by omega) (by omega)
      · rw [if_neg hx] at htk
        rw [decide_eq_false hx]
        refine Wk.on ?_
        refine Again.mk (k + 1) (Sub.nil ⟨rfl, rfl, (by simp [pC, castL]), rfl, (by simp [tupA, hpLt, tmLt, AV.lt, AE.lt, AC.lt, LL_cons, LL_nil, idOk, ABlk.lt, ints_LL, GB, pC, castL]), (by simp [tupA, hpLt, tmLt, AV.lt, AE.lt, AC.lt, LL_cons, LL_nil, idOk, ABlk.lt, ints_LL, GB, pC, castL])⟩ (by (repeat (first | exact trivial | refine ⟨trivial, ?_⟩ | refine ⟨rfl, ?_⟩))) ⟨by show ABlk.own [.int .i64 pa, .int .i64 pe] = ABlk.own (pC _); rw [htk, hpc], rfl, rfl, rfl, rfl, trivial⟩) (by omega) (by omega)
    · obtain rfl : k = B.length := by omega
      rw [List.take_of_length_le (Nat.le_refl _)]
      have hsm := redP_small hS (p := (s, e)) hs he
      obtain ⟨pa, hpa⟩ : ∃ pa, pa = (redP B (s, e)).1 := ⟨_, rfl⟩
      obtain ⟨pe, hpe⟩ : ∃ pe, pe = (redP B (s, e)).2 := ⟨_, rfl⟩
      have hpp : redP B (s, e) = (pa, pe) := by rw [hpa, hpe]
      rw [hpp] at hz hsm ⊢
      clear hpa hpe
      dsimp only at hz hsm
      refine Wk.on ?_
      rw [decide_eq_false (show ¬ ((B.length : Nat) : Int) < ((B.length : Nat) : Int) by omega)]
      refine Wk.on ?_
      intro _
      refine Wk.on ?_
      rw [decide_eq_true (show ((pe : Nat) : Int) = 0 by omega)]
      refine Wk.on ?_
      have hql : (ints (castL Q)).length = Q.length := by rw [ints_len, castL_len]
      refine ⟨⟨Nat.le_of_ble_eq_true rfl, rfl, rfl, by rw [hql]; show Q.length = Q.length * 1; omega, by show ((Q.length + 1 : Nat) : Int) * 8 ≤ _; omega, by omega⟩, ?_⟩
      refine Wk.on ?_
      exact AH.Fin.new [6] _ _ ⟨rfl, rfl, rfl⟩ rfl ⟨rfl, rfl, by show some (ABlk.row 93 2 _) = some (ABlk.row 93 2 ((ints _).map _)); rw [ints_ren], by show some (ABlk.row 3 1 (ints (castL Q) ++ [.int .i64 pa])) = some (ABlk.row 3 1 ((ints _).map _)); rw [ints_ren, castL_app, ← ints_app]; rfl, trivial⟩ rfl (by simp [tupA, hpLt, tmLt, AV.lt, AE.lt, AC.lt, LL_cons, LL_nil, idOk, ABlk.lt, ints_LL, GB, pC, castL]) (by simp [tupA, hpLt, tmLt, AV.lt, AE.lt, AC.lt, LL_cons, LL_nil, idOk, ABlk.lt, ints_LL, GB, pC, castL])
theorem add_rr_b  (Q : List Nat) (hQ : Q.length ≤ 100)  (B : List (Nat × Nat)) (hB : B.length ≤ 100) (hS : Small B) (s e : Nat) (hs : s < 65536) (he : e < 65536) (hz : ¬ (redP B (s, e)).2 = 0) : FDet Tryd.prog 67 [.g [.int .i64 s, .int .i64 e], .c (.ptr 0 0), .c (.ptr 1 0)] [(0, .own [.row 2 B.length]), (1, .own [.row 3 Q.length]), (2, .row 93 2 (ints (prs B))), (3, .row 3 1 (ints (castL Q)))] 4 (.t []) [(0, .own [.row 4 (B.length + 1)]), (1, .own [.row 3 Q.length]), (3, .row 3 1 (ints (castL Q))), (4, .row 93 2 (ints (prs (insP (redP B (s, e)) B))))] 5 := by
  refine FSpec.body2 tok true Tryd.func67 ?_
  refine Wk.on ?_
  have hlen : (ints (prs B)).length = B.length * 2 := by rw [ints_len, prs_len]
  refine Tr.loop (md := true) (X := Nat) (st := fun k => ⟨[(1, .c (.ptr 0 0)), (2, .c (.ptr 1 0)), (3, .c (.ptr 4 0)), (7, .c (.row 2 B.length)), (8, .c (.int .i64 B.length)), (9, .c (.int .i64 k))], [(4, .own (pC (redP (B.take k) (s, e)))), (0, .own [.row 2 B.length]), (1, .own [.row 3 Q.length]), (2, .row 93 2 (ints (prs B))), (3, .row 3 1 (ints (castL Q)))], 5, 53, 4⟩) (inv := fun k => k ≤ B.length) (μ := fun k => B.length - k) (x0 := 0) (l := []) tok (by omega) ?_ ?_
  · exact Sub.nil ⟨rfl, rfl, (by simp [pC, castL]), rfl, (by simp [tupA, hpLt, tmLt, AV.lt, AE.lt, AC.lt, LL_cons, LL_nil, idOk, ABlk.lt, ints_LL, GB, pC, castL]), (by simp [tupA, hpLt, tmLt, AV.lt, AE.lt, AC.lt, LL_cons, LL_nil, idOk, ABlk.lt, ints_LL, GB, pC, castL])⟩ (by (repeat (first | exact trivial | refine ⟨trivial, ?_⟩ | refine ⟨rfl, ?_⟩))) (by (repeat (first | exact trivial | refine ⟨trivial, ?_⟩ | refine ⟨rfl, ?_⟩)))
  · intro k hk
    by_cases hkl : k < B.length
    · have hsm := redP_small (B := B.take k) (fun c hc => hS c (List.mem_of_mem_take hc)) (p := (s, e)) hs he
      have hgs := getD_small hS k
      have htk := redP_take hkl (s, e)
      obtain ⟨pa, hpa⟩ : ∃ pa, pa = (redP (B.take k) (s, e)).1 := ⟨_, rfl⟩
      obtain ⟨pe, hpe⟩ : ∃ pe, pe = (redP (B.take k) (s, e)).2 := ⟨_, rfl⟩
      have hpc : pC (redP (B.take k) (s, e)) = [.int .i64 pa, .int .i64 pe] := by rw [pC, hpa, hpe]
      rw [hpc]
      rw [← hpa, ← hpe] at hsm htk
      obtain ⟨ba, hba⟩ : ∃ ba, ba = (B.getD k (0, 0)).1 := ⟨_, rfl⟩
      obtain ⟨be, hbe⟩ : ∃ be, be = (B.getD k (0, 0)).2 := ⟨_, rfl⟩
      have hbc : pC (B.getD k (0, 0)) = [.int .i64 ba, .int .i64 be] := by rw [pC, hba, hbe]
      rw [← hba, ← hbe] at hgs htk
      refine Wk.on ?_
      rw [decide_eq_true (show ((k : Nat) : Int) < ((B.length : Nat) : Int) by omega)]
      refine Wk.on ?_
      refine ⟨⟨by rw [hlen, Int.toNat_natCast]; show k * 2 + 2 ≤ _; omega, rfl⟩, ?_⟩
      rw [Int.toNat_natCast]
      refine Wk.on ?_
      rw [prs_rdn, hbc]
      refine Wk.on ?_
      simp only [Int.toNat_natCast]
      rw [show decide (((pe ^^^ be : Nat) : Int) < (pe : Int)) = decide (pe ^^^ be < pe) from decide_eq_decide.2 (by omega)]
      by_cases hx : pe ^^^ be < pe
      · rw [if_pos hx] at htk
        rw [decide_eq_true hx]
        refine Wk.on ?_
        refine Again.mk (k + 1) (Sub.nil ⟨rfl, rfl, (by simp [pC, castL]), rfl, (by simp [tupA, hpLt, tmLt, AV.lt, AE.lt, AC.lt, LL_cons, LL_nil, idOk, ABlk.lt, ints_LL, GB, pC, castL]), (by simp [tupA, hpLt, tmLt, AV.lt, AE.lt, AC.lt, LL_cons, LL_nil, idOk, ABlk.lt, ints_LL, GB, pC, castL])⟩ (by (repeat (first | exact trivial | refine ⟨trivial, ?_⟩ | refine ⟨rfl, ?_⟩))) ⟨by show ABlk.own [.int .i64 ((((pa : Int).toNat ^^^ (ba : Int).toNat : Nat) : Int)), .int .i64 ((((pe : Int).toNat ^^^ (be : Int).toNat : Nat) : Int))] = ABlk.own (pC _); rw [htk]; rfl, rfl, rfl, rfl, rfl, trivial⟩) (by omega) (by omega)
      · rw [if_neg hx] at htk
        rw [decide_eq_false hx]
        refine Wk.on ?_
        refine Again.mk (k + 1) (Sub.nil ⟨rfl, rfl, (by simp [pC, castL]), rfl, (by simp [tupA, hpLt, tmLt, AV.lt, AE.lt, AC.lt, LL_cons, LL_nil, idOk, ABlk.lt, ints_LL, GB, pC, castL]), (by simp [tupA, hpLt, tmLt, AV.lt, AE.lt, AC.lt, LL_cons, LL_nil, idOk, ABlk.lt, ints_LL, GB, pC, castL])⟩ (by (repeat (first | exact trivial | refine ⟨trivial, ?_⟩ | refine ⟨rfl, ?_⟩))) ⟨by show ABlk.own [.int .i64 pa, .int .i64 pe] = ABlk.own (pC _); rw [htk, hpc], rfl, rfl, rfl, rfl, trivial⟩) (by omega) (by omega)
    · obtain rfl : k = B.length := by omega
      rw [List.take_of_length_le (Nat.le_refl _)]
      have hsm := redP_small hS (p := (s, e)) hs he
      obtain ⟨pa, hpa⟩ : ∃ pa, pa = (redP B (s, e)).1 := ⟨_, rfl⟩
      obtain ⟨pe, hpe⟩ : ∃ pe, pe = (redP B (s, e)).2 := ⟨_, rfl⟩
      have hpp : redP B (s, e) = (pa, pe) := by rw [hpa, hpe]
      rw [hpp] at hz hsm ⊢
      clear hpa hpe
      dsimp only at hz hsm
      refine Wk.on ?_
      rw [decide_eq_false (show ¬ ((B.length : Nat) : Int) < ((B.length : Nat) : Int) by omega)]
      refine Wk.on ?_
      intro _
      refine Wk.on ?_
      rw [decide_eq_false (show ¬ ((pe : Nat) : Int) = 0 by omega)]
      refine Wk.on ?_
      refine CallA.det2 [2, 4] (.c (.int .i64 (ixI pe B))) ([(0, .own [.row 2 B.length]), (1, .own [.row 3 Q.length]), (3, .row 3 1 (ints (castL Q))), (4, .own [.int .i64 pa, .int .i64 pe]), (2, .row 93 2 (ints (prs B)))]) (index_row B (by omega) pa pe) ?_
      refine Wk.on ?_
      have hix := ixN_le pe B
      by_cases hlt : ixN pe B < B.length
      · rw [show ixI pe B = (ixN pe B : Nat) by rw [ixI, if_pos hlt]]
        rw [decide_eq_false (show ¬ ((ixN pe B : Nat) : Int) < 0 by omega)]
        refine Wk.on ?_
        refine CallA.det2 [2, 5] (.c (.row 6 (B.length + 1))) ([(0, .own [.row 2 B.length]), (1, .own [.row 3 Q.length]), (3, .row 3 1 (ints (castL Q))), (4, .own (pC (pa, pe))), (6, .row 93 2 (ints (prs (insP (pa, pe) B))))]) (insert_spec B (by omega) (pa, pe)) ?_
        refine Wk.on ?_
        exact AH.Fin.new [6] _ _ ⟨rfl, rfl, rfl⟩ rfl ⟨rfl, rfl, by show some (ABlk.row 3 1 _) = some (ABlk.row 3 1 ((ints _).map _)); rw [ints_ren], by show some (ABlk.row 93 2 _) = some (ABlk.row 93 2 ((ints _).map _)); rw [ints_ren], trivial⟩ rfl (by simp [tupA, hpLt, tmLt, AV.lt, AE.lt, AC.lt, LL_cons, LL_nil, idOk, ABlk.lt, ints_LL, GB, pC, castL]) (by simp [tupA, hpLt, tmLt, AV.lt, AE.lt, AC.lt, LL_cons, LL_nil, idOk, ABlk.lt, ints_LL, GB, pC, castL])
      · rw [show ixI pe B = -1 by rw [ixI, if_neg hlt]]
        have hee : (B.length : Int) = ((ixN pe B : Nat) : Int) := by omega
        refine Wk.on ?_
        rw [hee]
        refine Wk.on ?_
        refine CallA.det2 [2, 5] (.c (.row 6 (B.length + 1))) ([(0, .own [.row 2 B.length]), (1, .own [.row 3 Q.length]), (3, .row 3 1 (ints (castL Q))), (4, .own (pC (pa, pe))), (6, .row 93 2 (ints (prs (insP (pa, pe) B))))]) (insert_spec B (by omega) (pa, pe)) ?_
        refine Wk.on ?_
        exact AH.Fin.new [6] _ _ ⟨rfl, rfl, rfl⟩ rfl ⟨rfl, rfl, by show some (ABlk.row 3 1 _) = some (ABlk.row 3 1 ((ints _).map _)); rw [ints_ren], by show some (ABlk.row 93 2 _) = some (ABlk.row 93 2 ((ints _).map _)); rw [ints_ren], trivial⟩ rfl (by simp [tupA, hpLt, tmLt, AV.lt, AE.lt, AC.lt, LL_cons, LL_nil, idOk, ABlk.lt, ints_LL, GB, pC, castL]) (by simp [tupA, hpLt, tmLt, AV.lt, AE.lt, AC.lt, LL_cons, LL_nil, idOk, ABlk.lt, ints_LL, GB, pC, castL])
theorem add_rn_q  (B : List (Nat × Nat)) (hB : B.length ≤ 100) (hS : Small B) (s e : Nat) (hs : s < 65536) (he : e < 65536) (hz : (redP B (s, e)).2 = 0) : FDet Tryd.prog 67 [.g [.int .i64 s, .int .i64 e], .c (.ptr 0 0), .c (.ptr 1 0)] [(0, .own [.row 2 B.length]), (1, .own [.nils]), (2, .row 93 2 (ints (prs B)))] 3 (.t []) [(0, .own [.row 2 B.length]), (1, .own [.row 3 (1)]), (2, .row 93 2 (ints (prs B))), (3, .row 3 1 (ints (castL ([] ++ [(redP B (s, e)).1]))))] 4 := by
  refine FSpec.body2 tok true Tryd.func67 ?_
  refine Wk.on ?_
  have hlen : (ints (prs B)).length = B.length * 2 := by rw [ints_len, prs_len]
  refine Tr.loop (md := true) (X := Nat) (st := fun k => ⟨[(1, .c (.ptr 0 0)), (2, .c (.ptr 1 0)), (3, .c (.ptr 3 0)), (7, .c (.row 2 B.length)), (8, .c (.int .i64 B.length)), (9, .c (.int .i64 k))], [(3, .own (pC (redP (B.take k) (s, e)))), (0, .own [.row 2 B.length]), (1, .own [.nils]), (2, .row 93 2 (ints (prs B)))], 4, 53, 3⟩) (inv := fun k => k ≤ B.length) (μ := fun k => B.length - k) (x0 := 0) (l := []) tok (by omega) ?_ ?_
  · exact Sub.nil ⟨rfl, rfl, (by simp [pC, castL]), rfl, (by simp [tupA, hpLt, tmLt, AV.lt, AE.lt, AC.lt, LL_cons, LL_nil, idOk, ABlk.lt, ints_LL, GB, pC, castL]), (by simp [tupA, hpLt, tmLt, AV.lt, AE.lt, AC.lt, LL_cons, LL_nil, idOk, ABlk.lt, ints_LL, GB, pC, castL])⟩ (by (repeat (first | exact trivial | refine ⟨trivial, ?_⟩ | refine ⟨rfl, ?_⟩))) (by (repeat (first | exact trivial | refine ⟨trivial, ?_⟩ | refine ⟨rfl, ?_⟩)))
  · intro k hk
    by_cases hkl : k < B.length
    · have hsm := redP_small (B := B.take k) (fun c hc => hS c (List.mem_of_mem_take hc)) (p := (s, e)) hs he
      have hgs := getD_small hS k
      have htk := redP_take hkl (s, e)
      obtain ⟨pa, hpa⟩ : ∃ pa, pa = (redP (B.take k) (s, e)).1 := ⟨_, rfl⟩
      obtain ⟨pe, hpe⟩ : ∃ pe, pe = (redP (B.take k) (s, e)).2 := ⟨_, rfl⟩
      have hpc : pC (redP (B.take k) (s, e)) = [.int .i64 pa, .int .i64 pe] := by rw [pC, hpa, hpe]
      rw [hpc]
      rw [← hpa, ← hpe] at hsm htk
      obtain ⟨ba, hba⟩ : ∃ ba, ba = (B.getD k (0, 0)).1 := ⟨_, rfl⟩
      obtain ⟨be, hbe⟩ : ∃ be, be = (B.getD k (0, 0)).2 := ⟨_, rfl⟩
      have hbc : pC (B.getD k (0, 0)) = [.int .i64 ba, .int .i64 be] := by rw [pC, hba, hbe]
      rw [← hba, ← hbe] at hgs htk
      refine Wk.on ?_
      rw [decide_eq_true (show ((k : Nat) : Int) < ((B.length : Nat) : Int) by omega)]
      refine Wk.on ?_
      refine ⟨⟨by rw [hlen, Int.toNat_natCast]; show k * 2 + 2 ≤ _; omega, rfl⟩, ?_⟩
      rw [Int.toNat_natCast]
      refine Wk.on ?_
      rw [prs_rdn, hbc]
      refine Wk.on ?_
      simp only [Int.toNat_natCast]
      rw [show decide (((pe ^^^ be : Nat) : Int) < (pe : Int)) = decide (pe ^^^ be < pe) from decide_eq_decide.2 (by omega)]
      by_cases hx : pe ^^^ be < pe
      · rw [if_pos hx] at htk
        rw [decide_eq_true hx]
        refine Wk.on ?_
        refine Again.mk (k + 1) (Sub.nil ⟨rfl, rfl, (by simp [pC, castL]), rfl, (by simp [tupA, hpLt, tmLt, AV.lt, AE.lt, AC.lt, LL_cons, LL_nil, idOk, ABlk.lt, ints_LL, GB, pC, castL]), (by simp [tupA, hpLt, tmLt, AV.lt, AE.lt, AC.lt, LL_cons, LL_nil, idOk, ABlk.lt, ints_LL, GB, pC, castL])⟩ (by (repeat (first | exact trivial | refine ⟨trivial, ?_⟩ | refine ⟨rfl, ?_⟩))) ⟨by show ABlk.own [.int .i64 ((((pa : Int).toNat ^^^ (ba : Int).toNat : Nat) : Int)), .int .i64 ((((pe : Int).toNat ^^^ (be : Int).toNat : Nat) : Int))] = ABlk.own (pC _); rw [htk]; rfl, rfl, rfl, rfl, trivial⟩) (by omega) (by omega)
      · rw [if_neg hx] at htk
        rw [decide_eq_false hx]
        refine Wk.on ?_
        refine Again.mk (k + 1) (Sub.nil ⟨rfl, rfl, (by simp [pC, castL]), rfl, (by simp [tupA, hpLt, tmLt, AV.lt, AE.lt, AC.lt, LL_cons, LL_nil, idOk, ABlk.lt, ints_LL, GB, pC, castL]), (by simp [tupA, hpLt, tmLt, AV.lt, AE.lt, AC.lt, LL_cons, LL_nil, idOk, ABlk.lt, ints_LL, GB, pC, castL])⟩ (by (repeat (first | exact trivial | refine ⟨trivial, ?_⟩ | refine ⟨rfl, ?_⟩))) ⟨by show ABlk.own [.int .i64 pa, .int .i64 pe] = ABlk.own (pC _); rw [htk, hpc], rfl, rfl, rfl, trivial⟩) (by omega) (by omega)
    · obtain rfl : k = B.length := by omega
      rw [List.take_of_length_le (Nat.le_refl _)]
      have hsm := redP_small hS (p := (s, e)) hs he
      obtain ⟨pa, hpa⟩ : ∃ pa, pa = (redP B (s, e)).1 := ⟨_, rfl⟩
      obtain ⟨pe, hpe⟩ : ∃ pe, pe = (redP B (s, e)).2 := ⟨_, rfl⟩
      have hpp : redP B (s, e) = (pa, pe) := by rw [hpa, hpe]
      rw [hpp] at hz hsm ⊢
      clear hpa hpe
      dsimp only at hz hsm
      refine Wk.on ?_
      rw [decide_eq_false (show ¬ ((B.length : Nat) : Int) < ((B.length : Nat) : Int) by omega)]
      refine Wk.on ?_
      intro _
      refine Wk.on ?_
      rw [decide_eq_true (show ((pe : Nat) : Int) = 0 by omega)]
      refine Wk.on ?_
      exact AH.Fin.new [5] _ _ ⟨rfl, rfl, rfl⟩ rfl ⟨rfl, rfl, by show some (ABlk.row 93 2 _) = some (ABlk.row 93 2 ((ints _).map _)); rw [ints_ren], rfl, trivial⟩ rfl (by simp [tupA, hpLt, tmLt, AV.lt, AE.lt, AC.lt, LL_cons, LL_nil, idOk, ABlk.lt, ints_LL, GB, pC, castL]) (by simp [tupA, hpLt, tmLt, AV.lt, AE.lt, AC.lt, LL_cons, LL_nil, idOk, ABlk.lt, ints_LL, GB, pC, castL])
theorem add_rn_b  (B : List (Nat × Nat)) (hB : B.length ≤ 100) (hS : Small B) (s e : Nat) (hs : s < 65536) (he : e < 65536) (hz : ¬ (redP B (s, e)).2 = 0) : FDet Tryd.prog 67 [.g [.int .i64 s, .int .i64 e], .c (.ptr 0 0), .c (.ptr 1 0)] [(0, .own [.row 2 B.length]), (1, .own [.nils]), (2, .row 93 2 (ints (prs B)))] 3 (.t []) [(0, .own [.row 3 (B.length + 1)]), (1, .own [.nils]), (3, .row 93 2 (ints (prs (insP (redP B (s, e)) B))))] 4 := by
  refine FSpec.body2 tok true Tryd.func67 ?_
  refine Wk.on ?_
  have hlen : (ints (prs B)).length = B.length * 2 := by rw [ints_len, prs_len]
  refine Tr.loop (md := true) (X := Nat) (st := fun k => ⟨[(1, .c (.ptr 0 0)), (2, .c (.ptr 1 0)), (3, .c (.ptr 3 0)), (7, .c (.row 2 B.length)), (8, .c (.int .i64 B.length)), (9, .c (.int .i64 k))], [(3, .own (pC (redP (B.take k) (s, e)))), (0, .own [.row 2 B.length]), (1, .own [.nils]), (2, .row 93 2 (ints (prs B)))], 4, 53, 3⟩) (inv := fun k => k ≤ B.length) (μ := fun k => B.length - k) (x0 := 0) (l := []) tok (by omega) ?_ ?_
  · exact Sub.nil ⟨rfl, rfl, (by simp [pC, castL]), rfl, (by simp [tupA, hpLt, tmLt, AV.lt, AE.lt, AC.lt, LL_cons, LL_nil, idOk, ABlk.lt, ints_LL, GB, pC, castL]), (by simp [tupA, hpLt, tmLt, AV.lt, AE.lt, AC.lt, LL_cons, LL_nil, idOk, ABlk.lt, ints_LL, GB, pC, castL])⟩ (by (repeat (first | exact trivial | refine ⟨trivial, ?_⟩ | refine ⟨rfl, ?_⟩))) (by (repeat (first | exact trivial | refine ⟨trivial, ?_⟩ | refine ⟨rfl, ?_⟩)))
  · intro k hk
    by_cases hkl : k < B.length
    · have hsm := redP_small (B := B.take k) (fun c hc => hS c (List.mem_of_mem_take hc)) (p := (s, e)) hs he
      have hgs := getD_small hS k
      have htk := redP_take hkl (s, e)
      obtain ⟨pa, hpa⟩ : ∃ pa, pa = (redP (B.take k) (s, e)).1 := ⟨_, rfl⟩
      obtain ⟨pe, hpe⟩ : ∃ pe, pe = (redP (B.take k) (s, e)).2 := ⟨_, rfl⟩
      have hpc : pC (redP (B.take k) (s, e)) = [.int .i64 pa, .int .i64 pe] := by rw [pC, hpa, hpe]
      rw [hpc]
      rw [← hpa, ← hpe] at hsm htk
      obtain ⟨ba, hba⟩ : ∃ ba, ba = (B.getD k (0, 0)).1 := ⟨_, rfl⟩
      obtain ⟨be, hbe⟩ : ∃ be, be = (B.getD k (0, 0)).2 := ⟨_, rfl⟩
      have hbc : pC (B.getD k (0, 0)) = [.int .i64 ba, .int .i64 be] := by rw [pC, hba, hbe]
      rw [← hba, ← hbe] at hgs htk
      refine Wk.on ?_
      rw [decide_eq_true (show ((k : Nat) : Int) < ((B.length : Nat) : Int) by omega)]
      refine Wk.on ?_
      refine ⟨⟨by rw [hlen, Int.toNat_natCast]; show k * 2 + 2 ≤ _; omega, rfl⟩, ?_⟩
      rw [Int.toNat_natCast]
      refine Wk.on ?_
      rw [prs_rdn, hbc]
      refine Wk.on ?_
      simp only [Int.toNat_natCast]
      rw [show decide (((pe ^^^ be : Nat) : Int) < (pe : Int)) = decide (pe ^^^ be < pe) from decide_eq_decide.2 (by omega)]
      by_cases hx : pe ^^^ be < pe
      · rw [if_pos hx] at htk
        rw [decide_eq_true hx]
        refine Wk.on ?_
        refine Again.mk (k + 1) (Sub.nil ⟨rfl, rfl, (by simp [pC, castL]), rfl, (by simp [tupA, hpLt, tmLt, AV.lt, AE.lt, AC.lt, LL_cons, LL_nil, idOk, ABlk.lt, ints_LL, GB, pC, castL]), (by simp [tupA, hpLt, tmLt, AV.lt, AE.lt, AC.lt, LL_cons, LL_nil, idOk, ABlk.lt, ints_LL, GB, pC, castL])⟩ (by (repeat (first | exact trivial | refine ⟨trivial, ?_⟩ | refine ⟨rfl, ?_⟩))) ⟨by show ABlk.own [.int .i64 ((((pa : Int).toNat ^^^ (ba : Int).toNat : Nat) : Int)), .int .i64 ((((pe : Int).toNat ^^^ (be : Int).toNat : Nat) : Int))] = ABlk.own (pC _); rw [htk]; rfl, rfl, rfl, rfl, trivial⟩) (by omega) (by omega)
      · rw [if_neg hx] at htk
        rw [decide_eq_false hx]
        refine Wk.on ?_
        refine Again.mk (k + 1) (Sub.nil ⟨rfl, rfl, (by simp [pC, castL]), rfl, (by simp [tupA, hpLt, tmLt, AV.lt, AE.lt, AC.lt, LL_cons, LL_nil, idOk, ABlk.lt, ints_LL, GB, pC, castL]), (by simp [tupA, hpLt, tmLt, AV.lt, AE.lt, AC.lt, LL_cons, LL_nil, idOk, ABlk.lt, ints_LL, GB, pC, castL])⟩ (by (repeat (first | exact trivial | refine ⟨trivial, ?_⟩ | refine ⟨rfl, ?_⟩))) ⟨by show ABlk.own [.int .i64 pa, .int .i64 pe] = ABlk.own (pC _); rw [htk, hpc], rfl, rfl, rfl, trivial⟩) (by omega) (by omega)
    · obtain rfl : k = B.length := by omega
      rw [List.take_of_length_le (Nat.le_refl _)]
      have hsm := redP_small hS (p := (s, e)) hs he
      obtain ⟨pa, hpa⟩ : ∃ pa, pa = (redP B (s, e)).1 := ⟨_, rfl⟩
      obtain ⟨pe, hpe⟩ : ∃ pe, pe = (redP B (s, e)).2 := ⟨_, rfl⟩
      have hpp : redP B (s, e) = (pa, pe) := by rw [hpa, hpe]
      rw [hpp] at hz hsm ⊢
      clear hpa hpe
      dsimp only at hz hsm
      refine Wk.on ?_
      rw [decide_eq_false (show ¬ ((B.length : Nat) : Int) < ((B.length : Nat) : Int) by omega)]
      refine Wk.on ?_
      intro _
      refine Wk.on ?_
      rw [decide_eq_false (show ¬ ((pe : Nat) : Int) = 0 by omega)]
      refine Wk.on ?_
      refine CallA.det2 [2, 3] (.c (.int .i64 (ixI pe B))) ([(0, .own [.row 2 B.length]), (1, .own [.nils]), (3, .own [.int .i64 pa, .int .i64 pe]), (2, .row 93 2 (ints (prs B)))]) (index_row B (by omega) pa pe) ?_
      refine Wk.on ?_
      have hix := ixN_le pe B
      by_cases hlt : ixN pe B < B.length
      · rw [show ixI pe B = (ixN pe B : Nat) by rw [ixI, if_pos hlt]]
        rw [decide_eq_false (show ¬ ((ixN pe B : Nat) : Int) < 0 by omega)]
        refine Wk.on ?_
        refine CallA.det2 [2, 4] (.c (.row 5 (B.length + 1))) ([(0, .own [.row 2 B.length]), (1, .own [.nils]), (3, .own (pC (pa, pe))), (5, .row 93 2 (ints (prs (insP (pa, pe) B))))]) (insert_spec B (by omega) (pa, pe)) ?_
        refine Wk.on ?_
        exact AH.Fin.new [5] _ _ ⟨rfl, rfl, rfl⟩ rfl ⟨rfl, rfl, by show some (ABlk.row 93 2 _) = some (ABlk.row 93 2 ((ints _).map _)); rw [ints_ren], trivial⟩ rfl (by simp [tupA, hpLt, tmLt, AV.lt, AE.lt, AC.lt, LL_cons, LL_nil, idOk, ABlk.lt, ints_LL, GB, pC, castL]) (by simp [tupA, hpLt, tmLt, AV.lt, AE.lt, AC.lt, LL_cons, LL_nil, idOk, ABlk.lt, ints_LL, GB, pC, castL])
      · rw [show ixI pe B = -1 by rw [ixI, if_neg hlt]]
        have hee : (B.length : Int) = ((ixN pe B : Nat) : Int) := by omega
        refine Wk.on ?_
        rw [hee]
        refine Wk.on ?_
        refine CallA.det2 [2, 4] (.c (.row 5 (B.length + 1))) ([(0, .own [.row 2 B.length]), (1, .own [.nils]), (3, .own (pC (pa, pe))), (5, .row 93 2 (ints (prs (insP (pa, pe) B))))]) (insert_spec B (by omega) (pa, pe)) ?_
        refine Wk.on ?_
        exact AH.Fin.new [5] _ _ ⟨rfl, rfl, rfl⟩ rfl ⟨rfl, rfl, by show some (ABlk.row 93 2 _) = some (ABlk.row 93 2 ((ints _).map _)); rw [ints_ren], trivial⟩ rfl (by simp [tupA, hpLt, tmLt, AV.lt, AE.lt, AC.lt, LL_cons, LL_nil, idOk, ABlk.lt, ints_LL, GB, pC, castL]) (by simp [tupA, hpLt, tmLt, AV.lt, AE.lt, AC.lt, LL_cons, LL_nil, idOk, ABlk.lt, ints_LL, GB, pC, castL])
theorem add_nr_q  (Q : List Nat) (hQ : Q.length ≤ 100) (s e : Nat) (hs : s < 65536) (he : e < 65536) (hz : (redP [] (s, e)).2 = 0) : FDet Tryd.prog 67 [.g [.int .i64 s, .int .i64 e], .c (.ptr 0 0), .c (.ptr 1 0)] [(0, .own [.nils]), (1, .own [.row 2 Q.length]), (2, .row 3 1 (ints (castL Q)))] 3 (.t []) [(0, .own [.nils]), (1, .own [.row 3 (Q.length + 1)]), (3, .row 3 1 (ints (castL (Q ++ [(redP [] (s, e)).1]))))] 4 := by
  refine FSpec.body2 tok true Tryd.func67 ?_
  refine Wk.on ?_
  refine Tr.loop (md := true) (X := Unit) (st := fun _ => ⟨[(1, .c (.ptr 0 0)), (2, .c (.ptr 1 0)), (3, .c (.ptr 3 0)), (7, .c (.nils)), (8, .c (.int .i64 0)), (9, .c (.int .i64 0))], [(3, .own (pC (s, e))), (0, .own [.nils]), (1, .own [.row 2 Q.length]), (2, .row 3 1 (ints (castL Q)))], 4, 53, 3⟩) (inv := fun _ => True) (μ := fun _ => 0) (x0 := ()) (l := []) tok trivial ?_ ?_
  · exact Sub.nil ⟨rfl, rfl, (by simp [pC, castL]), rfl, (by simp [tupA, hpLt, tmLt, AV.lt, AE.lt, AC.lt, LL_cons, LL_nil, idOk, ABlk.lt, ints_LL, GB, pC, castL]), (by simp [tupA, hpLt, tmLt, AV.lt, AE.lt, AC.lt, LL_cons, LL_nil, idOk, ABlk.lt, ints_LL, GB, pC, castL])⟩ (by (repeat (first | exact trivial | refine ⟨trivial, ?_⟩ | refine ⟨rfl, ?_⟩))) (by (repeat (first | exact trivial | refine ⟨trivial, ?_⟩ | refine ⟨rfl, ?_⟩)))
  · intro _ _
    refine Wk.on ?_
    obtain ⟨pa, rfl⟩ : ∃ pa, pa = s := ⟨_, rfl⟩
    obtain ⟨pe, rfl⟩ : ∃ pe, pe = e := ⟨_, rfl⟩
    have hpp : redP [] (pa, pe) = (pa, pe) := rfl
    rw [hpp] at hz ⊢
    dsimp only at hz
    refine Wk.on ?_
    rw [decide_eq_true (show ((pe : Nat) : Int) = 0 by omega)]
    refine Wk.on ?_
    have hql : (ints (castL Q)).length = Q.length := by rw [ints_len, castL_len]
    refine ⟨⟨Nat.le_of_ble_eq_true rfl, rfl, rfl, by rw [hql]; show Q.length = Q.length * 1; omega, by show ((Q.length + 1 : Nat) : Int) * 8 ≤ _; omega, by omega⟩, ?_⟩
    refine Wk.on ?_
    exact AH.Fin.new [5] _ _ ⟨rfl, rfl, rfl⟩ rfl ⟨rfl, rfl, by show some (ABlk.row 3 1 (ints (castL Q) ++ [.int .i64 pa])) = some (ABlk.row 3 1 ((ints _).map _)); rw [ints_ren, castL_app, ← ints_app]; rfl, trivial⟩ rfl (by simp [tupA, hpLt, tmLt, AV.lt, AE.lt, AC.lt, LL_cons, LL_nil, idOk, ABlk.lt, ints_LL, GB, pC, castL]) (by simp [tupA, hpLt, tmLt, AV.lt, AE.lt, AC.lt, LL_cons, LL_nil, idOk, ABlk.lt, ints_LL, GB, pC, castL])
theorem add_nr_b  (Q : List Nat) (hQ : Q.length ≤ 100) (s e : Nat) (hs : s < 65536) (he : e < 65536) (hz : ¬ (redP [] (s, e)).2 = 0) : FDet Tryd.prog 67 [.g [.int .i64 s, .int .i64 e], .c (.ptr 0 0), .c (.ptr 1 0)] [(0, .own [.nils]), (1, .own [.row 2 Q.length]), (2, .row 3 1 (ints (castL Q)))] 3 (.t []) [(0, .own [.row 3 (1)]), (1, .own [.row 2 Q.length]), (2, .row 3 1 (ints (castL Q))), (3, .row 93 2 (ints (prs (insP (redP [] (s, e)) []))))] 4 := by
  refine FSpec.body2 tok true Tryd.func67 ?_
  refine Wk.on ?_
  refine Tr.loop (md := true) (X := Unit) (st := fun _ => ⟨[(1, .c (.ptr 0 0)), (2, .c (.ptr 1 0)), (3, .c (.ptr 3 0)), (7, .c (.nils)), (8, .c (.int .i64 0)), (9, .c (.int .i64 0))], [(3, .own (pC (s, e))), (0, .own [.nils]), (1, .own [.row 2 Q.length]), (2, .row 3 1 (ints (castL Q)))], 4, 53, 3⟩) (inv := fun _ => True) (μ := fun _ => 0) (x0 := ()) (l := []) tok trivial ?_ ?_
  · exact Sub.nil ⟨rfl, rfl, (by simp [pC, castL]), rfl, (by simp [tupA, hpLt, tmLt, AV.lt, AE.lt, AC.lt, LL_cons, LL_nil, idOk, ABlk.lt, ints_LL, GB, pC, castL]), (by simp [tupA, hpLt, tmLt, AV.lt, AE.lt, AC.lt, LL_cons, LL_nil, idOk, ABlk.lt, ints_LL, GB, pC, castL])⟩ (by (repeat (first | exact trivial | refine ⟨trivial, ?_⟩ | refine ⟨rfl, ?_⟩))) (by (repeat (first | exact trivial | refine ⟨trivial, ?_⟩ | refine ⟨rfl, ?_⟩)))
  · intro _ _
    refine Wk.on ?_
    obtain ⟨pa, rfl⟩ : ∃ pa, pa = s := ⟨_, rfl⟩
    obtain ⟨pe, rfl⟩ : ∃ pe, pe = e := ⟨_, rfl⟩
    have hpp : redP [] (pa, pe) = (pa, pe) := rfl
    rw [hpp] at hz ⊢
    dsimp only at hz
    refine Wk.on ?_
    rw [decide_eq_false (show ¬ ((pe : Nat) : Int) = 0 by omega)]
    refine Wk.on ?_
    refine CallA.ro2 [3] (.c (.int .i64 (-1))) (index_nil pa pe) ?_
    refine Wk.on ?_
    refine CallA.det2 [4] (.c (.row 5 1)) ([(3, .own (pC (pa, pe))), (0, .own [.nils]), (1, .own [.row 2 Q.length]), (2, .row 3 1 (ints (castL Q))), (5, .row 93 2 (ints (prs [(pa, pe)])))]) (insert_nil (pa, pe)) ?_
    refine Wk.on ?_
    exact AH.Fin.new [5] _ _ ⟨rfl, rfl, rfl⟩ rfl ⟨rfl, rfl, by show some (ABlk.row 3 1 _) = some (ABlk.row 3 1 ((ints _).map _)); rw [ints_ren], by show some (ABlk.row 93 2 _) = some (ABlk.row 93 2 ((ints _).map _)); rw [ints_ren]; rfl, trivial⟩ rfl (by simp [tupA, hpLt, tmLt, AV.lt, AE.lt, AC.lt, LL_cons, LL_nil, idOk, ABlk.lt, ints_LL, GB, pC, castL]) (by simp [tupA, hpLt, tmLt, AV.lt, AE.lt, AC.lt, LL_cons, LL_nil, idOk, ABlk.lt, ints_LL, GB, pC, castL])
theorem add_nn_q (s e : Nat) (hs : s < 65536) (he : e < 65536) (hz : (redP [] (s, e)).2 = 0) : FDet Tryd.prog 67 [.g [.int .i64 s, .int .i64 e], .c (.ptr 0 0), .c (.ptr 1 0)] [(0, .own [.nils]), (1, .own [.nils])] 2 (.t []) [(0, .own [.nils]), (1, .own [.row 2 (1)]), (2, .row 3 1 (ints (castL ([] ++ [(redP [] (s, e)).1]))))] 3 := by
  refine FSpec.body2 tok true Tryd.func67 ?_
  refine Wk.on ?_
  refine Tr.loop (md := true) (X := Unit) (st := fun _ => ⟨[(1, .c (.ptr 0 0)), (2, .c (.ptr 1 0)), (3, .c (.ptr 2 0)), (7, .c (.nils)), (8, .c (.int .i64 0)), (9, .c (.int .i64 0))], [(2, .own (pC (s, e))), (0, .own [.nils]), (1, .own [.nils])], 3, 53, 2⟩) (inv := fun _ => True) (μ := fun _ => 0) (x0 := ()) (l := []) tok trivial ?_ ?_
  · exact Sub.nil ⟨rfl, rfl, (by simp [pC, castL]), rfl, (by simp [tupA, hpLt, tmLt, AV.lt, AE.lt, AC.lt, LL_cons, LL_nil, idOk, ABlk.lt, ints_LL, GB, pC, castL]), (by simp [tupA, hpLt, tmLt, AV.lt, AE.lt, AC.lt, LL_cons, LL_nil, idOk, ABlk.lt, ints_LL, GB, pC, castL])⟩ (by (repeat (first | exact trivial | refine ⟨trivial, ?_⟩ | refine ⟨rfl, ?_⟩))) (by (repeat (first | exact trivial | refine ⟨trivial, ?_⟩ | refine ⟨rfl, ?_⟩)))
  · intro _ _
    refine Wk.on ?_
    obtain ⟨pa, rfl⟩ : ∃ pa, pa = s := ⟨_, rfl⟩
    obtain ⟨pe, rfl⟩ : ∃ pe, pe = e := ⟨_, rfl⟩
    have hpp : redP [] (pa, pe) = (pa, pe) := rfl
    rw [hpp] at hz ⊢
    dsimp only at hz
    refine Wk.on ?_
    rw [decide_eq_true (show ((pe : Nat) : Int) = 0 by omega)]
    refine Wk.on ?_
    exact AH.Fin.new [4] _ _ ⟨rfl, rfl, rfl⟩ rfl ⟨rfl, rfl, rfl, trivial⟩ rfl (by simp [tupA, hpLt, tmLt, AV.lt, AE.lt, AC.lt, LL_cons, LL_nil, idOk, ABlk.lt, ints_LL, GB, pC, castL]) (by simp [tupA, hpLt, tmLt, AV.lt, AE.lt, AC.lt, LL_cons, LL_nil, idOk, ABlk.lt, ints_LL, GB, pC, castL])
theorem add_nn_b (s e : Nat) (hs : s < 65536) (he : e < 65536) (hz : ¬ (redP [] (s, e)).2 = 0) : FDet Tryd.prog 67 [.g [.int .i64 s, .int .i64 e], .c (.ptr 0 0), .c (.ptr 1 0)] [(0, .own [.nils]), (1, .own [.nils])] 2 (.t []) [(0, .own [.row 2 (1)]), (1, .own [.nils]), (2, .row 93 2 (ints (prs (insP (redP [] (s, e)) []))))] 3 := by
  refine FSpec.body2 tok true Tryd.func67 ?_
  refine Wk.on ?_
  refine Tr.loop (md := true) (X := Unit) (st := fun _ => ⟨[(1, .c (.ptr 0 0)), (2, .c (.ptr 1 0)), (3, .c (.ptr 2 0)), (7, .c (.nils)), (8, .c (.int .i64 0)), (9, .c (.int .i64 0))], [(2, .own (pC (s, e))), (0, .own [.nils]), (1, .own [.nils])], 3, 53, 2⟩) (inv := fun _ => True) (μ := fun _ => 0) (x0 := ()) (l := []) tok trivial ?_ ?_
  · exact Sub.nil ⟨rfl, rfl, (by simp [pC, castL]), rfl, (by simp [tupA, hpLt, tmLt, AV.lt, AE.lt, AC.lt, LL_cons, LL_nil, idOk, ABlk.lt, ints_LL, GB, pC, castL]), (by simp [tupA, hpLt, tmLt, AV.lt, AE.lt, AC.lt, LL_cons, LL_nil, idOk, ABlk.lt, ints_LL, GB, pC, castL])⟩ (by (repeat (first | exact trivial | refine ⟨trivial, ?_⟩ | refine ⟨rfl, ?_⟩))) (by (repeat (first | exact trivial | refine ⟨trivial, ?_⟩ | refine ⟨rfl, ?_⟩)))
  · intro _ _
    refine Wk.on ?_
    obtain ⟨pa, rfl⟩ : ∃ pa, pa = s := ⟨_, rfl⟩
    obtain ⟨pe, rfl⟩ : ∃ pe, pe = e := ⟨_, rfl⟩
    have hpp : redP [] (pa, pe) = (pa, pe) := rfl
    rw [hpp] at hz ⊢
    dsimp only at hz
    refine Wk.on ?_
    rw [decide_eq_false (show ¬ ((pe : Nat) : Int) = 0 by omega)]
    refine Wk.on ?_
    refine CallA.ro2 [2] (.c (.int .i64 (-1))) (index_nil pa pe) ?_
    refine Wk.on ?_
    refine CallA.det2 [3] (.c (.row 4 1)) ([(2, .own (pC (pa, pe))), (0, .own [.nils]), (1, .own [.nils]), (4, .row 93 2 (ints (prs [(pa, pe)])))]) (insert_nil (pa, pe)) ?_
    refine Wk.on ?_
    exact AH.Fin.new [4] _ _ ⟨rfl, rfl, rfl⟩ rfl ⟨rfl, rfl, by show some (ABlk.row 93 2 _) = some (ABlk.row 93 2 ((ints _).map _)); rw [ints_ren]; rfl, trivial⟩ rfl (by simp [tupA, hpLt, tmLt, AV.lt, AE.lt, AC.lt, LL_cons, LL_nil, idOk, ABlk.lt, ints_LL, GB, pC, castL]) (by simp [tupA, hpLt, tmLt, AV.lt, AE.lt, AC.lt, LL_cons, LL_nil, idOk, ABlk.lt, ints_LL, GB, pC, castL])
end Go.Proofs.YtimknijehaamlaaDoor

/-
  Contracts: the elimination.
-/
namespace Go.Proofs.YtimknijehaamlaaDoor
open Go Go.AH Go.Lin
set_option maxRecDepth 100000
set_option maxHeartbeats 1000000

/-- A graph's lamps. -/
def lC (n : Nat) (rows : List Nat) : List AC := .int .i64 n :: ints (castL rows)
theorem lC_ren (q : Nat → Nat) (n : Nat) (rows : List Nat) : (lC n rows).map (AC.ren q) = lC n rows := by
  rw [lC, List.map_cons, ints_ren]; rfl
instance (n : Nat) (rows : List Nat) : RenC (lC n rows) := ⟨fun q => lC_ren q n rows, fun m => by simp [lC, LL_cons, AC.lt, ints_LL]⟩
structure Lm (n : Nat) (rows : List Nat) : Prop where
  n16 : n ≤ 16
  len : rows.length = 16
  lt : ∀ r ∈ rows, r < 2 ^ n
theorem Lm.pow {n : Nat} {rows : List Nat} (h : Lm n rows) : 2 ^ n ≤ 65536 := Nat.pow_le_pow_right (by omega) h.n16
theorem castL_getD (L : List Nat) (i : Nat) : (castL L).getD i 0 = ((L.getD i 0 : Nat) : Int) := by
  rw [castL, List.getD_eq_getElem?_getD, List.getD_eq_getElem?_getD, List.getElem?_map]
  cases L[i]? <;> rfl
theorem lC_getD {n : Nat} {rows : List Nat} (i : Nat) : (lC n rows).getD (i + 1) (.int .i64 0) = .int .i64 ((rows.getD i 0 : Nat) : Int) := by
  rw [lC, List.getD_cons_succ, ints_getD, castL_getD]
theorem Lm.row {n : Nat} {rows : List Nat} (h : Lm n rows) (i : Nat) : rows.getD i 0 < 2 ^ n := by
  rw [List.getD_eq_getElem?_getD]
  cases e : rows[i]? with
  | none => exact Nat.two_pow_pos n
  | some r => exact h.lt r (List.mem_of_getElem? e)
theorem Lm.eff {n : Nat} {rows : List Nat} (h : Lm n rows) (x : Nat) : eff rows x < 2 ^ n := by
  have : ∀ (is : List Nat) (a : Nat), a < 2 ^ n → effX rows x is a < 2 ^ n := by
    intro is
    induction is with
    | nil => intro a h; exact h
    | cons i is ih =>
      intro a ha
      have := ih (if x.testBit i = true then a ^^^ rows.getD i 0 else a) (by
        split
        · exact Nat.xor_lt_two_pow ha (h.row i)
        · exact ha)
      simpa [effX] using this
  exact this _ 0 (Nat.two_pow_pos n)
theorem Lm.small {n i : Nat} {rows : List Nat} (h : Lm n rows) (hi : i ≤ n) : Small (reducedP rows i).1 ∧ (reducedP rows i).1.length ≤ 16 ∧ (reducedP rows i).2.length ≤ 16 ∧ ∀ q ∈ (reducedP rows i).2, q < 65536 := by
  have hI := inv_all rows i (by rw [h.len]; have := h.n16; omega)
  have hl := hI.len
  have hn := h.n16
  have hp := h.pow
  have hpi : 2 ^ i ≤ 2 ^ n := Nat.pow_le_pow_right (by omega) hi
  refine ⟨fun b hb => ?_, by omega, by omega, fun q hq => by have := (hI.q q hq).2.1; omega⟩
  obtain ⟨h1, h2⟩ := hI.b b hb
  have h3 := h.eff b.1
  rw [h1] at h3
  exact ⟨by omega, by omega⟩
theorem insP_cons (p : Nat × Nat) (B : List (Nat × Nat)) : ∃ b B', insP p B = b :: B' := by
  cases B with
  | nil => exact ⟨p, [], rfl⟩
  | cons b B =>
    rw [insP]
    split
    · exact ⟨p, b :: B, rfl⟩
    · exact ⟨b, insP p B, rfl⟩

def redSt (n : Nat) (rows : List Nat) : Nat × List (Nat × Nat) × List Nat → AS
  | (i, [], []) => ⟨[(0, .c (.ptr 0 0)), (2, .c (.ptr 1 0)), (3, .c (.ptr 2 0)), (4, .c (.fn 67 [] [1, 2])), (10, .c (.int .i64 n)), (11, .c (.int .i64 i))], [(0, .ro (lC n rows)), (1, .own [.nils]), (2, .own [.nils])], 5, 29, 1⟩
  | (i, b :: B, []) => ⟨[(0, .c (.ptr 0 0)), (2, .c (.ptr 1 0)), (3, .c (.ptr 2 0)), (4, .c (.fn 67 [] [1, 2])), (10, .c (.int .i64 n)), (11, .c (.int .i64 i))], [(0, .ro (lC n rows)), (1, .own [.row 3 (b :: B).length]), (2, .own [.nils]), (3, .row 93 2 (ints (prs (b :: B))))], 5, 29, 1⟩
  | (i, [], q :: Q) => ⟨[(0, .c (.ptr 0 0)), (2, .c (.ptr 1 0)), (3, .c (.ptr 2 0)), (4, .c (.fn 67 [] [1, 2])), (10, .c (.int .i64 n)), (11, .c (.int .i64 i))], [(0, .ro (lC n rows)), (1, .own [.nils]), (2, .own [.row 4 (q :: Q).length]), (4, .row 3 1 (ints (castL (q :: Q))))], 5, 29, 1⟩
  | (i, b :: B, q :: Q) => ⟨[(0, .c (.ptr 0 0)), (2, .c (.ptr 1 0)), (3, .c (.ptr 2 0)), (4, .c (.fn 67 [] [1, 2])), (10, .c (.int .i64 n)), (11, .c (.int .i64 i))], [(0, .ro (lC n rows)), (1, .own [.row 3 (b :: B).length]), (2, .own [.row 4 (q :: Q).length]), (3, .row 93 2 (ints (prs (b :: B)))), (4, .row 3 1 (ints (castL (q :: Q))))], 5, 29, 1⟩
def redV : List (Nat × Nat) → List Nat → AV
  | [], [] => .t [.c .nils, .c .nils]
  | b :: B, [] => .t [.c (.row 1 (b :: B).length), .c .nils]
  | [], q :: Q => .t [.c .nils, .c (.row 1 (q :: Q).length)]
  | b :: B, q :: Q => .t [.c (.row 1 (b :: B).length), .c (.row 2 (q :: Q).length)]
def redH : List (Nat × Nat) → List Nat → List (Nat × ABlk)
  | [], [] => []
  | b :: B, [] => [(1, .row 93 2 (ints (prs (b :: B))))]
  | [], q :: Q => [(1, .row 3 1 (ints (castL (q :: Q))))]
  | b :: B, q :: Q => [(1, .row 93 2 (ints (prs (b :: B)))), (2, .row 3 1 (ints (castL (q :: Q))))]
def redK : List (Nat × Nat) → List Nat → Nat
  | [], [] => 1
  | _ :: _, [] => 2
  | [], _ :: _ => 2
  | _ :: _, _ :: _ => 3
theorem reduced_spec {n : Nat} {rows : List Nat} (h : Lm n rows) : FDet Tryd.prog 51 [.c (.ptr 0 0)] [(0, .ro (lC n rows))] 1 (redV (reducedP rows n).1 (reducedP rows n).2) (redH (reducedP rows n).1 (reducedP rows n).2) (redK (reducedP rows n).1 (reducedP rows n).2) := by
  have hn := h.n16
  have hl17 : (lC n rows).length = 17 := by rw [lC, List.length_cons, ints_len, castL_len, h.len]
  refine FSpec.body2 tok true Tryd.func51 ?_
  refine Wk.on ?_
  refine Tr.loopU (md := true) (X := Nat × List (Nat × Nat) × List Nat) (redSt n rows) (fun q => q.1 ≤ n ∧ reducedP rows q.1 = q.2) (fun q => n - q.1) (0, [], []) tok ⟨by omega, rfl⟩ (Under.wk [] ⟨rfl, rfl, Nat.le_of_ble_eq_true rfl, Nat.le_of_ble_eq_true rfl⟩ rfl (by repeat (first | exact trivial | refine ⟨?_, ?_⟩ | exact Or.inl rfl | exact Or.inl (congrArg ABlk.ro (lC_ren _ _ _).symm))) (by repeat (first | exact trivial | refine ⟨?_, ?_⟩ | exact Or.inl rfl | exact Or.inl (congrArg ABlk.ro (lC_ren _ _ _).symm))) rfl (by simp [tupA, hpLt, tmLt, AV.lt, AE.lt, AC.lt, LL_cons, LL_nil, idOk, ABlk.lt, ints_LL, GB, pC, castL, lC, redSt, redV, redH, redK]) (by simp [tupA, hpLt, tmLt, AV.lt, AE.lt, AC.lt, LL_cons, LL_nil, idOk, ABlk.lt, ints_LL, GB, pC, castL, lC, redSt, redV, redH, redK])) ?_
  · rintro ⟨i, B, Q⟩ ⟨hi, hred⟩
    dsimp only at hi hred
    obtain ⟨hS, hB, hQ, hQs⟩ := h.small hi
    have hsu := reducedP_succ rows i
    rw [hred] at hS hB hQ hQs hsu
    dsimp only at hS hB hQ hQs
    by_cases hil : i < n
    · obtain ⟨q, hq⟩ : ∃ q, q = 2 ^ i := ⟨_, rfl⟩
      have hq2 : q < 65536 := by rw [hq]; exact Nat.pow_lt_pow_right (n := 16) (by omega) (by omega)
      obtain ⟨e, he⟩ : ∃ e, e = rows.getD i 0 := ⟨_, rfl⟩
      have he2 : e < 65536 := by have := h.row i; have := h.pow; omega
      have hsh : (1 : Int) * 2 ^ (Int.toNat (i : Int)) = (q : Int) := by simp [hq]
      have hwi : IntKind.u64.wrap (i : Int) = i := wrapU (by omega)
      have hget : (lC n rows).getD (i + 1) (.int .i64 0) = .int .i64 (e : Int) := by rw [he]; exact lC_getD i
      rw [addP, ← hq, ← he] at hsu
      dsimp only at hsu
      rcases B with _ | ⟨b0, B0⟩ <;> rcases Q with _ | ⟨q0, Q0⟩
      · refine Wk.on ?_
        rw [decide_eq_true (show ((i : Nat) : Int) < ((n : Nat) : Int) by omega)]
        refine Wk.on ?_
        rw [hwi]
        refine Wk.on ?_
        rw [hsh, show 0 + 1 + Int.toNat ((i : Nat) : Int) * 1 = i + 1 by rw [Int.toNat_natCast]; omega, hget]
        by_cases hz : (redP [] (q, e)).2 = 0
        · rw [if_pos hz] at hsu
          refine CallA.det2 [1, 2] (.t []) ([(0, .ro (lC n rows)), (5, .row 3 1 (ints (castL ([] ++ [(redP [] (q, e)).1])))), (2, .own [.row 5 (1)]), (1, .own [.nils])]) (add_nn_q q e hq2 he2 hz) ?_
          refine Wk.on ?_
          refine Again.mk (i + 1, [], [(redP [] (q, e)).1]) (Sub.new [(4, 5)] ⟨rfl, rfl, Nat.le_of_ble_eq_true rfl, Nat.le_of_ble_eq_true rfl⟩ rfl (by (repeat (first | exact trivial | refine ⟨trivial, ?_⟩ | refine ⟨rfl, ?_⟩))) ⟨by show some (ABlk.ro (lC n rows)) = some (ABlk.ro ((lC n rows).map _)); rw [lC_ren], rfl, rfl, by show some (ABlk.row 3 1 _) = some (ABlk.row 3 1 ((ints _).map _)); rw [ints_ren]; rfl, trivial⟩ rfl (by simp [tupA, hpLt, tmLt, AV.lt, AE.lt, AC.lt, LL_cons, LL_nil, idOk, ABlk.lt, ints_LL, GB, pC, castL, lC, redSt, redV, redH, redK]) (by simp [tupA, hpLt, tmLt, AV.lt, AE.lt, AC.lt, LL_cons, LL_nil, idOk, ABlk.lt, ints_LL, GB, pC, castL, lC, redSt, redV, redH, redK])) ⟨by omega, hsu⟩ (by show n - (i + 1) < n - i; omega)
        · rw [if_neg hz] at hsu
          obtain ⟨b2, B2, hB2⟩ := insP_cons (redP [] (q, e)) []
          refine CallA.det2 [1, 2] (.t []) ([(0, .ro (lC n rows)), (5, .row 93 2 (ints (prs (insP (redP [] (q, e)) [])))), (2, .own [.nils]), (1, .own [.row 5 (1)])]) (add_nn_b q e hq2 he2 hz) ?_
          refine Wk.on ?_
          refine Again.mk (i + 1, b2 :: B2, []) (Sub.new [(3, 5)] ⟨rfl, rfl, Nat.le_of_ble_eq_true rfl, Nat.le_of_ble_eq_true rfl⟩ rfl (by (repeat (first | exact trivial | refine ⟨trivial, ?_⟩ | refine ⟨rfl, ?_⟩))) ⟨by show some (ABlk.ro (lC n rows)) = some (ABlk.ro ((lC n rows).map _)); rw [lC_ren], by show some (ABlk.own [AC.row 5 _]) = some (ABlk.own [AC.row 5 (b2 :: B2).length]); rw [← hB2, (insP_perm _ _).length_eq]; rfl, rfl, by show some (ABlk.row 93 2 _) = some (ABlk.row 93 2 ((ints _).map _)); rw [ints_ren, hB2], trivial⟩ rfl (by simp [tupA, hpLt, tmLt, AV.lt, AE.lt, AC.lt, LL_cons, LL_nil, idOk, ABlk.lt, ints_LL, GB, pC, castL, lC, redSt, redV, redH, redK]) (by simp [tupA, hpLt, tmLt, AV.lt, AE.lt, AC.lt, LL_cons, LL_nil, idOk, ABlk.lt, ints_LL, GB, pC, castL, lC, redSt, redV, redH, redK])) ⟨by omega, by rw [hsu, hB2]⟩ (by show n - (i + 1) < n - i; omega)
      · refine Wk.on ?_
        rw [decide_eq_true (show ((i : Nat) : Int) < ((n : Nat) : Int) by omega)]
        refine Wk.on ?_
        rw [hwi]
        refine Wk.on ?_
        rw [hsh, show 0 + 1 + Int.toNat ((i : Nat) : Int) * 1 = i + 1 by rw [Int.toNat_natCast]; omega, hget]
        by_cases hz : (redP [] (q, e)).2 = 0
        · rw [if_pos hz] at hsu
          refine CallA.det2 [1, 2, 4] (.t []) ([(0, .ro (lC n rows)), (5, .row 3 1 (ints (castL ((q0 :: Q0) ++ [(redP [] (q, e)).1])))), (2, .own [.row 5 ((q0 :: Q0).length + 1)]), (1, .own [.nils])]) (add_nr_q (q0 :: Q0) (by omega) q e hq2 he2 hz) ?_
          refine Wk.on ?_
          refine Again.mk (i + 1, [], q0 :: (Q0 ++ [(redP [] (q, e)).1])) (Sub.new [(4, 5)] ⟨rfl, rfl, Nat.le_of_ble_eq_true rfl, Nat.le_of_ble_eq_true rfl⟩ rfl (by (repeat (first | exact trivial | refine ⟨trivial, ?_⟩ | refine ⟨rfl, ?_⟩))) ⟨by show some (ABlk.ro (lC n rows)) = some (ABlk.ro ((lC n rows).map _)); rw [lC_ren], rfl, by show some (ABlk.own [AC.row 5 _]) = some (ABlk.own [AC.row 5 _]); simp, by show some (ABlk.row 3 1 _) = some (ABlk.row 3 1 ((ints _).map _)); rw [ints_ren]; rfl, trivial⟩ rfl (by simp [tupA, hpLt, tmLt, AV.lt, AE.lt, AC.lt, LL_cons, LL_nil, idOk, ABlk.lt, ints_LL, GB, pC, castL, lC, redSt, redV, redH, redK]) (by simp [tupA, hpLt, tmLt, AV.lt, AE.lt, AC.lt, LL_cons, LL_nil, idOk, ABlk.lt, ints_LL, GB, pC, castL, lC, redSt, redV, redH, redK])) ⟨by omega, hsu⟩ (by show n - (i + 1) < n - i; omega)
        · rw [if_neg hz] at hsu
          obtain ⟨b2, B2, hB2⟩ := insP_cons (redP [] (q, e)) []
          refine CallA.det2 [1, 2, 4] (.t []) ([(0, .ro (lC n rows)), (5, .row 93 2 (ints (prs (insP (redP [] (q, e)) [])))), (4, .row 3 1 (ints (castL (q0 :: Q0)))), (2, .own [.row 4 (q0 :: Q0).length]), (1, .own [.row 5 (1)])]) (add_nr_b (q0 :: Q0) (by omega) q e hq2 he2 hz) ?_
          refine Wk.on ?_
          refine Again.mk (i + 1, b2 :: B2, (q0 :: Q0)) (Sub.new [(3, 5)] ⟨rfl, rfl, Nat.le_of_ble_eq_true rfl, Nat.le_of_ble_eq_true rfl⟩ rfl (by (repeat (first | exact trivial | refine ⟨trivial, ?_⟩ | refine ⟨rfl, ?_⟩))) ⟨by show some (ABlk.ro (lC n rows)) = some (ABlk.ro ((lC n rows).map _)); rw [lC_ren], by show some (ABlk.own [AC.row 5 _]) = some (ABlk.own [AC.row 5 (b2 :: B2).length]); rw [← hB2, (insP_perm _ _).length_eq]; rfl, rfl, by show some (ABlk.row 93 2 _) = some (ABlk.row 93 2 ((ints _).map _)); rw [ints_ren, hB2], by show some (ABlk.row 3 1 _) = some (ABlk.row 3 1 ((ints _).map _)); rw [ints_ren], trivial⟩ rfl (by simp [tupA, hpLt, tmLt, AV.lt, AE.lt, AC.lt, LL_cons, LL_nil, idOk, ABlk.lt, ints_LL, GB, pC, castL, lC, redSt, redV, redH, redK]) (by simp [tupA, hpLt, tmLt, AV.lt, AE.lt, AC.lt, LL_cons, LL_nil, idOk, ABlk.lt, ints_LL, GB, pC, castL, lC, redSt, redV, redH, redK])) ⟨by omega, by rw [hsu, hB2]⟩ (by show n - (i + 1) < n - i; omega)
      · refine Wk.on ?_
        rw [decide_eq_true (show ((i : Nat) : Int) < ((n : Nat) : Int) by omega)]
        refine Wk.on ?_
        rw [hwi]
        refine Wk.on ?_
        rw [hsh, show 0 + 1 + Int.toNat ((i : Nat) : Int) * 1 = i + 1 by rw [Int.toNat_natCast]; omega, hget]
        by_cases hz : (redP (b0 :: B0) (q, e)).2 = 0
        · rw [if_pos hz] at hsu
          refine CallA.det2 [1, 2, 3] (.t []) ([(0, .ro (lC n rows)), (5, .row 3 1 (ints (castL ([] ++ [(redP (b0 :: B0) (q, e)).1])))), (3, .row 93 2 (ints (prs (b0 :: B0)))), (2, .own [.row 5 (1)]), (1, .own [.row 3 (b0 :: B0).length])]) (add_rn_q (b0 :: B0) (by omega) hS q e hq2 he2 hz) ?_
          refine Wk.on ?_
          refine Again.mk (i + 1, (b0 :: B0), [(redP (b0 :: B0) (q, e)).1]) (Sub.new [(4, 5)] ⟨rfl, rfl, Nat.le_of_ble_eq_true rfl, Nat.le_of_ble_eq_true rfl⟩ rfl (by (repeat (first | exact trivial | refine ⟨trivial, ?_⟩ | refine ⟨rfl, ?_⟩))) ⟨by show some (ABlk.ro (lC n rows)) = some (ABlk.ro ((lC n rows).map _)); rw [lC_ren], rfl, rfl, by show some (ABlk.row 93 2 _) = some (ABlk.row 93 2 ((ints _).map _)); rw [ints_ren], by show some (ABlk.row 3 1 _) = some (ABlk.row 3 1 ((ints _).map _)); rw [ints_ren]; rfl, trivial⟩ rfl (by simp [tupA, hpLt, tmLt, AV.lt, AE.lt, AC.lt, LL_cons, LL_nil, idOk, ABlk.lt, ints_LL, GB, pC, castL, lC, redSt, redV, redH, redK]) (by simp [tupA, hpLt, tmLt, AV.lt, AE.lt, AC.lt, LL_cons, LL_nil, idOk, ABlk.lt, ints_LL, GB, pC, castL, lC, redSt, redV, redH, redK])) ⟨by omega, hsu⟩ (by show n - (i + 1) < n - i; omega)
        · rw [if_neg hz] at hsu
          obtain ⟨b2, B2, hB2⟩ := insP_cons (redP (b0 :: B0) (q, e)) (b0 :: B0)
          refine CallA.det2 [1, 2, 3] (.t []) ([(0, .ro (lC n rows)), (5, .row 93 2 (ints (prs (insP (redP (b0 :: B0) (q, e)) (b0 :: B0))))), (2, .own [.nils]), (1, .own [.row 5 ((b0 :: B0).length + 1)])]) (add_rn_b (b0 :: B0) (by omega) hS q e hq2 he2 hz) ?_
          refine Wk.on ?_
          refine Again.mk (i + 1, b2 :: B2, []) (Sub.new [(3, 5)] ⟨rfl, rfl, Nat.le_of_ble_eq_true rfl, Nat.le_of_ble_eq_true rfl⟩ rfl (by (repeat (first | exact trivial | refine ⟨trivial, ?_⟩ | refine ⟨rfl, ?_⟩))) ⟨by show some (ABlk.ro (lC n rows)) = some (ABlk.ro ((lC n rows).map _)); rw [lC_ren], by show some (ABlk.own [AC.row 5 _]) = some (ABlk.own [AC.row 5 (b2 :: B2).length]); rw [← hB2, (insP_perm _ _).length_eq]; rfl, rfl, by show some (ABlk.row 93 2 _) = some (ABlk.row 93 2 ((ints _).map _)); rw [ints_ren, hB2], trivial⟩ rfl (by simp [tupA, hpLt, tmLt, AV.lt, AE.lt, AC.lt, LL_cons, LL_nil, idOk, ABlk.lt, ints_LL, GB, pC, castL, lC, redSt, redV, redH, redK]) (by simp [tupA, hpLt, tmLt, AV.lt, AE.lt, AC.lt, LL_cons, LL_nil, idOk, ABlk.lt, ints_LL, GB, pC, castL, lC, redSt, redV, redH, redK])) ⟨by omega, by rw [hsu, hB2]⟩ (by show n - (i + 1) < n - i; omega)
      · refine Wk.on ?_
        rw [decide_eq_true (show ((i : Nat) : Int) < ((n : Nat) : Int) by omega)]
        refine Wk.on ?_
        rw [hwi]
        refine Wk.on ?_
        rw [hsh, show 0 + 1 + Int.toNat ((i : Nat) : Int) * 1 = i + 1 by rw [Int.toNat_natCast]; omega, hget]
        by_cases hz : (redP (b0 :: B0) (q, e)).2 = 0
        · rw [if_pos hz] at hsu
          refine CallA.det2 [1, 2, 3, 4] (.t []) ([(0, .ro (lC n rows)), (5, .row 3 1 (ints (castL ((q0 :: Q0) ++ [(redP (b0 :: B0) (q, e)).1])))), (3, .row 93 2 (ints (prs (b0 :: B0)))), (2, .own [.row 5 ((q0 :: Q0).length + 1)]), (1, .own [.row 3 (b0 :: B0).length])]) (add_rr_q (q0 :: Q0) (by omega) (b0 :: B0) (by omega) hS q e hq2 he2 hz) ?_
          refine Wk.on ?_
          refine Again.mk (i + 1, (b0 :: B0), q0 :: (Q0 ++ [(redP (b0 :: B0) (q, e)).1])) (Sub.new [(4, 5)] ⟨rfl, rfl, Nat.le_of_ble_eq_true rfl, Nat.le_of_ble_eq_true rfl⟩ rfl (by (repeat (first | exact trivial | refine ⟨trivial, ?_⟩ | refine ⟨rfl, ?_⟩))) ⟨by show some (ABlk.ro (lC n rows)) = some (ABlk.ro ((lC n rows).map _)); rw [lC_ren], rfl, by show some (ABlk.own [AC.row 5 _]) = some (ABlk.own [AC.row 5 _]); simp, by show some (ABlk.row 93 2 _) = some (ABlk.row 93 2 ((ints _).map _)); rw [ints_ren], by show some (ABlk.row 3 1 _) = some (ABlk.row 3 1 ((ints _).map _)); rw [ints_ren]; rfl, trivial⟩ rfl (by simp [tupA, hpLt, tmLt, AV.lt, AE.lt, AC.lt, LL_cons, LL_nil, idOk, ABlk.lt, ints_LL, GB, pC, castL, lC, redSt, redV, redH, redK]) (by simp [tupA, hpLt, tmLt, AV.lt, AE.lt, AC.lt, LL_cons, LL_nil, idOk, ABlk.lt, ints_LL, GB, pC, castL, lC, redSt, redV, redH, redK])) ⟨by omega, hsu⟩ (by show n - (i + 1) < n - i; omega)
        · rw [if_neg hz] at hsu
          obtain ⟨b2, B2, hB2⟩ := insP_cons (redP (b0 :: B0) (q, e)) (b0 :: B0)
          refine CallA.det2 [1, 2, 3, 4] (.t []) ([(0, .ro (lC n rows)), (5, .row 93 2 (ints (prs (insP (redP (b0 :: B0) (q, e)) (b0 :: B0))))), (4, .row 3 1 (ints (castL (q0 :: Q0)))), (2, .own [.row 4 (q0 :: Q0).length]), (1, .own [.row 5 ((b0 :: B0).length + 1)])]) (add_rr_b (q0 :: Q0) (by omega) (b0 :: B0) (by omega) hS q e hq2 he2 hz) ?_
          refine Wk.on ?_
          refine Again.mk (i + 1, b2 :: B2, (q0 :: Q0)) (Sub.new [(3, 5)] ⟨rfl, rfl, Nat.le_of_ble_eq_true rfl, Nat.le_of_ble_eq_true rfl⟩ rfl (by (repeat (first | exact trivial | refine ⟨trivial, ?_⟩ | refine ⟨rfl, ?_⟩))) ⟨by show some (ABlk.ro (lC n rows)) = some (ABlk.ro ((lC n rows).map _)); rw [lC_ren], by show some (ABlk.own [AC.row 5 _]) = some (ABlk.own [AC.row 5 (b2 :: B2).length]); rw [← hB2, (insP_perm _ _).length_eq]; rfl, rfl, by show some (ABlk.row 93 2 _) = some (ABlk.row 93 2 ((ints _).map _)); rw [ints_ren, hB2], by show some (ABlk.row 3 1 _) = some (ABlk.row 3 1 ((ints _).map _)); rw [ints_ren], trivial⟩ rfl (by simp [tupA, hpLt, tmLt, AV.lt, AE.lt, AC.lt, LL_cons, LL_nil, idOk, ABlk.lt, ints_LL, GB, pC, castL, lC, redSt, redV, redH, redK]) (by simp [tupA, hpLt, tmLt, AV.lt, AE.lt, AC.lt, LL_cons, LL_nil, idOk, ABlk.lt, ints_LL, GB, pC, castL, lC, redSt, redV, redH, redK])) ⟨by omega, by rw [hsu, hB2]⟩ (by show n - (i + 1) < n - i; omega)
    · have hin : i = n := by omega
      subst hin
      rw [hred]
      dsimp only
      rcases B with _ | ⟨b0, B0⟩ <;> rcases Q with _ | ⟨q0, Q0⟩
      · refine Wk.on ?_
        rw [decide_eq_false (show ¬ ((i : Nat) : Int) < ((i : Nat) : Int) by omega)]
        refine Wk.on ?_
        intro _
        refine Wk.on ?_
        refine Tr.draw (md := true) [⟨[], [28], [], [], []⟩, ⟨[], [27], [0], [], [1]⟩, ⟨[0], [28], [1], [1], []⟩] tok (by kernel_rfl) (by kernel_rfl) ?_
        refine Wk.on ?_
        exact AH.Fin.new [] _ _ ⟨rfl, rfl, rfl⟩ rfl trivial rfl (by simp [tupA, hpLt, tmLt, AV.lt, AE.lt, AC.lt, LL_cons, LL_nil, idOk, ABlk.lt, ints_LL, GB, pC, castL, lC, redSt, redV, redH, redK]) (by simp [tupA, hpLt, tmLt, AV.lt, AE.lt, AC.lt, LL_cons, LL_nil, idOk, ABlk.lt, ints_LL, GB, pC, castL, lC, redSt, redV, redH, redK])
      · refine Wk.on ?_
        rw [decide_eq_false (show ¬ ((i : Nat) : Int) < ((i : Nat) : Int) by omega)]
        refine Wk.on ?_
        intro _
        refine Wk.on ?_
        refine Tr.draw (md := true) [⟨[], [28], [], [], []⟩, ⟨[], [27], [0], [], [1]⟩, ⟨[0], [28], [1], [1], []⟩] tok (by kernel_rfl) (by kernel_rfl) ?_
        refine Wk.on ?_
        exact AH.Fin.new [4] _ _ ⟨rfl, rfl, rfl⟩ rfl ⟨by show some (ABlk.row 3 1 _) = some (ABlk.row 3 1 ((ints _).map _)); rw [ints_ren], trivial⟩ rfl (by simp [tupA, hpLt, tmLt, AV.lt, AE.lt, AC.lt, LL_cons, LL_nil, idOk, ABlk.lt, ints_LL, GB, pC, castL, lC, redSt, redV, redH, redK]) (by simp [tupA, hpLt, tmLt, AV.lt, AE.lt, AC.lt, LL_cons, LL_nil, idOk, ABlk.lt, ints_LL, GB, pC, castL, lC, redSt, redV, redH, redK])
      · refine Wk.on ?_
        rw [decide_eq_false (show ¬ ((i : Nat) : Int) < ((i : Nat) : Int) by omega)]
        refine Wk.on ?_
        intro _
        refine Wk.on ?_
        refine Tr.draw (md := true) [⟨[], [28], [], [], []⟩, ⟨[], [27], [0], [], [1]⟩, ⟨[0], [28], [1], [1], []⟩] tok (by kernel_rfl) (by kernel_rfl) ?_
        refine Wk.on ?_
        exact AH.Fin.new [3] _ _ ⟨rfl, rfl, rfl⟩ rfl ⟨by show some (ABlk.row 93 2 _) = some (ABlk.row 93 2 ((ints _).map _)); rw [ints_ren], trivial⟩ rfl (by simp [tupA, hpLt, tmLt, AV.lt, AE.lt, AC.lt, LL_cons, LL_nil, idOk, ABlk.lt, ints_LL, GB, pC, castL, lC, redSt, redV, redH, redK]) (by simp [tupA, hpLt, tmLt, AV.lt, AE.lt, AC.lt, LL_cons, LL_nil, idOk, ABlk.lt, ints_LL, GB, pC, castL, lC, redSt, redV, redH, redK])
      · refine Wk.on ?_
        rw [decide_eq_false (show ¬ ((i : Nat) : Int) < ((i : Nat) : Int) by omega)]
        refine Wk.on ?_
        intro _
        refine Wk.on ?_
        refine Tr.draw (md := true) [⟨[], [28], [], [], []⟩, ⟨[], [27], [0], [], [1]⟩, ⟨[0], [28], [1], [1], []⟩] tok (by kernel_rfl) (by kernel_rfl) ?_
        refine Wk.on ?_
        exact AH.Fin.new [3, 4] _ _ ⟨rfl, rfl, rfl⟩ rfl ⟨by show some (ABlk.row 93 2 _) = some (ABlk.row 93 2 ((ints _).map _)); rw [ints_ren], by show some (ABlk.row 3 1 _) = some (ABlk.row 3 1 ((ints _).map _)); rw [ints_ren], trivial⟩ rfl (by simp [tupA, hpLt, tmLt, AV.lt, AE.lt, AC.lt, LL_cons, LL_nil, idOk, ABlk.lt, ints_LL, GB, pC, castL, lC, redSt, redV, redH, redK]) (by simp [tupA, hpLt, tmLt, AV.lt, AE.lt, AC.lt, LL_cons, LL_nil, idOk, ABlk.lt, ints_LL, GB, pC, castL, lC, redSt, redV, redH, redK])
end Go.Proofs.YtimknijehaamlaaDoor
