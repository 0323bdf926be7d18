/-
  Contracts: sorting of at most twelve numbers.
-/
import Derived.Test.YtimknijehaamlaaDoorSw1
set_option linter.unusedSimpArgs false
set_option linter.unusedVariables false
namespace Go.Proofs.YtimknijehaamlaaDoor
open Go Go.AH Go.Lin
set_option maxRecDepth 100000
set_option maxHeartbeats 1000000

theorem isNaN_spec (x : Int) : FDet Tryd.prog 92 [.c (.int .i64 x)] [] 0 (.c (.bool false)) [] 0 := by
  refine FSpec.body2 tok true Tryd.func92 ?_
  refine Wk.on ?_
  exact AH.Fin.nil2 ⟨by show AV.c (.bool (decide (x ≠ x))) = _; simp, rfl, rfl⟩
theorem Less_spec (x y : Int) : FDet Tryd.prog 108 [.c (.int .i64 x), .c (.int .i64 y)] [] 0 (.c (.bool (asc x y))) [] 0 := by
  refine FSpec.body2 tok true Tryd.func108 ?_
  refine Wk.on ?_
  refine CallA.ro2 [] (.c (.bool false)) (isNaN_spec x) ?_
  refine Wk.on ?_
  by_cases h : x < y
  · rw [decide_eq_true h]
    refine Wk.on ?_
    exact AH.Fin.nil2 ⟨by rw [asc, decide_eq_true h]; rfl, rfl, rfl⟩
  · rw [decide_eq_false h]
    refine Wk.on ?_
    exact AH.Fin.nil2 ⟨by rw [asc, decide_eq_false h]; rfl, rfl, rfl⟩
theorem tidied1_spec (x y : Nat) (hx : x < 65536) (hy : y < 65536) : FDet Tryd.prog 73 [.c (.int .i64 x), .c (.int .i64 y)] [] 0 (.c (.int .i64 (y - x))) [] 0 := by
  refine FSpec.body2 tok true Tryd.func73 ?_
  refine Wk.on ?_
  exact AH.Fin.nil2 ⟨rfl, rfl, rfl⟩
/-- What the list is when its first i elements are in order. -/
def iS (lt : Int → Int → Bool) (L : List Int) (i : Nat) : List Int := (isortR lt (L.take i)).reverse ++ L.drop i
theorem iS_full (lt : Int → Int → Bool) (L : List Int) {i : Nat} (h : L.length ≤ i) : iS lt L i = isort lt L := by
  rw [iS, List.take_of_length_le h, List.drop_of_length_le h, List.append_nil, isort]
theorem iS_succ (lt : Int → Int → Bool) (L : List Int) {i : Nat} (h : i < L.length) : iS lt L (i + 1) = (insR lt L[i] (isortR lt (L.take i))).reverse ++ L.drop (i + 1) := by
  rw [iS, List.take_add_one, List.getElem?_eq_getElem h]
  simp only [isortR, Option.toList_some, List.foldl_append, List.foldl_cons, List.foldl_nil]
theorem iS_one (lt : Int → Int → Bool) (L : List Int) : iS lt L 1 = L := by
  cases L with
  | nil => rfl
  | cons x L => simp [iS, isortR, insR]
theorem iS_at (lt : Int → Int → Bool) (L : List Int) {i : Nat} (h : i < L.length) : iS lt L i = (isortR lt (L.take i)).reverse ++ L[i] :: ([] ++ L.drop (i + 1)) := by
  rw [iS, List.nil_append, List.drop_eq_getElem_cons h]
theorem isortR_len (lt : Int → Int → Bool) (L : List Int) : (isortR lt L).length = L.length := (isortR_perm lt L).length_eq
theorem swap_eq (A : List Int) (y x : Int) (B : List Int) : ((A ++ [y] ++ x :: B).set (A.length + 1) y).set A.length x = A ++ x :: (y :: B) := by
  rw [List.append_assoc, List.singleton_append, List.set_append_right _ _ (by omega), show A.length + 1 - A.length = 1 by omega, List.set_cons_succ, List.set_cons_zero, List.set_append_right _ _ (by omega), Nat.sub_self, List.set_cons_zero]
theorem get_x (A : List Int) (y x : Int) (B : List Int) : (A ++ [y] ++ x :: B).getD (A.length + 1) 0 = x ∧ (A ++ [y] ++ x :: B).getD A.length 0 = y := by
  constructor
  · rw [List.getD_eq_getElem?_getD, List.getElem?_append_right (by simp)]; simp
  · rw [List.getD_eq_getElem?_getD, List.append_assoc, List.getElem?_append_right (by simp)]; simp

theorem insort_spec (L : List Int) (hL : L.length ≤ 1000) : FDet Tryd.prog 102 [.c (.row 0 L.length), .c (.int .i64 0), .c (.int .i64 L.length)] [(0, .row 3 1 (ints L))] 1 (.t []) [(0, .row 3 1 (ints (isort asc L)))] 1 := by
  refine FSpec.body2 tok true Tryd.func102 ?_
  refine Wk.on ?_
  refine Tr.loop (md := true) (X := Nat) (st := fun i => ⟨[(0, .c (.row 0 L.length)), (1, .c (.int .i64 0)), (2, .c (.int .i64 L.length)), (6, .c (.int .i64 i))], [(0, .row 3 1 (ints (iS asc L i)))], 1, 49, 1⟩) (inv := fun i => 1 ≤ i ∧ i ≤ 1001) (μ := fun i => 1001 - i) (x0 := 1) (l := []) tok ⟨by omega, by omega⟩ ?_ ?_
  · exact Sub.nil ⟨rfl, rfl, (by simp), rfl, (by simp [tupA, hpLt, tmLt, AV.lt, AE.lt, AC.lt, LL_cons, LL_nil, idOk, ABlk.lt, ints_LL, GB]), (by simp [tupA, hpLt, tmLt, AV.lt, AE.lt, AC.lt, LL_cons, LL_nil, idOk, ABlk.lt, ints_LL, GB])⟩ (by (repeat (first | exact trivial | refine ⟨trivial, ?_⟩ | refine ⟨rfl, ?_⟩))) ⟨by rw [iS_one]; rfl, trivial⟩
  · rintro i ⟨h1, h2⟩
    by_cases hi : i < L.length
    · obtain ⟨P, hP⟩ : ∃ P, P = (isortR asc (L.take i)).reverse := ⟨_, rfl⟩
      obtain ⟨x, hx⟩ : ∃ x, x = L[i] := ⟨_, rfl⟩
      obtain ⟨S, hS⟩ : ∃ S, S = L.drop (i + 1) := ⟨_, rfl⟩
      have hat := iS_at asc L hi
      have hsu := iS_succ asc L hi
      rw [← hP, ← hx, ← hS] at hat
      rw [← hx, ← hS] at hsu
      have hPl : P.length = i := by rw [hP, List.length_reverse, isortR_len, List.length_take]; omega
      have hSl : S.length + (i + 1) = L.length := by rw [hS, List.length_drop]; omega
      have hPr : isortR asc (L.take i) = P.reverse := by rw [hP, List.reverse_reverse]
      rw [hPr] at hsu
      have hmem : ∀ y ∈ P ++ x :: ([] ++ S), y ∈ L := fun y hy => by
        have hp : (P ++ x :: ([] ++ S)).Perm L := by
          rw [← hat, iS, hPr, List.reverse_reverse]
          have h3 : P.Perm (L.take i) := by rw [hP]; exact (List.reverse_perm _).trans (isortR_perm _ _)
          exact (h3.append_right _).trans (by rw [List.take_append_drop])
        exact hp.mem_iff.1 hy
      have hxL : x ∈ L := hmem x (by simp)
      rw [hat]
      clear hP hx hS hPr hat
      refine Wk.on ?_
      rw [decide_eq_true (show ((i : Nat) : Int) < ((L.length : Nat) : Int) by omega)]
      refine Wk.on ?_
      refine Tr.loop (md := true) (X := List Int × List Int) (st := fun q => ⟨[(0, .c (.row 0 L.length)), (1, .c (.int .i64 0)), (2, .c (.int .i64 L.length)), (6, .c (.int .i64 i)), (7, .c (.int .i64 q.1.length))], [(0, .row 3 1 (ints (q.1 ++ x :: (q.2 ++ S))))], 1, 49, 1⟩) (inv := fun q => q.1.length + q.2.length = i ∧ (insR asc x q.1.reverse).reverse ++ q.2 = (insR asc x P.reverse).reverse ∧ ∀ y ∈ q.1, y ∈ L) (μ := fun q => q.1.length) (x0 := (P, [])) (l := []) tok ⟨by simp [hPl], by simp, fun y hy => hmem y (List.mem_append_left _ hy)⟩ ?_ ?_
      · exact Sub.nil ⟨rfl, rfl, (by simp), rfl, (by simp [tupA, hpLt, tmLt, AV.lt, AE.lt, AC.lt, LL_cons, LL_nil, idOk, ABlk.lt, ints_LL, GB]), (by simp [tupA, hpLt, tmLt, AV.lt, AE.lt, AC.lt, LL_cons, LL_nil, idOk, ABlk.lt, ints_LL, GB])⟩ ⟨rfl, rfl, rfl, rfl, by rw [hPl]; rfl, trivial⟩ (by (repeat (first | exact trivial | refine ⟨trivial, ?_⟩ | refine ⟨rfl, ?_⟩)))
      · rintro ⟨A, B⟩ ⟨hl, hin, hA⟩
        dsimp only at hl hin hA ⊢
        by_cases hA0 : A = []
        · subst hA0
          refine Wk.on ?_
          refine Tr.draw (md := true) [⟨[], [17], [], [], []⟩, ⟨[], [16], [0], [], []⟩, ⟨[0, 1], [], [], [], []⟩, ⟨[0, 1, 2], [], [], [], []⟩, ⟨[0, 1, 2, 3], [21, 24, 25, 26, 27, 28], [], [], []⟩, ⟨[0, 1, 2, 3], [20, 24, 25, 26, 27, 28], [4], [], []⟩, ⟨[0, 1, 2, 3, 4, 5], [24, 25, 26, 27, 28], [], [], []⟩, ⟨[0, 1, 2, 3, 4, 5, 6], [24, 25, 26, 27, 28], [], [], []⟩, ⟨[0, 1, 2, 3], [20, 21, 22, 23, 25, 26], [4, 5, 6, 7], [], []⟩, ⟨[0, 1, 2, 3], [20, 21, 22, 23, 24], [4, 5, 6, 7, 8], [], []⟩, ⟨[0, 1, 2, 3, 9], [20, 21, 22, 23, 24], [4, 5, 6, 7, 8], [], []⟩, ⟨[0, 1, 2, 3, 8, 9, 10], [20, 21, 22, 23], [4, 5, 6, 7], [], []⟩, ⟨[0, 1, 2, 3, 8, 9, 10, 11], [20, 21, 22, 23], [4, 5, 6, 7], [], []⟩] tok (by kernel_rfl) (by kernel_rfl) ?_
          refine Wk.on ?_
          refine Again.mk (i + 1) (Sub.nil ⟨rfl, rfl, (by simp), rfl, (by simp [tupA, hpLt, tmLt, AV.lt, AE.lt, AC.lt, LL_cons, LL_nil, idOk, ABlk.lt, ints_LL, GB]), (by simp [tupA, hpLt, tmLt, AV.lt, AE.lt, AC.lt, LL_cons, LL_nil, idOk, ABlk.lt, ints_LL, GB])⟩ (by (repeat (first | exact trivial | refine ⟨trivial, ?_⟩ | refine ⟨rfl, ?_⟩))) ⟨by show ABlk.row 3 1 (ints _) = ABlk.row 3 1 (ints _); rw [hsu, ← hin]; simp [insR], trivial⟩) (⟨by omega, by omega⟩) (by omega)
        · obtain ⟨A', y, rfl⟩ : ∃ A' y, A = A' ++ [y] := ⟨A.dropLast, A.getLast hA0, (List.dropLast_concat_getLast hA0).symm⟩
          rw [List.length_append, List.length_singleton] at hl
          have hlen : (ints (A' ++ [y] ++ x :: (B ++ S))).length = L.length := by simp [ints_len]; omega
          obtain ⟨g1, g2⟩ := get_x A' y x (B ++ S)
          have hsw := swap_eq A' y x (B ++ S)
          have e1 : (A' ++ [y]).length = A'.length + 1 := by simp
          have hyL : y ∈ L := hA y (by simp)
          have hr1 : (A' ++ [y]).reverse = y :: A'.reverse := by simp
          have k1 : (((A'.length + 1 : Nat) : Int)).toNat = A'.length + 1 := Int.toNat_natCast _
          have k2 : (((A'.length + 1 : Nat) : Int) - 1).toNat = A'.length := by omega
          rw [hr1] at hin
          rw [e1]
          generalize hj : A'.length = j at *
          generalize hV : A' ++ [y] ++ x :: (B ++ S) = V at *
          have hb1 : (0 : Int) ≤ ((j + 1 : Nat) : Int) ∧ ((j + 1 : Nat) : Int) < ((L.length : Nat) : Int) := by omega
          have hb2 : (0 : Int) ≤ ((j + 1 : Nat) : Int) - 1 ∧ ((j + 1 : Nat) : Int) - 1 < ((L.length : Nat) : Int) := by omega
          refine Wk.on ?_
          refine Tr.draw (md := true) [⟨[], [17], [], [], []⟩, ⟨[], [16], [0], [], []⟩, ⟨[0, 1], [], [], [], []⟩, ⟨[0, 1, 2], [], [], [], []⟩, ⟨[0, 1, 2, 3], [21, 24, 25, 26, 27, 28], [], [], []⟩, ⟨[0, 1, 2, 3], [20, 24, 25, 26, 27, 28], [4], [], []⟩, ⟨[0, 1, 2, 3, 4, 5], [24, 25, 26, 27, 28], [], [], []⟩, ⟨[0, 1, 2, 3, 4, 5, 6], [24, 25, 26, 27, 28], [], [], []⟩, ⟨[0, 1, 2, 3], [20, 21, 22, 23, 25, 26], [4, 5, 6, 7], [], []⟩, ⟨[0, 1, 2, 3], [20, 21, 22, 23, 24], [4, 5, 6, 7, 8], [], []⟩, ⟨[0, 1, 2, 3, 9], [20, 21, 22, 23, 24], [4, 5, 6, 7, 8], [], []⟩, ⟨[0, 1, 2, 3, 8, 9, 10], [20, 21, 22, 23], [4, 5, 6, 7], [], []⟩, ⟨[0, 1, 2, 3, 8, 9, 10, 11], [20, 21, 22, 23], [4, 5, 6, 7], [], []⟩] tok (by kernel_rfl) (by kernel_rfl) ?_
          refine Wk.on ?_
          rw [decide_eq_true (show (0 : Int) < ((j + 1 : Nat) : Int) by omega)]
          refine Wk.on ?_
          simp only [ints_getD, Nat.mul_one, Nat.zero_add, k1, k2, g1, g2]
          refine CallA.ro2 [] (.c (.bool (asc x y))) (Less_spec x y) ?_
          refine Wk.on ?_
          cases hlt : asc x y with
          | true =>
            refine Wk.on ?_
            refine Tr.draw (md := true) [⟨[], [34, 35, 36, 37, 38, 39, 40, 41, 42, 43, 44, 45, 46], [], [], []⟩, ⟨[], [33, 35, 36, 37, 38, 39, 40, 41, 42, 43, 44, 45, 46], [0], [], []⟩, ⟨[], [33, 34, 36, 37, 38, 39, 40, 41, 42, 43, 44, 45, 46, 47], [0, 1], [], [0]⟩, ⟨[], [33, 34, 35, 38, 39, 40, 41, 42, 43, 44, 45, 46, 47], [0, 1, 2], [], [0]⟩, ⟨[3], [33, 34, 35, 38, 39, 40, 41, 42, 43, 44, 45, 46, 47], [0, 1, 2], [], [0]⟩, ⟨[], [33, 34, 35, 36, 37, 39, 40, 43, 44, 45, 46], [0, 1, 2, 3, 4], [], []⟩, ⟨[], [33, 34, 35, 36, 37, 38, 43, 44, 45, 46], [0, 1, 2, 3, 4, 5], [], []⟩, ⟨[6], [33, 34, 35, 36, 37, 38, 43, 44, 45, 46], [0, 1, 2, 3, 4, 5], [], []⟩, ⟨[5, 6, 7], [33, 34, 35, 36, 37, 43, 44, 45, 46], [0, 1, 2, 3, 4], [], []⟩, ⟨[5, 6, 7, 8], [33, 34, 35, 36, 37, 43, 44, 45, 46], [0, 1, 2, 3, 4], [], []⟩, ⟨[], [33, 34, 35, 36, 37, 38, 39, 40, 41, 42, 44], [0, 1, 2, 3, 4, 5, 6, 7, 8, 9], [], []⟩, ⟨[], [33, 34, 35, 36, 37, 38, 39, 40, 41, 42, 43], [0, 1, 2, 3, 4, 5, 6, 7, 8, 9, 10], [], []⟩, ⟨[10, 11], [33, 34, 35, 36, 37, 38, 39, 40, 41, 42], [0, 1, 2, 3, 4, 5, 6, 7, 8, 9], [], []⟩, ⟨[10, 11, 12], [33, 34, 35, 36, 37, 38, 39, 40, 41, 42], [0, 1, 2, 3, 4, 5, 6, 7, 8, 9], [], []⟩, ⟨[0, 1, 5, 6, 7, 8, 9, 10, 11, 12, 13], [35, 36, 37], [2, 3, 4], [], []⟩, ⟨[0, 1, 5, 6, 7, 8, 9, 10, 11, 12, 13, 14], [35, 36, 37], [2, 3, 4], [0], []⟩] tok (by kernel_rfl) (by kernel_rfl) ?_
            refine Wk.on ?_
            refine ⟨⟨rfl, by rw [List.length_set]; omega⟩, ?_⟩
            refine Wk.on ?_
            refine Again.mk (A', y :: B) (Sub.nil ⟨rfl, rfl, (by simp), rfl, (by simp [tupA, hpLt, tmLt, AV.lt, AE.lt, AC.lt, LL_cons, LL_nil, idOk, ABlk.lt, ints_LL, GB]), (by simp [tupA, hpLt, tmLt, AV.lt, AE.lt, AC.lt, LL_cons, LL_nil, idOk, ABlk.lt, ints_LL, GB])⟩ ⟨rfl, rfl, rfl, rfl, by show AV.c (.int .i64 _) = AV.c (.int .i64 _); rw [hj]; congr 2; omega, trivial⟩ ⟨by show ABlk.row 3 1 (((ints V).set _ ((ints V).getD _ (.int .i64 0))).set _ ((ints V).getD _ (.int .i64 0))) = ABlk.row 3 1 (ints _); simp only [ints_getD, Nat.mul_one, Nat.zero_add, k1, k2, g1, g2, ints_set, hsw]; rfl, trivial⟩) ⟨by show A'.length + (y :: B).length = i; rw [hj, List.length_cons]; omega, by rw [← hin, insR, hlt]; simp, fun z hz => hA z (by simp [hz])⟩ (by show A'.length < j + 1; omega)
          | false =>
            refine Wk.on ?_
            refine Again.mk (i + 1) (Sub.nil ⟨rfl, rfl, (by simp), rfl, (by simp [tupA, hpLt, tmLt, AV.lt, AE.lt, AC.lt, LL_cons, LL_nil, idOk, ABlk.lt, ints_LL, GB]), (by simp [tupA, hpLt, tmLt, AV.lt, AE.lt, AC.lt, LL_cons, LL_nil, idOk, ABlk.lt, ints_LL, GB])⟩ (by (repeat (first | exact trivial | refine ⟨trivial, ?_⟩ | refine ⟨rfl, ?_⟩))) ⟨by show ABlk.row 3 1 (ints _) = ABlk.row 3 1 (ints _); rw [hsu, ← hin, insR, hlt]; simp [← hV], trivial⟩) (⟨by omega, by omega⟩) (by omega)
    · refine Wk.on ?_
      rw [decide_eq_false (show ¬ ((i : Nat) : Int) < ((L.length : Nat) : Int) by omega)]
      refine Wk.on ?_
      exact Fin.nil [(0, .row 3 1 (ints (isort asc L)))] ⟨rfl, rfl, rfl⟩ (by simp [tupA, AV.lt]) ⟨by show ABlk.row 3 1 (ints _) = ABlk.row 3 1 (ints _); rw [iS_full asc L (by omega)], trivial⟩ (by simp [tupA, hpLt, tmLt, AV.lt, AE.lt, AC.lt, LL_cons, LL_nil, idOk, ABlk.lt, ints_LL, GB]) rfl (by simp [GB])
theorem insortC_spec (L : List Int) (hL : L.length ≤ 1000) (hs : ∀ y ∈ L, 0 ≤ y ∧ y < 65536) : FDet Tryd.prog 94 [.c (.row 0 L.length), .c (.int .i64 0), .c (.int .i64 L.length), .c (.fn 73 [] [])] [(0, .row 3 1 (ints L))] 1 (.t []) [(0, .row 3 1 (ints (isort desc L)))] 1 := by
  refine FSpec.body2 tok true Tryd.func94 ?_
  refine Wk.on ?_
  refine Tr.loop (md := true) (X := Nat) (st := fun i => ⟨[(0, .c (.row 0 L.length)), (1, .c (.int .i64 0)), (2, .c (.int .i64 L.length)), (3, .c (.fn 73 [] [])), (8, .c (.int .i64 i))], [(0, .row 3 1 (ints (iS desc L i)))], 1, 53, 1⟩) (inv := fun i => 1 ≤ i ∧ i ≤ 1001) (μ := fun i => 1001 - i) (x0 := 1) (l := []) tok ⟨by omega, by omega⟩ ?_ ?_
  · exact Sub.nil ⟨rfl, rfl, (by simp), rfl, (by simp [tupA, hpLt, tmLt, AV.lt, AE.lt, AC.lt, LL_cons, LL_nil, idOk, ABlk.lt, ints_LL, GB]), (by simp [tupA, hpLt, tmLt, AV.lt, AE.lt, AC.lt, LL_cons, LL_nil, idOk, ABlk.lt, ints_LL, GB])⟩ (by (repeat (first | exact trivial | refine ⟨trivial, ?_⟩ | refine ⟨rfl, ?_⟩))) ⟨by rw [iS_one]; rfl, trivial⟩
  · rintro i ⟨h1, h2⟩
    by_cases hi : i < L.length
    · obtain ⟨P, hP⟩ : ∃ P, P = (isortR desc (L.take i)).reverse := ⟨_, rfl⟩
      obtain ⟨x, hx⟩ : ∃ x, x = L[i] := ⟨_, rfl⟩
      obtain ⟨S, hS⟩ : ∃ S, S = L.drop (i + 1) := ⟨_, rfl⟩
      have hat := iS_at desc L hi
      have hsu := iS_succ desc L hi
      rw [← hP, ← hx, ← hS] at hat
      rw [← hx, ← hS] at hsu
      have hPl : P.length = i := by rw [hP, List.length_reverse, isortR_len, List.length_take]; omega
      have hSl : S.length + (i + 1) = L.length := by rw [hS, List.length_drop]; omega
      have hPr : isortR desc (L.take i) = P.reverse := by rw [hP, List.reverse_reverse]
      rw [hPr] at hsu
      have hmem : ∀ y ∈ P ++ x :: ([] ++ S), y ∈ L := fun y hy => by
        have hp : (P ++ x :: ([] ++ S)).Perm L := by
          rw [← hat, iS, hPr, List.reverse_reverse]
          have h3 : P.Perm (L.take i) := by rw [hP]; exact (List.reverse_perm _).trans (isortR_perm _ _)
          exact (h3.append_right _).trans (by rw [List.take_append_drop])
        exact hp.mem_iff.1 hy
      have hxL : x ∈ L := hmem x (by simp)
      rw [hat]
      clear hP hx hS hPr hat
      refine Wk.on ?_
      rw [decide_eq_true (show ((i : Nat) : Int) < ((L.length : Nat) : Int) by omega)]
      refine Wk.on ?_
      refine Tr.loop (md := true) (X := List Int × List Int) (st := fun q => ⟨[(0, .c (.row 0 L.length)), (1, .c (.int .i64 0)), (2, .c (.int .i64 L.length)), (3, .c (.fn 73 [] [])), (8, .c (.int .i64 i)), (9, .c (.int .i64 q.1.length))], [(0, .row 3 1 (ints (q.1 ++ x :: (q.2 ++ S))))], 1, 53, 1⟩) (inv := fun q => q.1.length + q.2.length = i ∧ (insR desc x q.1.reverse).reverse ++ q.2 = (insR desc x P.reverse).reverse ∧ ∀ y ∈ q.1, y ∈ L) (μ := fun q => q.1.length) (x0 := (P, [])) (l := []) tok ⟨by simp [hPl], by simp, fun y hy => hmem y (List.mem_append_left _ hy)⟩ ?_ ?_
      · exact Sub.nil ⟨rfl, rfl, (by simp), rfl, (by simp [tupA, hpLt, tmLt, AV.lt, AE.lt, AC.lt, LL_cons, LL_nil, idOk, ABlk.lt, ints_LL, GB]), (by simp [tupA, hpLt, tmLt, AV.lt, AE.lt, AC.lt, LL_cons, LL_nil, idOk, ABlk.lt, ints_LL, GB])⟩ ⟨rfl, rfl, rfl, rfl, rfl, by rw [hPl]; rfl, trivial⟩ (by (repeat (first | exact trivial | refine ⟨trivial, ?_⟩ | refine ⟨rfl, ?_⟩)))
      · rintro ⟨A, B⟩ ⟨hl, hin, hA⟩
        dsimp only at hl hin hA ⊢
        by_cases hA0 : A = []
        · subst hA0
          refine Wk.on ?_
          refine Tr.draw (md := true) [⟨[], [19], [], [], []⟩, ⟨[], [18], [0], [], []⟩, ⟨[0, 1], [], [], [], []⟩, ⟨[0, 1, 2], [], [], [], []⟩, ⟨[0, 1, 2, 3], [23, 24, 25, 26, 27, 28, 29, 30, 31], [], [], []⟩, ⟨[0, 1, 2, 3], [22, 24, 27, 28, 29, 30, 31], [4], [], []⟩, ⟨[0, 1, 2, 3], [22, 23, 27, 28, 29, 30, 31], [4, 5], [], []⟩, ⟨[0, 1, 2, 3, 5, 6], [22, 27, 28, 29, 30, 31], [4], [], []⟩, ⟨[0, 1, 2, 3, 5, 6, 7], [22, 27, 28, 29, 30, 31], [4], [], []⟩, ⟨[0, 1, 2, 3], [22, 23, 24, 25, 26, 28, 29], [4, 5, 6, 7, 8], [], []⟩, ⟨[0, 1, 2, 3], [22, 23, 24, 25, 26, 27], [4, 5, 6, 7, 8, 9], [], []⟩, ⟨[0, 1, 2, 3, 10], [22, 23, 24, 25, 26, 27], [4, 5, 6, 7, 8, 9], [], []⟩, ⟨[0, 1, 2, 3, 9, 10, 11], [22, 23, 24, 25, 26], [4, 5, 6, 7, 8], [], []⟩, ⟨[0, 1, 2, 3, 9, 10, 11, 12], [22, 23, 24, 25, 26], [4, 5, 6, 7, 8], [], []⟩] tok (by kernel_rfl) (by kernel_rfl) ?_
          refine Wk.on ?_
          refine Again.mk (i + 1) (Sub.nil ⟨rfl, rfl, (by simp), rfl, (by simp [tupA, hpLt, tmLt, AV.lt, AE.lt, AC.lt, LL_cons, LL_nil, idOk, ABlk.lt, ints_LL, GB]), (by simp [tupA, hpLt, tmLt, AV.lt, AE.lt, AC.lt, LL_cons, LL_nil, idOk, ABlk.lt, ints_LL, GB])⟩ (by (repeat (first | exact trivial | refine ⟨trivial, ?_⟩ | refine ⟨rfl, ?_⟩))) ⟨by show ABlk.row 3 1 (ints _) = ABlk.row 3 1 (ints _); rw [hsu, ← hin]; simp [insR], trivial⟩) (⟨by omega, by omega⟩) (by omega)
        · obtain ⟨A', y, rfl⟩ : ∃ A' y, A = A' ++ [y] := ⟨A.dropLast, A.getLast hA0, (List.dropLast_concat_getLast hA0).symm⟩
          rw [List.length_append, List.length_singleton] at hl
          have hlen : (ints (A' ++ [y] ++ x :: (B ++ S))).length = L.length := by simp [ints_len]; omega
          obtain ⟨g1, g2⟩ := get_x A' y x (B ++ S)
          have hsw := swap_eq A' y x (B ++ S)
          have e1 : (A' ++ [y]).length = A'.length + 1 := by simp
          have hyL : y ∈ L := hA y (by simp)
          have hr1 : (A' ++ [y]).reverse = y :: A'.reverse := by simp
          have k1 : (((A'.length + 1 : Nat) : Int)).toNat = A'.length + 1 := Int.toNat_natCast _
          have k2 : (((A'.length + 1 : Nat) : Int) - 1).toNat = A'.length := by omega
          rw [hr1] at hin
          rw [e1]
          generalize hj : A'.length = j at *
          generalize hV : A' ++ [y] ++ x :: (B ++ S) = V at *
          have hb1 : (0 : Int) ≤ ((j + 1 : Nat) : Int) ∧ ((j + 1 : Nat) : Int) < ((L.length : Nat) : Int) := by omega
          have hb2 : (0 : Int) ≤ ((j + 1 : Nat) : Int) - 1 ∧ ((j + 1 : Nat) : Int) - 1 < ((L.length : Nat) : Int) := by omega
          refine Wk.on ?_
          refine Tr.draw (md := true) [⟨[], [19], [], [], []⟩, ⟨[], [18], [0], [], []⟩, ⟨[0, 1], [], [], [], []⟩, ⟨[0, 1, 2], [], [], [], []⟩, ⟨[0, 1, 2, 3], [23, 24, 25, 26, 27, 28, 29, 30, 31], [], [], []⟩, ⟨[0, 1, 2, 3], [22, 24, 27, 28, 29, 30, 31], [4], [], []⟩, ⟨[0, 1, 2, 3], [22, 23, 27, 28, 29, 30, 31], [4, 5], [], []⟩, ⟨[0, 1, 2, 3, 5, 6], [22, 27, 28, 29, 30, 31], [4], [], []⟩, ⟨[0, 1, 2, 3, 5, 6, 7], [22, 27, 28, 29, 30, 31], [4], [], []⟩, ⟨[0, 1, 2, 3], [22, 23, 24, 25, 26, 28, 29], [4, 5, 6, 7, 8], [], []⟩, ⟨[0, 1, 2, 3], [22, 23, 24, 25, 26, 27], [4, 5, 6, 7, 8, 9], [], []⟩, ⟨[0, 1, 2, 3, 10], [22, 23, 24, 25, 26, 27], [4, 5, 6, 7, 8, 9], [], []⟩, ⟨[0, 1, 2, 3, 9, 10, 11], [22, 23, 24, 25, 26], [4, 5, 6, 7, 8], [], []⟩, ⟨[0, 1, 2, 3, 9, 10, 11, 12], [22, 23, 24, 25, 26], [4, 5, 6, 7, 8], [], []⟩] tok (by kernel_rfl) (by kernel_rfl) ?_
          refine Wk.on ?_
          rw [decide_eq_true (show (0 : Int) < ((j + 1 : Nat) : Int) by omega)]
          refine Wk.on ?_
          simp only [ints_getD, Nat.mul_one, Nat.zero_add, k1, k2, g1, g2]
          obtain ⟨⟨xn, rfl⟩, ⟨yn, rfl⟩⟩ : (∃ xn : Nat, x = xn) ∧ ∃ yn : Nat, y = yn := ⟨⟨x.toNat, by have := hs x hxL; omega⟩, ⟨y.toNat, by have := hs y hyL; omega⟩⟩
          have hxs := hs _ hxL
          have hys := hs _ hyL
          refine CallA.ro2 [] (.c (.int .i64 ((yn : Int) - xn))) (tidied1_spec xn yn (by omega) (by omega)) ?_
          have hlt0 : decide (((yn : Nat) : Int) - ((xn : Nat) : Int) < 0) = desc xn yn := decide_eq_decide.2 (by omega)
          generalize (xn : Int) = x at *
          generalize (yn : Int) = y at *
          refine Wk.on ?_
          rw [hlt0]
          refine Wk.on ?_
          cases hlt : desc x y with
          | true =>
            refine Wk.on ?_
            refine Tr.draw (md := true) [⟨[], [38, 39, 40, 41, 42, 43, 44, 45, 46, 47, 48, 49, 50], [], [], []⟩, ⟨[], [37, 39, 40, 41, 42, 43, 44, 45, 46, 47, 48, 49, 50], [0], [], []⟩, ⟨[], [37, 38, 40, 41, 42, 43, 44, 45, 46, 47, 48, 49, 50, 51], [0, 1], [], [0]⟩, ⟨[], [37, 38, 39, 42, 43, 44, 45, 46, 47, 48, 49, 50, 51], [0, 1, 2], [], [0]⟩, ⟨[3], [37, 38, 39, 42, 43, 44, 45, 46, 47, 48, 49, 50, 51], [0, 1, 2], [], [0]⟩, ⟨[], [37, 38, 39, 40, 41, 43, 44, 47, 48, 49, 50], [0, 1, 2, 3, 4], [], []⟩, ⟨[], [37, 38, 39, 40, 41, 42, 47, 48, 49, 50], [0, 1, 2, 3, 4, 5], [], []⟩, ⟨[6], [37, 38, 39, 40, 41, 42, 47, 48, 49, 50], [0, 1, 2, 3, 4, 5], [], []⟩, ⟨[5, 6, 7], [37, 38, 39, 40, 41, 47, 48, 49, 50], [0, 1, 2, 3, 4], [], []⟩, ⟨[5, 6, 7, 8], [37, 38, 39, 40, 41, 47, 48, 49, 50], [0, 1, 2, 3, 4], [], []⟩, ⟨[], [37, 38, 39, 40, 41, 42, 43, 44, 45, 46, 48], [0, 1, 2, 3, 4, 5, 6, 7, 8, 9], [], []⟩, ⟨[], [37, 38, 39, 40, 41, 42, 43, 44, 45, 46, 47], [0, 1, 2, 3, 4, 5, 6, 7, 8, 9, 10], [], []⟩, ⟨[10, 11], [37, 38, 39, 40, 41, 42, 43, 44, 45, 46], [0, 1, 2, 3, 4, 5, 6, 7, 8, 9], [], []⟩, ⟨[10, 11, 12], [37, 38, 39, 40, 41, 42, 43, 44, 45, 46], [0, 1, 2, 3, 4, 5, 6, 7, 8, 9], [], []⟩, ⟨[0, 1, 5, 6, 7, 8, 9, 10, 11, 12, 13], [39, 40, 41], [2, 3, 4], [], []⟩, ⟨[0, 1, 5, 6, 7, 8, 9, 10, 11, 12, 13, 14], [39, 40, 41], [2, 3, 4], [0], []⟩] tok (by kernel_rfl) (by kernel_rfl) ?_
            refine Wk.on ?_
            refine ⟨⟨rfl, by rw [List.length_set]; omega⟩, ?_⟩
            refine Wk.on ?_
            refine Again.mk (A', y :: B) (Sub.nil ⟨rfl, rfl, (by simp), rfl, (by simp [tupA, hpLt, tmLt, AV.lt, AE.lt, AC.lt, LL_cons, LL_nil, idOk, ABlk.lt, ints_LL, GB]), (by simp [tupA, hpLt, tmLt, AV.lt, AE.lt, AC.lt, LL_cons, LL_nil, idOk, ABlk.lt, ints_LL, GB])⟩ ⟨rfl, rfl, rfl, rfl, rfl, by show AV.c (.int .i64 _) = AV.c (.int .i64 _); rw [hj]; congr 2; omega, trivial⟩ ⟨by show ABlk.row 3 1 (((ints V).set _ ((ints V).getD _ (.int .i64 0))).set _ ((ints V).getD _ (.int .i64 0))) = ABlk.row 3 1 (ints _); simp only [ints_getD, Nat.mul_one, Nat.zero_add, k1, k2, g1, g2, ints_set, hsw]; rfl, trivial⟩) ⟨by show A'.length + (y :: B).length = i; rw [hj, List.length_cons]; omega, by rw [← hin, insR, hlt]; simp, fun z hz => hA z (by simp [hz])⟩ (by show A'.length < j + 1; omega)
          | false =>
            refine Wk.on ?_
            refine Again.mk (i + 1) (Sub.nil ⟨rfl, rfl, (by simp), rfl, (by simp [tupA, hpLt, tmLt, AV.lt, AE.lt, AC.lt, LL_cons, LL_nil, idOk, ABlk.lt, ints_LL, GB]), (by simp [tupA, hpLt, tmLt, AV.lt, AE.lt, AC.lt, LL_cons, LL_nil, idOk, ABlk.lt, ints_LL, GB])⟩ (by (repeat (first | exact trivial | refine ⟨trivial, ?_⟩ | refine ⟨rfl, ?_⟩))) ⟨by show ABlk.row 3 1 (ints _) = ABlk.row 3 1 (ints _); rw [hsu, ← hin, insR, hlt]; simp [← hV], trivial⟩) (⟨by omega, by omega⟩) (by omega)
    · refine Wk.on ?_
      rw [decide_eq_false (show ¬ ((i : Nat) : Int) < ((L.length : Nat) : Int) by omega)]
      refine Wk.on ?_
      exact Fin.nil [(0, .row 3 1 (ints (isort desc L)))] ⟨rfl, rfl, rfl⟩ (by simp [tupA, AV.lt]) ⟨by show ABlk.row 3 1 (ints _) = ABlk.row 3 1 (ints _); rw [iS_full desc L (by omega)], trivial⟩ (by simp [tupA, hpLt, tmLt, AV.lt, AE.lt, AC.lt, LL_cons, LL_nil, idOk, ABlk.lt, ints_LL, GB]) rfl (by simp [GB])

theorem pdqO_spec (L : List Int) (hL : L.length ≤ 12) (m : Nat) : FDet Tryd.prog 88 [.c (.row 0 L.length), .c (.int .i64 0), .c (.int .i64 L.length), .c (.int .i64 m)] [(0, .row 3 1 (ints L))] 1 (.t []) [(0, .row 3 1 (ints (isort asc L)))] 1 := by
  refine FSpec.body2 tok true Tryd.func88 ?_
  refine Wk.on ?_
  refine Tr.loop (md := true) (X := Unit) (st := fun _ => ⟨[(0, .c (.row 0 L.length)), (1, .c (.int .i64 0)), (2, .c (.int .i64 L.length))], [(0, .row 3 1 (ints L))], 1, 134, 1⟩) (inv := fun _ => True) (μ := fun _ => 0) (x0 := ()) (l := []) tok trivial ?_ ?_
  · exact Sub.nil ⟨rfl, rfl, (by simp), rfl, (by simp [tupA, hpLt, tmLt, AV.lt, AE.lt, AC.lt, LL_cons, LL_nil, idOk, ABlk.lt, ints_LL, GB]), (by simp [tupA, hpLt, tmLt, AV.lt, AE.lt, AC.lt, LL_cons, LL_nil, idOk, ABlk.lt, ints_LL, GB])⟩ (by (repeat (first | exact trivial | refine ⟨trivial, ?_⟩ | refine ⟨rfl, ?_⟩))) (by (repeat (first | exact trivial | refine ⟨trivial, ?_⟩ | refine ⟨rfl, ?_⟩)))
  · intro _ _
    refine Wk.on ?_
    rw [decide_eq_true (show ((L.length : Nat) : Int) - 0 ≤ 12 by omega)]
    refine Wk.on ?_
    refine CallA.det2 [0] (.t []) ([(0, .row 3 1 (ints (isort asc L)))]) (insort_spec L (by omega)) ?_
    refine Wk.on ?_
    exact Fin.nil [(0, .row 3 1 (ints (isort asc L)))] ⟨rfl, rfl, rfl⟩ (by simp [tupA, AV.lt]) ⟨rfl, trivial⟩ (by simp [tupA, hpLt, tmLt, AV.lt, AE.lt, AC.lt, LL_cons, LL_nil, idOk, ABlk.lt, ints_LL, GB]) rfl (by simp [GB])
theorem Sort_spec (L : List Int) (hL : L.length ≤ 12) : FDet Tryd.prog 74 [.c (.row 0 L.length)] [(0, .row 3 1 (ints L))] 1 (.t []) [(0, .row 3 1 (ints (isort asc L)))] 1 := by
  have hw : IntKind.u64.wrap (L.length : Int) = L.length := wrapU (by omega)
  refine FSpec.body2 tok true Tryd.func74 ?_
  refine Wk.on ?_
  rw [hw]
  refine CallA.ro2 [] (.c (.int .i64 (lenN L.length))) (len_spec (n := L.length) (by omega)) ?_
  refine Wk.on ?_
  refine CallA.det2 [0] (.t []) ([(0, .row 3 1 (ints (isort asc L)))]) (pdqO_spec L hL (lenN L.length)) ?_
  refine Wk.on ?_
  exact Fin.nil [(0, .row 3 1 (ints (isort asc L)))] ⟨rfl, rfl, rfl⟩ (by simp [tupA, AV.lt]) ⟨rfl, trivial⟩ (by simp [tupA, hpLt, tmLt, AV.lt, AE.lt, AC.lt, LL_cons, LL_nil, idOk, ABlk.lt, ints_LL, GB]) rfl (by simp [GB])
theorem pdqC_spec (L : List Int) (hL : L.length ≤ 12) (hs : ∀ y ∈ L, 0 ≤ y ∧ y < 65536) (m : Nat) : FDet Tryd.prog 87 [.c (.row 0 L.length), .c (.int .i64 0), .c (.int .i64 L.length), .c (.int .i64 m), .c (.fn 73 [] [])] [(0, .row 3 1 (ints L))] 1 (.t []) [(0, .row 3 1 (ints (isort desc L)))] 1 := by
  refine FSpec.body2 tok true Tryd.func87 ?_
  refine Wk.on ?_
  refine Tr.loop (md := true) (X := Unit) (st := fun _ => ⟨[(0, .c (.row 0 L.length)), (1, .c (.int .i64 0)), (2, .c (.int .i64 L.length)), (4, .c (.fn 73 [] []))], [(0, .row 3 1 (ints L))], 1, 148, 1⟩) (inv := fun _ => True) (μ := fun _ => 0) (x0 := ()) (l := []) tok trivial ?_ ?_
  · exact Sub.nil ⟨rfl, rfl, (by simp), rfl, (by simp [tupA, hpLt, tmLt, AV.lt, AE.lt, AC.lt, LL_cons, LL_nil, idOk, ABlk.lt, ints_LL, GB]), (by simp [tupA, hpLt, tmLt, AV.lt, AE.lt, AC.lt, LL_cons, LL_nil, idOk, ABlk.lt, ints_LL, GB])⟩ (by (repeat (first | exact trivial | refine ⟨trivial, ?_⟩ | refine ⟨rfl, ?_⟩))) (by (repeat (first | exact trivial | refine ⟨trivial, ?_⟩ | refine ⟨rfl, ?_⟩)))
  · intro _ _
    refine Wk.on ?_
    rw [decide_eq_true (show ((L.length : Nat) : Int) - 0 ≤ 12 by omega)]
    refine Wk.on ?_
    refine CallA.det2 [0] (.t []) ([(0, .row 3 1 (ints (isort desc L)))]) (insortC_spec L (by omega) hs) ?_
    refine Wk.on ?_
    exact Fin.nil [(0, .row 3 1 (ints (isort desc L)))] ⟨rfl, rfl, rfl⟩ (by simp [tupA, AV.lt]) ⟨rfl, trivial⟩ (by simp [tupA, hpLt, tmLt, AV.lt, AE.lt, AC.lt, LL_cons, LL_nil, idOk, ABlk.lt, ints_LL, GB]) rfl (by simp [GB])
theorem SortFunc_spec (L : List Int) (hL : L.length ≤ 12) (hs : ∀ y ∈ L, 0 ≤ y ∧ y < 65536) : FDet Tryd.prog 72 [.c (.row 0 L.length), .c (.fn 73 [] [])] [(0, .row 3 1 (ints L))] 1 (.t []) [(0, .row 3 1 (ints (isort desc L)))] 1 := by
  have hw : IntKind.u64.wrap (L.length : Int) = L.length := wrapU (by omega)
  refine FSpec.body2 tok true Tryd.func72 ?_
  refine Wk.on ?_
  rw [hw]
  refine CallA.ro2 [] (.c (.int .i64 (lenN L.length))) (len_spec (n := L.length) (by omega)) ?_
  refine Wk.on ?_
  refine CallA.det2 [0] (.t []) ([(0, .row 3 1 (ints (isort desc L)))]) (pdqC_spec L hL hs (lenN L.length)) ?_
  refine Wk.on ?_
  exact Fin.nil [(0, .row 3 1 (ints (isort desc L)))] ⟨rfl, rfl, rfl⟩ (by simp [tupA, AV.lt]) ⟨rfl, trivial⟩ (by simp [tupA, hpLt, tmLt, AV.lt, AE.lt, AC.lt, LL_cons, LL_nil, idOk, ABlk.lt, ints_LL, GB]) rfl (by simp [GB])
theorem insort_nil : FDet Tryd.prog 102 [.c .nils, .c (.int .i64 0), .c (.int .i64 0)] [] 0 (.t []) [] 0 := by
  refine FSpec.body2 tok true Tryd.func102 ?_
  refine Wk.on ?_
  refine Tr.loop (md := true) (X := Unit) (st := fun _ => ⟨[(0, .c .nils), (1, .c (.int .i64 0)), (2, .c (.int .i64 0)), (6, .c (.int .i64 1))], [], 0, 49, 0⟩) (inv := fun _ => True) (μ := fun _ => 0) (x0 := ()) (l := []) tok trivial ?_ ?_
  · exact Sub.nil ⟨rfl, rfl, (by simp), rfl, (by simp [tupA, hpLt, tmLt, AV.lt, AE.lt, AC.lt, LL_cons, LL_nil, idOk, ABlk.lt, ints_LL, GB]), (by simp [tupA, hpLt, tmLt, AV.lt, AE.lt, AC.lt, LL_cons, LL_nil, idOk, ABlk.lt, ints_LL, GB])⟩ (by (repeat (first | exact trivial | refine ⟨trivial, ?_⟩ | refine ⟨rfl, ?_⟩))) (by (repeat (first | exact trivial | refine ⟨trivial, ?_⟩ | refine ⟨rfl, ?_⟩)))
  · intro _ _
    refine Wk.on ?_
    exact AH.Fin.nil2 ⟨rfl, rfl, rfl⟩
theorem pdqO_nil : FDet Tryd.prog 88 [.c .nils, .c (.int .i64 0), .c (.int .i64 0), .c (.int .i64 0)] [] 0 (.t []) [] 0 := by
  refine FSpec.body2 tok true Tryd.func88 ?_
  refine Wk.on ?_
  refine Tr.loop (md := true) (X := Unit) (st := fun _ => ⟨[(0, .c .nils), (1, .c (.int .i64 0)), (2, .c (.int .i64 0))], [], 0, 134, 0⟩) (inv := fun _ => True) (μ := fun _ => 0) (x0 := ()) (l := []) tok trivial ?_ ?_
  · exact Sub.nil ⟨rfl, rfl, (by simp), rfl, (by simp [tupA, hpLt, tmLt, AV.lt, AE.lt, AC.lt, LL_cons, LL_nil, idOk, ABlk.lt, ints_LL, GB]), (by simp [tupA, hpLt, tmLt, AV.lt, AE.lt, AC.lt, LL_cons, LL_nil, idOk, ABlk.lt, ints_LL, GB])⟩ (by (repeat (first | exact trivial | refine ⟨trivial, ?_⟩ | refine ⟨rfl, ?_⟩))) (by (repeat (first | exact trivial | refine ⟨trivial, ?_⟩ | refine ⟨rfl, ?_⟩)))
  · intro _ _
    refine Wk.on ?_
    refine CallA.ro2 [] (.t []) (insort_nil) ?_
    refine Wk.on ?_
    exact AH.Fin.nil2 ⟨rfl, rfl, rfl⟩
theorem Sort_nil : FDet Tryd.prog 74 [.c .nils] [] 0 (.t []) [] 0 := by
  refine FSpec.body2 tok true Tryd.func74 ?_
  refine Wk.on ?_
  refine CallA.ro2 [] (.c (.int .i64 (lenN 0))) (len_spec (n := 0) (by omega)) ?_
  refine Wk.on ?_
  refine CallA.ro2 [] (.t []) (pdqO_nil) ?_
  refine Wk.on ?_
  exact AH.Fin.nil2 ⟨rfl, rfl, rfl⟩
end Go.Proofs.YtimknijehaamlaaDoor
