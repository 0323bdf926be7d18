/-
  Sorting by insertion. (Plain Lean, nothing of the program.)
-/
import Derived.Test.YtimknijehaamlaaDoorSw1
set_option linter.unusedSimpArgs false
set_option linter.unusedVariables false
namespace Go.Lin

def insR (lt : Int → Int → Bool) (x : Int) : List Int → List Int
  | [] => [x]
  | y :: ys => if lt x y then y :: insR lt x ys else x :: y :: ys
def isortR (lt : Int → Int → Bool) (L : List Int) : List Int := L.foldl (fun acc x => insR lt x acc) []
def isort (lt : Int → Int → Bool) (L : List Int) : List Int := (isortR lt L).reverse
theorem insR_perm (lt : Int → Int → Bool) (x : Int) (L : List Int) : (insR lt x L).Perm (x :: L) := by
  induction L with
  | nil => exact .refl _
  | cons y L ih =>
    rw [insR]
    split
    · exact (List.Perm.cons y ih).trans (.swap x y L)
    · exact .refl _
theorem isortR_perm (lt : Int → Int → Bool) (L : List Int) : (isortR lt L).Perm L := by
  have : ∀ (L acc : List Int), (L.foldl (fun acc x => insR lt x acc) acc).Perm (L ++ acc) := by
    intro L
    induction L with
    | nil => intro acc; exact .refl _
    | cons x L ih =>
      intro acc
      refine (ih _).trans ?_
      exact (List.Perm.append_left L (insR_perm lt x acc)).trans List.perm_middle
  have := this L []
  rwa [List.append_nil] at this
theorem isort_perm (lt : Int → Int → Bool) (L : List Int) : (isort lt L).Perm L := (List.reverse_perm _).trans (isortR_perm lt L)
theorem insR_sorted (f : Int → Int) (x : Int) {L : List Int} (h : L.Pairwise fun a b => f b ≤ f a) : (insR (fun x y => decide (f x < f y)) x L).Pairwise fun a b => f b ≤ f a := by
  induction L with
  | nil => simp [insR]
  | cons y L ih =>
    rw [List.pairwise_cons] at h
    rw [insR]
    split
    · rename_i hlt
      have hlt := of_decide_eq_true hlt
      rw [List.pairwise_cons]
      refine ⟨fun z hz => ?_, ih h.2⟩
      rcases List.mem_cons.1 ((insR_perm _ x L).mem_iff.1 hz) with rfl | hz
      · omega
      · exact h.1 z hz
    · rename_i hlt
      have hlt : ¬ f x < f y := by simpa using hlt
      rw [List.pairwise_cons, List.pairwise_cons]
      refine ⟨fun z hz => ?_, h.1, h.2⟩
      rcases List.mem_cons.1 hz with rfl | hz
      · omega
      · have := h.1 z hz; omega
theorem isort_sorted (f : Int → Int) (L : List Int) : (isort (fun x y => decide (f x < f y)) L).Pairwise fun a b => f a ≤ f b := by
  have : ∀ (L acc : List Int), acc.Pairwise (fun a b => f b ≤ f a) → (L.foldl (fun acc x => insR (fun x y => decide (f x < f y)) x acc) acc).Pairwise fun a b => f b ≤ f a := by
    intro L
    induction L with
    | nil => intro acc h; exact h
    | cons x L ih => intro acc h; exact ih _ (insR_sorted f x h)
  rw [isort, List.pairwise_reverse]
  exact this L [] .nil
theorem sorted_ext {f : Int → Int} (hf : ∀ a b, f a = f b → a = b) : ∀ {L M : List Int}, L.Pairwise (fun a b => f a ≤ f b) → M.Pairwise (fun a b => f a < f b) → L.Perm M → L = M
  | L, [], _, _, hp => hp.eq_nil
  | [], m :: M, _, _, hp => hp.symm.eq_nil.symm
  | l :: L, m :: M, hL, hM, hp => by
    rw [List.pairwise_cons] at hL hM
    have h1 : f m ≤ f l := by
      rcases List.mem_cons.1 (hp.mem_iff.1 (List.mem_cons_self (a := l))) with h | h
      · rw [h]; exact Int.le_refl _
      · have := hM.1 l h; omega
    have h2 : f l ≤ f m := by
      rcases List.mem_cons.1 (hp.mem_iff.2 (List.mem_cons_self (a := m))) with h | h
      · rw [h]; exact Int.le_refl _
      · exact hL.1 m h
    obtain rfl := hf l m (by omega)
    rw [sorted_ext hf hL.2 hM.2 (List.Perm.cons_inv hp)]
def asc (x y : Int) : Bool := decide (x < y)
def desc (x y : Int) : Bool := decide (y < x)
theorem desc_eq : desc = fun x y => decide (-x < -y) := by
  funext x y
  unfold desc
  exact decide_eq_decide.2 (by omega)
def castL (L : List Nat) : List Int := L.map Int.ofNat
theorem castL_len (L : List Nat) : (castL L).length = L.length := by simp [castL]
/-- One more is put where it belongs. -/
theorem isort_insD {s : Nat} {L : List Nat} (h : Ech (insD s L)) : isort desc (castL (L ++ [s])) = castL (insD s L) := by
  rw [desc_eq]
  refine sorted_ext (f := fun x => -x) (fun a b h => by omega) (isort_sorted _ _) ?_ ((isort_perm _ _).trans ?_)
  · unfold castL
    rw [List.pairwise_map]
    exact h.pairwise.imp fun {a b} h => by have := lt_of_log2 h; show -(a : Int) < -(b : Int); omega
  · refine List.Perm.map _ ?_
    exact (List.perm_append_comm.trans (show ([s] ++ L).Perm (s :: L) from .refl _)).trans (insD_perm s L).symm
theorem isort_rev {L : List Nat} (h : Ech L) : isort asc (castL L) = castL L.reverse := by
  refine sorted_ext (f := fun x => x) (fun a b h => h) (isort_sorted (fun x => x) _) ?_ ((isort_perm _ _).trans ?_)
  · unfold castL
    rw [List.pairwise_map, List.pairwise_reverse]
    exact h.pairwise.imp fun {a b} h => by have := lt_of_log2 h; show (b : Int) < (a : Int); omega
  · exact List.Perm.map _ (List.reverse_perm L).symm
end Go.Lin

/-
  Contracts: sorting of at most twelve numbers.
-/
namespace Go.Proofs.YtimknijehaamlaaDoor
open Go Go.AH Go.Lin
set_option maxRecDepth 100000
set_option maxHeartbeats 1000000

theorem isNaN_spec (x : Int) : FDet Tryd.prog 92 [.c (.int .i64 x)] [] 0 (.c (.bool false)) [] 0 := by
  refine FSpec.of_body tok true Tryd.func92 rfl (by kernel_rfl) (by decide) (by simp [tupA, hpLt, tmLt, AV.lt, AE.lt, AC.lt, LL_cons, LL_nil, idOk, ABlk.lt, ints_LL, GB]) (by simp [tupA, hpLt, tmLt, AV.lt, AE.lt, AC.lt, LL_cons, LL_nil, idOk, ABlk.lt, ints_LL, GB]) (by show 1 ≤ _; decide) ?_
  refine Wk.on ?_
  exact AH.Fin.nil [] ⟨by show AV.c (.bool (decide (x ≠ x))) = _; simp, rfl, rfl⟩ (by first | exact trivial | (simp [tupA, hpLt, tmLt, AV.lt, AE.lt, AC.lt, LL_cons, LL_nil, idOk, ABlk.lt, ints_LL, GB]; done) | (simp [tupA, hpLt, tmLt, AV.lt, AE.lt, AC.lt, LL_cons, LL_nil, idOk, ABlk.lt, ints_LL, GB, rdn, wrn]; done)) trivial trivial rfl (by simp [GB])
theorem Less_spec (x y : Int) : FDet Tryd.prog 108 [.c (.int .i64 x), .c (.int .i64 y)] [] 0 (.c (.bool (asc x y))) [] 0 := by
  refine FSpec.of_body tok true Tryd.func108 rfl (by kernel_rfl) (by decide) (by simp [tupA, hpLt, tmLt, AV.lt, AE.lt, AC.lt, LL_cons, LL_nil, idOk, ABlk.lt, ints_LL, GB]) (by simp [tupA, hpLt, tmLt, AV.lt, AE.lt, AC.lt, LL_cons, LL_nil, idOk, ABlk.lt, ints_LL, GB]) (by show 2 ≤ _; decide) ?_
  refine Wk.on ?_
  refine CallA.ro [] (.c (.bool false)) (isNaN_spec x) (by first | rfl | exact congrArg AV.g (ints_ren _ _) | (simp [ints_ren, AV.ren, ABlk.ren, AC.ren, AE.ren, qq]; done)) rfl (by (repeat (first | exact trivial | refine ⟨⟨(by first | exact .inl (by decide) | exact .inr (by decide)), (by first | (refine Or.inl ?_; first | rfl | exact congrArg some (ints_ren _ _).symm | exact congrArg ABlk.own (ints_ren _ _).symm | exact congrArg (ABlk.row _ _) (ints_ren _ _).symm) | rfl | exact congrArg some (ints_ren _ _).symm | exact congrArg ABlk.own (ints_ren _ _).symm | exact congrArg (ABlk.row _ _) (ints_ren _ _).symm | exact Or.inr ⟨rfl, rfl⟩)⟩, ?_⟩))) (by first | rfl | exact congrArg AV.g (ints_ren _ _) | (simp [ints_ren, AV.ren, ABlk.ren, AC.ren, AE.ren, qq]; done)) ?_
  refine Wk.on ?_
  by_cases h : x < y
  · rw [decide_eq_true h]
    refine Wk.on ?_
    exact AH.Fin.nil [] ⟨by rw [asc, decide_eq_true h]; rfl, rfl, rfl⟩ (by first | exact trivial | (simp [tupA, hpLt, tmLt, AV.lt, AE.lt, AC.lt, LL_cons, LL_nil, idOk, ABlk.lt, ints_LL, GB]; done) | (simp [tupA, hpLt, tmLt, AV.lt, AE.lt, AC.lt, LL_cons, LL_nil, idOk, ABlk.lt, ints_LL, GB, rdn, wrn]; done)) trivial trivial rfl (by simp [GB])
  · rw [decide_eq_false h]
    refine Wk.on ?_
    exact AH.Fin.nil [] ⟨by rw [asc, decide_eq_false h]; rfl, rfl, rfl⟩ (by first | exact trivial | (simp [tupA, hpLt, tmLt, AV.lt, AE.lt, AC.lt, LL_cons, LL_nil, idOk, ABlk.lt, ints_LL, GB]; done) | (simp [tupA, hpLt, tmLt, AV.lt, AE.lt, AC.lt, LL_cons, LL_nil, idOk, ABlk.lt, ints_LL, GB, rdn, wrn]; done)) trivial trivial rfl (by simp [GB])
theorem tidied1_spec (x y : Nat) (hx : x < 65536) (hy : y < 65536) : FDet Tryd.prog 73 [.c (.int .i64 x), .c (.int .i64 y)] [] 0 (.c (.int .i64 (y - x))) [] 0 := by
  refine FSpec.of_body tok true Tryd.func73 rfl (by kernel_rfl) (by decide) (by simp [tupA, hpLt, tmLt, AV.lt, AE.lt, AC.lt, LL_cons, LL_nil, idOk, ABlk.lt, ints_LL, GB]) (by simp [tupA, hpLt, tmLt, AV.lt, AE.lt, AC.lt, LL_cons, LL_nil, idOk, ABlk.lt, ints_LL, GB]) (by show 2 ≤ _; decide) ?_
  refine Wk.on ?_
  exact AH.Fin.nil [] ⟨rfl, rfl, rfl⟩ (by first | exact trivial | (simp [tupA, hpLt, tmLt, AV.lt, AE.lt, AC.lt, LL_cons, LL_nil, idOk, ABlk.lt, ints_LL, GB]; done) | (simp [tupA, hpLt, tmLt, AV.lt, AE.lt, AC.lt, LL_cons, LL_nil, idOk, ABlk.lt, ints_LL, GB, rdn, wrn]; done)) trivial trivial rfl (by simp [GB])
/-- What the list is when its first i elements are in order. -/
def iS (lt : Int → Int → Bool) (L : List Int) (i : Nat) : List Int := (isortR lt (L.take i)).reverse ++ L.drop i
theorem iS_full (lt : Int → Int → Bool) (L : List Int) {i : Nat} (h : L.length ≤ i) : iS lt L i = isort lt L := by
  rw [iS, List.take_of_length_le h, List.drop_of_length_le h, List.append_nil, isort]
theorem iS_succ (lt : Int → Int → Bool) (L : List Int) {i : Nat} (h : i < L.length) : iS lt L (i + 1) = (insR lt L[i] (isortR lt (L.take i))).reverse ++ L.drop (i + 1) := by
  rw [iS, List.take_add_one, List.getElem?_eq_getElem h]
  simp only [isortR, Option.toList_some, List.foldl_append, List.foldl_cons, List.foldl_nil]
theorem iS_one (lt : Int → Int → Bool) (L : List Int) : iS lt L 1 = L := by
  cases L with
  | nil => rfl
  | cons x L => simp [iS, isortR, insR]
theorem iS_at (lt : Int → Int → Bool) (L : List Int) {i : Nat} (h : i < L.length) : iS lt L i = (isortR lt (L.take i)).reverse ++ L[i] :: ([] ++ L.drop (i + 1)) := by
  rw [iS, List.nil_append, List.drop_eq_getElem_cons h]
theorem isortR_len (lt : Int → Int → Bool) (L : List Int) : (isortR lt L).length = L.length := (isortR_perm lt L).length_eq
theorem swap_eq (A : List Int) (y x : Int) (B : List Int) : ((A ++ [y] ++ x :: B).set (A.length + 1) y).set A.length x = A ++ x :: (y :: B) := by
  rw [List.append_assoc, List.singleton_append, List.set_append_right _ _ (by omega), show A.length + 1 - A.length = 1 by omega, List.set_cons_succ, List.set_cons_zero, List.set_append_right _ _ (by omega), Nat.sub_self, List.set_cons_zero]
theorem get_x (A : List Int) (y x : Int) (B : List Int) : (A ++ [y] ++ x :: B).getD (A.length + 1) 0 = x ∧ (A ++ [y] ++ x :: B).getD A.length 0 = y := by
  constructor
  · rw [List.getD_eq_getElem?_getD, List.getElem?_append_right (by simp)]; simp
  · rw [List.getD_eq_getElem?_getD, List.append_assoc, List.getElem?_append_right (by simp)]; simp

theorem insort_spec (L : List Int) (hL : L.length ≤ 1000) : FDet Tryd.prog 102 [.c (.row 0 L.length), .c (.int .i64 0), .c (.int .i64 L.length)] [(0, .row 3 1 (ints L))] 1 (.t []) [(0, .row 3 1 (ints (isort asc L)))] 1 := by
  refine FSpec.of_body tok true Tryd.func102 rfl (by kernel_rfl) (by decide) (by simp [tupA, hpLt, tmLt, AV.lt, AE.lt, AC.lt, LL_cons, LL_nil, idOk, ABlk.lt, ints_LL, GB]) (by simp [tupA, hpLt, tmLt, AV.lt, AE.lt, AC.lt, LL_cons, LL_nil, idOk, ABlk.lt, ints_LL, GB]) (by show 3 ≤ _; decide) ?_
  refine Wk.on ?_
  refine Tr.loop (md := true) (X := Nat) (st := fun i => ⟨[(0, .c (.row 0 L.length)), (1, .c (.int .i64 0)), (2, .c (.int .i64 L.length)), (6, .c (.int .i64 i))], [(0, .row 3 1 (ints (iS asc L i)))], 1, 49, 1⟩) (inv := fun i => 1 ≤ i ∧ i ≤ 1001) (μ := fun i => 1001 - i) (x0 := 1) (l := []) tok ⟨by omega, by omega⟩ ?_ ?_
  · exact Sub.nil ⟨rfl, rfl, (by simp), rfl, (by simp [tupA, hpLt, tmLt, AV.lt, AE.lt, AC.lt, LL_cons, LL_nil, idOk, ABlk.lt, ints_LL, GB]), (by simp [tupA, hpLt, tmLt, AV.lt, AE.lt, AC.lt, LL_cons, LL_nil, idOk, ABlk.lt, ints_LL, GB])⟩ (by (repeat (first | exact trivial | refine ⟨trivial, ?_⟩ | refine ⟨rfl, ?_⟩))) ⟨by rw [iS_one]; rfl, trivial⟩
  · rintro i ⟨h1, h2⟩
    by_cases hi : i < L.length
    · obtain ⟨P, hP⟩ : ∃ P, P = (isortR asc (L.take i)).reverse := ⟨_, rfl⟩
      obtain ⟨x, hx⟩ : ∃ x, x = L[i] := ⟨_, rfl⟩
      obtain ⟨S, hS⟩ : ∃ S, S = L.drop (i + 1) := ⟨_, rfl⟩
      have hat := iS_at asc L hi
      have hsu := iS_succ asc L hi
      rw [← hP, ← hx, ← hS] at hat
      rw [← hx, ← hS] at hsu
      have hPl : P.length = i := by rw [hP, List.length_reverse, isortR_len, List.length_take]; omega
      have hSl : S.length + (i + 1) = L.length := by rw [hS, List.length_drop]; omega
      have hPr : isortR asc (L.take i) = P.reverse := by rw [hP, List.reverse_reverse]
      rw [hPr] at hsu
      have hmem : ∀ y ∈ P ++ x :: ([] ++ S), y ∈ L := fun y hy => by
        have hp : (P ++ x :: ([] ++ S)).Perm L := by
          rw [← hat, iS, hPr, List.reverse_reverse]
          have h3 : P.Perm (L.take i) := by rw [hP]; exact (List.reverse_perm _).trans (isortR_perm _ _)
          exact (h3.append_right _).trans (by rw [List.take_append_drop])
        exact hp.mem_iff.1 hy
      have hxL : x ∈ L := hmem x (by simp)
      rw [hat]
      clear hP hx hS hPr hat
      refine Wk.on ?_
      rw [decide_eq_true (show ((i : Nat) : Int) < ((L.length : Nat) : Int) by omega)]
      refine Wk.on ?_
      refine Tr.loop (md := true) (X := List Int × List Int) (st := fun q => ⟨[(0, .c (.row 0 L.length)), (1, .c (.int .i64 0)), (2, .c (.int .i64 L.length)), (6, .c (.int .i64 i)), (7, .c (.int .i64 q.1.length))], [(0, .row 3 1 (ints (q.1 ++ x :: (q.2 ++ S))))], 1, 49, 1⟩) (inv := fun q => q.1.length + q.2.length = i ∧ (insR asc x q.1.reverse).reverse ++ q.2 = (insR asc x P.reverse).reverse ∧ ∀ y ∈ q.1, y ∈ L) (μ := fun q => q.1.length) (x0 := (P, [])) (l := []) tok ⟨by simp [hPl], by simp, fun y hy => hmem y (List.mem_append_left _ hy)⟩ ?_ ?_
      · exact Sub.nil ⟨rfl, rfl, (by simp), rfl, (by simp [tupA, hpLt, tmLt, AV.lt, AE.lt, AC.lt, LL_cons, LL_nil, idOk, ABlk.lt, ints_LL, GB]), (by simp [tupA, hpLt, tmLt, AV.lt, AE.lt, AC.lt, LL_cons, LL_nil, idOk, ABlk.lt, ints_LL, GB])⟩ ⟨rfl, rfl, rfl, rfl, by rw [hPl]; rfl, trivial⟩ (by (repeat (first | exact trivial | refine ⟨trivial, ?_⟩ | refine ⟨rfl, ?_⟩)))
      · rintro ⟨A, B⟩ ⟨hl, hin, hA⟩
        dsimp only at hl hin hA ⊢
        by_cases hA0 : A = []
        · subst hA0
          refine Wk.on ?_
          refine Tr.draw (md := true) [⟨[], [17], [], [], []⟩, ⟨[], [16], [0], [], []⟩, ⟨[0, 1], [], [], [], []⟩, ⟨[0, 1, 2], [], [], [], []⟩, ⟨[0, 1, 2, 3], [21, 24, 25, 26, 27, 28], [], [], []⟩, ⟨[0, 1, 2, 3], [20, 24, 25, 26, 27, 28], [4], [], []⟩, ⟨[0, 1, 2, 3, 4, 5], [24, 25, 26, 27, 28], [], [], []⟩, ⟨[0, 1, 2, 3, 4, 5, 6], [24, 25, 26, 27, 28], [], [], []⟩, ⟨[0, 1, 2, 3], [20, 21, 22, 23, 25, 26], [4, 5, 6, 7], [], []⟩, ⟨[0, 1, 2, 3], [20, 21, 22, 23, 24], [4, 5, 6, 7, 8], [], []⟩, ⟨[0, 1, 2, 3, 9], [20, 21, 22, 23, 24], [4, 5, 6, 7, 8], [], []⟩, ⟨[0, 1, 2, 3, 8, 9, 10], [20, 21, 22, 23], [4, 5, 6, 7], [], []⟩, ⟨[0, 1, 2, 3, 8, 9, 10, 11], [20, 21, 22, 23], [4, 5, 6, 7], [], []⟩] tok (by kernel_rfl) (by kernel_rfl) ?_
          refine Wk.on ?_
          refine Again.mk (i + 1) (Sub.nil ⟨rfl, rfl, (by simp), rfl, (by simp [tupA, hpLt, tmLt, AV.lt, AE.lt, AC.lt, LL_cons, LL_nil, idOk, ABlk.lt, ints_LL, GB]), (by simp [tupA, hpLt, tmLt, AV.lt, AE.lt, AC.lt, LL_cons, LL_nil, idOk, ABlk.lt, ints_LL, GB])⟩ (by (repeat (first | exact trivial | refine ⟨trivial, ?_⟩ | refine ⟨rfl, ?_⟩))) ⟨by show ABlk.row 3 1 (ints _) = ABlk.row 3 1 (ints _); rw [hsu, ← hin]; simp [insR], trivial⟩) (⟨by omega, by omega⟩) (by omega)
        · obtain ⟨A', y, rfl⟩ : ∃ A' y, A = A' ++ [y] := ⟨A.dropLast, A.getLast hA0, (List.dropLast_concat_getLast hA0).symm⟩
          rw [List.length_append, List.length_singleton] at hl
          have hlen : (ints (A' ++ [y] ++ x :: (B ++ S))).length = L.length := by simp [ints_len]; omega
          obtain ⟨g1, g2⟩ := get_x A' y x (B ++ S)
          have hsw := swap_eq A' y x (B ++ S)
          have e1 : (A' ++ [y]).length = A'.length + 1 := by simp
          have hyL : y ∈ L := hA y (by simp)
          have hr1 : (A' ++ [y]).reverse = y :: A'.reverse := by simp
          have k1 : (((A'.length + 1 : Nat) : Int)).toNat = A'.length + 1 := Int.toNat_natCast _
          have k2 : (((A'.length + 1 : Nat) : Int) - 1).toNat = A'.length := by omega
          rw [hr1] at hin
          rw [e1]
          generalize hj : A'.length = j at *
          generalize hV : A' ++ [y] ++ x :: (B ++ S) = V at *
          have hb1 : (0 : Int) ≤ ((j + 1 : Nat) : Int) ∧ ((j + 1 : Nat) : Int) < ((L.length : Nat) : Int) := by omega
          have hb2 : (0 : Int) ≤ ((j + 1 : Nat) : Int) - 1 ∧ ((j + 1 : Nat) : Int) - 1 < ((L.length : Nat) : Int) := by omega
          refine Wk.on ?_
          refine Tr.draw (md := true) [⟨[], [17], [], [], []⟩, ⟨[], [16], [0], [], []⟩, ⟨[0, 1], [], [], [], []⟩, ⟨[0, 1, 2], [], [], [], []⟩, ⟨[0, 1, 2, 3], [21, 24, 25, 26, 27, 28], [], [], []⟩, ⟨[0, 1, 2, 3], [20, 24, 25, 26, 27, 28], [4], [], []⟩, ⟨[0, 1, 2, 3, 4, 5], [24, 25, 26, 27, 28], [], [], []⟩, ⟨[0, 1, 2, 3, 4, 5, 6], [24, 25, 26, 27, 28], [], [], []⟩, ⟨[0, 1, 2, 3], [20, 21, 22, 23, 25, 26], [4, 5, 6, 7], [], []⟩, ⟨[0, 1, 2, 3], [20, 21, 22, 23, 24], [4, 5, 6, 7, 8], [], []⟩, ⟨[0, 1, 2, 3, 9], [20, 21, 22, 23, 24], [4, 5, 6, 7, 8], [], []⟩, ⟨[0, 1, 2, 3, 8, 9, 10], [20, 21, 22, 23], [4, 5, 6, 7], [], []⟩, ⟨[0, 1, 2, 3, 8, 9, 10, 11], [20, 21, 22, 23], [4, 5, 6, 7], [], []⟩] tok (by kernel_rfl) (by kernel_rfl) ?_
          refine Wk.on ?_
          rw [decide_eq_true (show (0 : Int) < ((j + 1 : Nat) : Int) by omega)]
          refine Wk.on ?_
          simp only [ints_getD, Nat.mul_one, Nat.zero_add, k1, k2, g1, g2]
          refine CallA.ro [] (.c (.bool (asc x y))) (Less_spec x y) (by first | rfl | exact congrArg AV.g (ints_ren _ _) | (simp [ints_ren, AV.ren, ABlk.ren, AC.ren, AE.ren, qq]; done)) rfl (by (repeat (first | exact trivial | refine ⟨⟨(by first | exact .inl (by decide) | exact .inr (by decide)), (by first | (refine Or.inl ?_; first | rfl | exact congrArg some (ints_ren _ _).symm | exact congrArg ABlk.own (ints_ren _ _).symm | exact congrArg (ABlk.row _ _) (ints_ren _ _).symm) | rfl | exact congrArg some (ints_ren _ _).symm | exact congrArg ABlk.own (ints_ren _ _).symm | exact congrArg (ABlk.row _ _) (ints_ren _ _).symm | exact Or.inr ⟨rfl, rfl⟩)⟩, ?_⟩))) (by first | rfl | exact congrArg AV.g (ints_ren _ _) | (simp [ints_ren, AV.ren, ABlk.ren, AC.ren, AE.ren, qq]; done)) ?_
          refine Wk.on ?_
          cases hlt : asc x y with
          | true =>
            refine Wk.on ?_
            refine Tr.draw (md := true) [⟨[], [34, 35, 36, 37, 38, 39, 40, 41, 42, 43, 44, 45, 46], [], [], []⟩, ⟨[], [33, 35, 36, 37, 38, 39, 40, 41, 42, 43, 44, 45, 46], [0], [], []⟩, ⟨[], [33, 34, 36, 37, 38, 39, 40, 41, 42, 43, 44, 45, 46, 47], [0, 1], [], [0]⟩, ⟨[], [33, 34, 35, 38, 39, 40, 41, 42, 43, 44, 45, 46, 47], [0, 1, 2], [], [0]⟩, ⟨[3], [33, 34, 35, 38, 39, 40, 41, 42, 43, 44, 45, 46, 47], [0, 1, 2], [], [0]⟩, ⟨[], [33, 34, 35, 36, 37, 39, 40, 43, 44, 45, 46], [0, 1, 2, 3, 4], [], []⟩, ⟨[], [33, 34, 35, 36, 37, 38, 43, 44, 45, 46], [0, 1, 2, 3, 4, 5], [], []⟩, ⟨[6], [33, 34, 35, 36, 37, 38, 43, 44, 45, 46], [0, 1, 2, 3, 4, 5], [], []⟩, ⟨[5, 6, 7], [33, 34, 35, 36, 37, 43, 44, 45, 46], [0, 1, 2, 3, 4], [], []⟩, ⟨[5, 6, 7, 8], [33, 34, 35, 36, 37, 43, 44, 45, 46], [0, 1, 2, 3, 4], [], []⟩, ⟨[], [33, 34, 35, 36, 37, 38, 39, 40, 41, 42, 44], [0, 1, 2, 3, 4, 5, 6, 7, 8, 9], [], []⟩, ⟨[], [33, 34, 35, 36, 37, 38, 39, 40, 41, 42, 43], [0, 1, 2, 3, 4, 5, 6, 7, 8, 9, 10], [], []⟩, ⟨[10, 11], [33, 34, 35, 36, 37, 38, 39, 40, 41, 42], [0, 1, 2, 3, 4, 5, 6, 7, 8, 9], [], []⟩, ⟨[10, 11, 12], [33, 34, 35, 36, 37, 38, 39, 40, 41, 42], [0, 1, 2, 3, 4, 5, 6, 7, 8, 9], [], []⟩, ⟨[0, 1, 5, 6, 7, 8, 9, 10, 11, 12, 13], [35, 36, 37], [2, 3, 4], [], []⟩, ⟨[0, 1, 5, 6, 7, 8, 9, 10, 11, 12, 13, 14], [35, 36, 37], [2, 3, 4], [0], []⟩] tok (by kernel_rfl) (by kernel_rfl) ?_
            refine Wk.on ?_
            refine ⟨⟨rfl, by rw [List.length_set]; omega⟩, ?_⟩
            refine Wk.on ?_
            refine Again.mk (A', y :: B) (Sub.nil ⟨rfl, rfl, (by simp), rfl, (by simp [tupA, hpLt, tmLt, AV.lt, AE.lt, AC.lt, LL_cons, LL_nil, idOk, ABlk.lt, ints_LL, GB]), (by simp [tupA, hpLt, tmLt, AV.lt, AE.lt, AC.lt, LL_cons, LL_nil, idOk, ABlk.lt, ints_LL, GB])⟩ ⟨rfl, rfl, rfl, rfl, by show AV.c (.int .i64 _) = AV.c (.int .i64 _); rw [hj]; congr 2; omega, trivial⟩ ⟨by show ABlk.row 3 1 (((ints V).set _ ((ints V).getD _ (.int .i64 0))).set _ ((ints V).getD _ (.int .i64 0))) = ABlk.row 3 1 (ints _); simp only [ints_getD, Nat.mul_one, Nat.zero_add, k1, k2, g1, g2, ints_set, hsw]; rfl, trivial⟩) ⟨by show A'.length + (y :: B).length = i; rw [hj, List.length_cons]; omega, by rw [← hin, insR, hlt]; simp, fun z hz => hA z (by simp [hz])⟩ (by show A'.length < j + 1; omega)
          | false =>
            refine Wk.on ?_
            refine Again.mk (i + 1) (Sub.nil ⟨rfl, rfl, (by simp), rfl, (by simp [tupA, hpLt, tmLt, AV.lt, AE.lt, AC.lt, LL_cons, LL_nil, idOk, ABlk.lt, ints_LL, GB]), (by simp [tupA, hpLt, tmLt, AV.lt, AE.lt, AC.lt, LL_cons, LL_nil, idOk, ABlk.lt, ints_LL, GB])⟩ (by (repeat (first | exact trivial | refine ⟨trivial, ?_⟩ | refine ⟨rfl, ?_⟩))) ⟨by show ABlk.row 3 1 (ints _) = ABlk.row 3 1 (ints _); rw [hsu, ← hin, insR, hlt]; simp [← hV], trivial⟩) (⟨by omega, by omega⟩) (by omega)
    · refine Wk.on ?_
      rw [decide_eq_false (show ¬ ((i : Nat) : Int) < ((L.length : Nat) : Int) by omega)]
      refine Wk.on ?_
      exact Fin.nil [(0, .row 3 1 (ints (isort asc L)))] ⟨rfl, rfl, rfl⟩ (by simp [tupA, AV.lt]) ⟨by show ABlk.row 3 1 (ints _) = ABlk.row 3 1 (ints _); rw [iS_full asc L (by omega)], trivial⟩ (by simp [tupA, hpLt, tmLt, AV.lt, AE.lt, AC.lt, LL_cons, LL_nil, idOk, ABlk.lt, ints_LL, GB]) rfl (by simp [GB])
theorem insortC_spec (L : List Int) (hL : L.length ≤ 1000) (hs : ∀ y ∈ L, 0 ≤ y ∧ y < 65536) : FDet Tryd.prog 94 [.c (.row 0 L.length), .c (.int .i64 0), .c (.int .i64 L.length), .c (.fn 73 [] [])] [(0, .row 3 1 (ints L))] 1 (.t []) [(0, .row 3 1 (ints (isort desc L)))] 1 := by
  refine FSpec.of_body tok true Tryd.func94 rfl (by kernel_rfl) (by decide) (by simp [tupA, hpLt, tmLt, AV.lt, AE.lt, AC.lt, LL_cons, LL_nil, idOk, ABlk.lt, ints_LL, GB]) (by simp [tupA, hpLt, tmLt, AV.lt, AE.lt, AC.lt, LL_cons, LL_nil, idOk, ABlk.lt, ints_LL, GB]) (by show 4 ≤ _; decide) ?_
  refine Wk.on ?_
  refine Tr.loop (md := true) (X := Nat) (st := fun i => ⟨[(0, .c (.row 0 L.length)), (1, .c (.int .i64 0)), (2, .c (.int .i64 L.length)), (3, .c (.fn 73 [] [])), (8, .c (.int .i64 i))], [(0, .row 3 1 (ints (iS desc L i)))], 1, 53, 1⟩) (inv := fun i => 1 ≤ i ∧ i ≤ 1001) (μ := fun i => 1001 - i) (x0 := 1) (l := []) tok ⟨by omega, by omega⟩ ?_ ?_
  · exact Sub.nil ⟨rfl, rfl, (by simp), rfl, (by simp [tupA, hpLt, tmLt, AV.lt, AE.lt, AC.lt, LL_cons, LL_nil, idOk, ABlk.lt, ints_LL, GB]), (by simp [tupA, hpLt, tmLt, AV.lt, AE.lt, AC.lt, LL_cons, LL_nil, idOk, ABlk.lt, ints_LL, GB])⟩ (by (repeat (first | exact trivial | refine ⟨trivial, ?_⟩ | refine ⟨rfl, ?_⟩))) ⟨by rw [iS_one]; rfl, trivial⟩
  · rintro i ⟨h1, h2⟩
    by_cases hi : i < L.length
    · obtain ⟨P, hP⟩ : ∃ P, P = (isortR desc (L.take i)).reverse := ⟨_, rfl⟩
      obtain ⟨x, hx⟩ : ∃ x, x = L[i] := ⟨_, rfl⟩
      obtain ⟨S, hS⟩ : ∃ S, S = L.drop (i + 1) := ⟨_, rfl⟩
      have hat := iS_at desc L hi
      have hsu := iS_succ desc L hi
      rw [← hP, ← hx, ← hS] at hat
      rw [← hx, ← hS] at hsu
      have hPl : P.length = i := by rw [hP, List.length_reverse, isortR_len, List.length_take]; omega
      have hSl : S.length + (i + 1) = L.length := by rw [hS, List.length_drop]; omega
      have hPr : isortR desc (L.take i) = P.reverse := by rw [hP, List.reverse_reverse]
      rw [hPr] at hsu
      have hmem : ∀ y ∈ P ++ x :: ([] ++ S), y ∈ L := fun y hy => by
        have hp : (P ++ x :: ([] ++ S)).Perm L := by
          rw [← hat, iS, hPr, List.reverse_reverse]
          have h3 : P.Perm (L.take i) := by rw [hP]; exact (List.reverse_perm _).trans (isortR_perm _ _)
          exact (h3.append_right _).trans (by rw [List.take_append_drop])
        exact hp.mem_iff.1 hy
      have hxL : x ∈ L := hmem x (by simp)
      rw [hat]
      clear hP hx hS hPr hat
      refine Wk.on ?_
      rw [decide_eq_true (show ((i : Nat) : Int) < ((L.length : Nat) : Int) by omega)]
      refine Wk.on ?_
      refine Tr.loop (md := true) (X := List Int × List Int) (st := fun q => ⟨[(0, .c (.row 0 L.length)), (1, .c (.int .i64 0)), (2, .c (.int .i64 L.length)), (3, .c (.fn 73 [] [])), (8, .c (.int .i64 i)), (9, .c (.int .i64 q.1.length))], [(0, .row 3 1 (ints (q.1 ++ x :: (q.2 ++ S))))], 1, 53, 1⟩) (inv := fun q => q.1.length + q.2.length = i ∧ (insR desc x q.1.reverse).reverse ++ q.2 = (insR desc x P.reverse).reverse ∧ ∀ y ∈ q.1, y ∈ L) (μ := fun q => q.1.length) (x0 := (P, [])) (l := []) tok ⟨by simp [hPl], by simp, fun y hy => hmem y (List.mem_append_left _ hy)⟩ ?_ ?_
      · exact Sub.nil ⟨rfl, rfl, (by simp), rfl, (by simp [tupA, hpLt, tmLt, AV.lt, AE.lt, AC.lt, LL_cons, LL_nil, idOk, ABlk.lt, ints_LL, GB]), (by simp [tupA, hpLt, tmLt, AV.lt, AE.lt, AC.lt, LL_cons, LL_nil, idOk, ABlk.lt, ints_LL, GB])⟩ ⟨rfl, rfl, rfl, rfl, rfl, by rw [hPl]; rfl, trivial⟩ (by (repeat (first | exact trivial | refine ⟨trivial, ?_⟩ | refine ⟨rfl, ?_⟩)))
      · rintro ⟨A, B⟩ ⟨hl, hin, hA⟩
        dsimp only at hl hin hA ⊢
        by_cases hA0 : A = []
        · subst hA0
          refine Wk.on ?_
          refine Tr.draw (md := true) [⟨[], [19], [], [], []⟩, ⟨[], [18], [0], [], []⟩, ⟨[0, 1], [], [], [], []⟩, ⟨[0, 1, 2], [], [], [], []⟩, ⟨[0, 1, 2, 3], [23, 24, 25, 26, 27, 28, 29, 30, 31], [], [], []⟩, ⟨[0, 1, 2, 3], [22, 24, 27, 28, 29, 30, 31], [4], [], []⟩, ⟨[0, 1, 2, 3], [22, 23, 27, 28, 29, 30, 31], [4, 5], [], []⟩, ⟨[0, 1, 2, 3, 5, 6], [22, 27, 28, 29, 30, 31], [4], [], []⟩, ⟨[0, 1, 2, 3, 5, 6, 7], [22, 27, 28, 29, 30, 31], [4], [], []⟩, ⟨[0, 1, 2, 3], [22, 23, 24, 25, 26, 28, 29], [4, 5, 6, 7, 8], [], []⟩, ⟨[0, 1, 2, 3], [22, 23, 24, 25, 26, 27], [4, 5, 6, 7, 8, 9], [], []⟩, ⟨[0, 1, 2, 3, 10], [22, 23, 24, 25, 26, 27], [4, 5, 6, 7, 8, 9], [], []⟩, ⟨[0, 1, 2, 3, 9, 10, 11], [22, 23, 24, 25, 26], [4, 5, 6, 7, 8], [], []⟩, ⟨[0, 1, 2, 3, 9, 10, 11, 12], [22, 23, 24, 25, 26], [4, 5, 6, 7, 8], [], []⟩] tok (by kernel_rfl) (by kernel_rfl) ?_
          refine Wk.on ?_
          refine Again.mk (i + 1) (Sub.nil ⟨rfl, rfl, (by simp), rfl, (by simp [tupA, hpLt, tmLt, AV.lt, AE.lt, AC.lt, LL_cons, LL_nil, idOk, ABlk.lt, ints_LL, GB]), (by simp [tupA, hpLt, tmLt, AV.lt, AE.lt, AC.lt, LL_cons, LL_nil, idOk, ABlk.lt, ints_LL, GB])⟩ (by (repeat (first | exact trivial | refine ⟨trivial, ?_⟩ | refine ⟨rfl, ?_⟩))) ⟨by show ABlk.row 3 1 (ints _) = ABlk.row 3 1 (ints _); rw [hsu, ← hin]; simp [insR], trivial⟩) (⟨by omega, by omega⟩) (by omega)
        · obtain ⟨A', y, rfl⟩ : ∃ A' y, A = A' ++ [y] := ⟨A.dropLast, A.getLast hA0, (List.dropLast_concat_getLast hA0).symm⟩
          rw [List.length_append, List.length_singleton] at hl
          have hlen : (ints (A' ++ [y] ++ x :: (B ++ S))).length = L.length := by simp [ints_len]; omega
          obtain ⟨g1, g2⟩ := get_x A' y x (B ++ S)
          have hsw := swap_eq A' y x (B ++ S)
          have e1 : (A' ++ [y]).length = A'.length + 1 := by simp
          have hyL : y ∈ L := hA y (by simp)
          have hr1 : (A' ++ [y]).reverse = y :: A'.reverse := by simp
          have k1 : (((A'.length + 1 : Nat) : Int)).toNat = A'.length + 1 := Int.toNat_natCast _
          have k2 : (((A'.length + 1 : Nat) : Int) - 1).toNat = A'.length := by omega
          rw [hr1] at hin
          rw [e1]
          generalize hj : A'.length = j at *
          generalize hV : A' ++ [y] ++ x :: (B ++ S) = V at *
          have hb1 : (0 : Int) ≤ ((j + 1 : Nat) : Int) ∧ ((j + 1 : Nat) : Int) < ((L.length : Nat) : Int) := by omega
          have hb2 : (0 : Int) ≤ ((j + 1 : Nat) : Int) - 1 ∧ ((j + 1 : Nat) : Int) - 1 < ((L.length : Nat) : Int) := by omega
          refine Wk.on ?_
          refine Tr.draw (md := true) [⟨[], [19], [], [], []⟩, ⟨[], [18], [0], [], []⟩, ⟨[0, 1], [], [], [], []⟩, ⟨[0, 1, 2], [], [], [], []⟩, ⟨[0, 1, 2, 3], [23, 24, 25, 26, 27, 28, 29, 30, 31], [], [], []⟩, ⟨[0, 1, 2, 3], [22, 24, 27, 28, 29, 30, 31], [4], [], []⟩, ⟨[0, 1, 2, 3], [22, 23, 27, 28, 29, 30, 31], [4, 5], [], []⟩, ⟨[0, 1, 2, 3, 5, 6], [22, 27, 28, 29, 30, 31], [4], [], []⟩, ⟨[0, 1, 2, 3, 5, 6, 7], [22, 27, 28, 29, 30, 31], [4], [], []⟩, ⟨[0, 1, 2, 3], [22, 23, 24, 25, 26, 28, 29], [4, 5, 6, 7, 8], [], []⟩, ⟨[0, 1, 2, 3], [22, 23, 24, 25, 26, 27], [4, 5, 6, 7, 8, 9], [], []⟩, ⟨[0, 1, 2, 3, 10], [22, 23, 24, 25, 26, 27], [4, 5, 6, 7, 8, 9], [], []⟩, ⟨[0, 1, 2, 3, 9, 10, 11], [22, 23, 24, 25, 26], [4, 5, 6, 7, 8], [], []⟩, ⟨[0, 1, 2, 3, 9, 10, 11, 12], [22, 23, 24, 25, 26], [4, 5, 6, 7, 8], [], []⟩] tok (by kernel_rfl) (by kernel_rfl) ?_
          refine Wk.on ?_
          rw [decide_eq_true (show (0 : Int) < ((j + 1 : Nat) : Int) by omega)]
          refine Wk.on ?_
          simp only [ints_getD, Nat.mul_one, Nat.zero_add, k1, k2, g1, g2]
          obtain ⟨⟨xn, rfl⟩, ⟨yn, rfl⟩⟩ : (∃ xn : Nat, x = xn) ∧ ∃ yn : Nat, y = yn := ⟨⟨x.toNat, by have := hs x hxL; omega⟩, ⟨y.toNat, by have := hs y hyL; omega⟩⟩
          have hxs := hs _ hxL
          have hys := hs _ hyL
          refine CallA.ro [] (.c (.int .i64 ((yn : Int) - xn))) (tidied1_spec xn yn (by omega) (by omega)) (by first | rfl | exact congrArg AV.g (ints_ren _ _) | (simp [ints_ren, AV.ren, ABlk.ren, AC.ren, AE.ren, qq]; done)) rfl (by (repeat (first | exact trivial | refine ⟨⟨(by first | exact .inl (by decide) | exact .inr (by decide)), (by first | (refine Or.inl ?_; first | rfl | exact congrArg some (ints_ren _ _).symm | exact congrArg ABlk.own (ints_ren _ _).symm | exact congrArg (ABlk.row _ _) (ints_ren _ _).symm) | rfl | exact congrArg some (ints_ren _ _).symm | exact congrArg ABlk.own (ints_ren _ _).symm | exact congrArg (ABlk.row _ _) (ints_ren _ _).symm | exact Or.inr ⟨rfl, rfl⟩)⟩, ?_⟩))) (by first | rfl | exact congrArg AV.g (ints_ren _ _) | (simp [ints_ren, AV.ren, ABlk.ren, AC.ren, AE.ren, qq]; done)) ?_
          have hlt0 : decide (((yn : Nat) : Int) - ((xn : Nat) : Int) < 0) = desc xn yn := decide_eq_decide.2 (by omega)
          generalize (xn : Int) = x at *
          generalize (yn : Int) = y at *
          refine Wk.on ?_
          rw [hlt0]
          refine Wk.on ?_
          cases hlt : desc x y with
          | true =>
            refine Wk.on ?_
            refine Tr.draw (md := true) [⟨[], [38, 39, 40, 41, 42, 43, 44, 45, 46, 47, 48, 49, 50], [], [], []⟩, ⟨[], [37, 39, 40, 41, 42, 43, 44, 45, 46, 47, 48, 49, 50], [0], [], []⟩, ⟨[], [37, 38, 40, 41, 42, 43, 44, 45, 46, 47, 48, 49, 50, 51], [0, 1], [], [0]⟩, ⟨[], [37, 38, 39, 42, 43, 44, 45, 46, 47, 48, 49, 50, 51], [0, 1, 2], [], [0]⟩, ⟨[3], [37, 38, 39, 42, 43, 44, 45, 46, 47, 48, 49, 50, 51], [0, 1, 2], [], [0]⟩, ⟨[], [37, 38, 39, 40, 41, 43, 44, 47, 48, 49, 50], [0, 1, 2, 3, 4], [], []⟩, ⟨[], [37, 38, 39, 40, 41, 42, 47, 48, 49, 50], [0, 1, 2, 3, 4, 5], [], []⟩, ⟨[6], [37, 38, 39, 40, 41, 42, 47, 48, 49, 50], [0, 1, 2, 3, 4, 5], [], []⟩, ⟨[5, 6, 7], [37, 38, 39, 40, 41, 47, 48, 49, 50], [0, 1, 2, 3, 4], [], []⟩, ⟨[5, 6, 7, 8], [37, 38, 39, 40, 41, 47, 48, 49, 50], [0, 1, 2, 3, 4], [], []⟩, ⟨[], [37, 38, 39, 40, 41, 42, 43, 44, 45, 46, 48], [0, 1, 2, 3, 4, 5, 6, 7, 8, 9], [], []⟩, ⟨[], [37, 38, 39, 40, 41, 42, 43, 44, 45, 46, 47], [0, 1, 2, 3, 4, 5, 6, 7, 8, 9, 10], [], []⟩, ⟨[10, 11], [37, 38, 39, 40, 41, 42, 43, 44, 45, 46], [0, 1, 2, 3, 4, 5, 6, 7, 8, 9], [], []⟩, ⟨[10, 11, 12], [37, 38, 39, 40, 41, 42, 43, 44, 45, 46], [0, 1, 2, 3, 4, 5, 6, 7, 8, 9], [], []⟩, ⟨[0, 1, 5, 6, 7, 8, 9, 10, 11, 12, 13], [39, 40, 41], [2, 3, 4], [], []⟩, ⟨[0, 1, 5, 6, 7, 8, 9, 10, 11, 12, 13, 14], [39, 40, 41], [2, 3, 4], [0], []⟩] tok (by kernel_rfl) (by kernel_rfl) ?_
            refine Wk.on ?_
            refine ⟨⟨rfl, by rw [List.length_set]; omega⟩, ?_⟩
            refine Wk.on ?_
            refine Again.mk (A', y :: B) (Sub.nil ⟨rfl, rfl, (by simp), rfl, (by simp [tupA, hpLt, tmLt, AV.lt, AE.lt, AC.lt, LL_cons, LL_nil, idOk, ABlk.lt, ints_LL, GB]), (by simp [tupA, hpLt, tmLt, AV.lt, AE.lt, AC.lt, LL_cons, LL_nil, idOk, ABlk.lt, ints_LL, GB])⟩ ⟨rfl, rfl, rfl, rfl, rfl, by show AV.c (.int .i64 _) = AV.c (.int .i64 _); rw [hj]; congr 2; omega, trivial⟩ ⟨by show ABlk.row 3 1 (((ints V).set _ ((ints V).getD _ (.int .i64 0))).set _ ((ints V).getD _ (.int .i64 0))) = ABlk.row 3 1 (ints _); simp only [ints_getD, Nat.mul_one, Nat.zero_add, k1, k2, g1, g2, ints_set, hsw]; rfl, trivial⟩) ⟨by show A'.length + (y :: B).length = i; rw [hj, List.length_cons]; omega, by rw [← hin, insR, hlt]; simp, fun z hz => hA z (by simp [hz])⟩ (by show A'.length < j + 1; omega)
          | false =>
            refine Wk.on ?_
            refine Again.mk (i + 1) (Sub.nil ⟨rfl, rfl, (by simp), rfl, (by simp [tupA, hpLt, tmLt, AV.lt, AE.lt, AC.lt, LL_cons, LL_nil, idOk, ABlk.lt, ints_LL, GB]), (by simp [tupA, hpLt, tmLt, AV.lt, AE.lt, AC.lt, LL_cons, LL_nil, idOk, ABlk.lt, ints_LL, GB])⟩ (by (repeat (first | exact trivial | refine ⟨trivial, ?_⟩ | refine ⟨rfl, ?_⟩))) ⟨by show ABlk.row 3 1 (ints _) = ABlk.row 3 1 (ints _); rw [hsu, ← hin, insR, hlt]; simp [← hV], trivial⟩) (⟨by omega, by omega⟩) (by omega)
    · refine Wk.on ?_
      rw [decide_eq_false (show ¬ ((i : Nat) : Int) < ((L.length : Nat) : Int) by omega)]
      refine Wk.on ?_
      exact Fin.nil [(0, .row 3 1 (ints (isort desc L)))] ⟨rfl, rfl, rfl⟩ (by simp [tupA, AV.lt]) ⟨by show ABlk.row 3 1 (ints _) = ABlk.row 3 1 (ints _); rw [iS_full desc L (by omega)], trivial⟩ (by simp [tupA, hpLt, tmLt, AV.lt, AE.lt, AC.lt, LL_cons, LL_nil, idOk, ABlk.lt, ints_LL, GB]) rfl (by simp [GB])

theorem pdqO_spec (L : List Int) (hL : L.length ≤ 12) (m : Nat) : FDet Tryd.prog 88 [.c (.row 0 L.length), .c (.int .i64 0), .c (.int .i64 L.length), .c (.int .i64 m)] [(0, .row 3 1 (ints L))] 1 (.t []) [(0, .row 3 1 (ints (isort asc L)))] 1 := by
  refine FSpec.of_body tok true Tryd.func88 rfl (by kernel_rfl) (by decide) (by simp [tupA, hpLt, tmLt, AV.lt, AE.lt, AC.lt, LL_cons, LL_nil, idOk, ABlk.lt, ints_LL, GB]) (by simp [tupA, hpLt, tmLt, AV.lt, AE.lt, AC.lt, LL_cons, LL_nil, idOk, ABlk.lt, ints_LL, GB]) (by show 4 ≤ _; decide) ?_
  refine Wk.on ?_
  refine Tr.loop (md := true) (X := Unit) (st := fun _ => ⟨[(0, .c (.row 0 L.length)), (1, .c (.int .i64 0)), (2, .c (.int .i64 L.length))], [(0, .row 3 1 (ints L))], 1, 134, 1⟩) (inv := fun _ => True) (μ := fun _ => 0) (x0 := ()) (l := []) tok trivial ?_ ?_
  · exact Sub.nil ⟨rfl, rfl, (by simp), rfl, (by simp [tupA, hpLt, tmLt, AV.lt, AE.lt, AC.lt, LL_cons, LL_nil, idOk, ABlk.lt, ints_LL, GB]), (by simp [tupA, hpLt, tmLt, AV.lt, AE.lt, AC.lt, LL_cons, LL_nil, idOk, ABlk.lt, ints_LL, GB])⟩ (by (repeat (first | exact trivial | refine ⟨trivial, ?_⟩ | refine ⟨rfl, ?_⟩))) (by (repeat (first | exact trivial | refine ⟨trivial, ?_⟩ | refine ⟨rfl, ?_⟩)))
  · intro _ _
    refine Wk.on ?_
    rw [decide_eq_true (show ((L.length : Nat) : Int) - 0 ≤ 12 by omega)]
    refine Wk.on ?_
    refine CallA.det [0] (.t []) ([(0, .row 3 1 (ints (isort asc L)))]) (insort_spec L (by omega)) (by first | rfl | exact congrArg AV.g (ints_ren _ _) | (simp [ints_ren, AV.ren, ABlk.ren, AC.ren, AE.ren, qq]; done)) rfl (by (repeat (first | exact trivial | refine ⟨⟨(by first | exact .inl (by decide) | exact .inr (by decide)), (by first | (refine Or.inl ?_; first | rfl | exact congrArg some (ints_ren _ _).symm | exact congrArg ABlk.own (ints_ren _ _).symm | exact congrArg (ABlk.row _ _) (ints_ren _ _).symm) | rfl | exact congrArg some (ints_ren _ _).symm | exact congrArg ABlk.own (ints_ren _ _).symm | exact congrArg (ABlk.row _ _) (ints_ren _ _).symm | exact Or.inr ⟨rfl, rfl⟩)⟩, ?_⟩))) (by first | rfl | exact congrArg AV.g (ints_ren _ _) | (simp [ints_ren, AV.ren, ABlk.ren, AC.ren, AE.ren, qq]; done)) (by first | rfl | (simp [behind, gone, lk, up, del, qq, ABlk.wr, GB, ints_ren, AV.ren, ABlk.ren, AC.ren, AE.ren]; done) | (simp [behind, gone, lk, up, del, qq, ABlk.wr, GB, ints_ren, AV.ren, ABlk.ren, AC.ren, AE.ren]; rfl)) ?_
    refine Wk.on ?_
    exact Fin.nil [(0, .row 3 1 (ints (isort asc L)))] ⟨rfl, rfl, rfl⟩ (by simp [tupA, AV.lt]) ⟨rfl, trivial⟩ (by simp [tupA, hpLt, tmLt, AV.lt, AE.lt, AC.lt, LL_cons, LL_nil, idOk, ABlk.lt, ints_LL, GB]) rfl (by simp [GB])
theorem Sort_spec (L : List Int) (hL : L.length ≤ 12) : FDet Tryd.prog 74 [.c (.row 0 L.length)] [(0, .row 3 1 (ints L))] 1 (.t []) [(0, .row 3 1 (ints (isort asc L)))] 1 := by
  have hw : IntKind.u64.wrap (L.length : Int) = L.length := wrapU (by omega)
  refine FSpec.of_body tok true Tryd.func74 rfl (by kernel_rfl) (by decide) (by simp [tupA, hpLt, tmLt, AV.lt, AE.lt, AC.lt, LL_cons, LL_nil, idOk, ABlk.lt, ints_LL, GB]) (by simp [tupA, hpLt, tmLt, AV.lt, AE.lt, AC.lt, LL_cons, LL_nil, idOk, ABlk.lt, ints_LL, GB]) (by show 1 ≤ _; decide) ?_
  refine Wk.on ?_
  rw [hw]
  refine CallA.ro [] (.c (.int .i64 (lenN L.length))) (len_spec (n := L.length) (by omega)) (by first | rfl | exact congrArg AV.g (ints_ren _ _) | (simp [ints_ren, AV.ren, ABlk.ren, AC.ren, AE.ren, qq]; done)) rfl (by (repeat (first | exact trivial | refine ⟨⟨(by first | exact .inl (by decide) | exact .inr (by decide)), (by first | (refine Or.inl ?_; first | rfl | exact congrArg some (ints_ren _ _).symm | exact congrArg ABlk.own (ints_ren _ _).symm | exact congrArg (ABlk.row _ _) (ints_ren _ _).symm) | rfl | exact congrArg some (ints_ren _ _).symm | exact congrArg ABlk.own (ints_ren _ _).symm | exact congrArg (ABlk.row _ _) (ints_ren _ _).symm | exact Or.inr ⟨rfl, rfl⟩)⟩, ?_⟩))) (by first | rfl | exact congrArg AV.g (ints_ren _ _) | (simp [ints_ren, AV.ren, ABlk.ren, AC.ren, AE.ren, qq]; done)) ?_
  refine Wk.on ?_
  refine CallA.det [0] (.t []) ([(0, .row 3 1 (ints (isort asc L)))]) (pdqO_spec L hL (lenN L.length)) (by first | rfl | exact congrArg AV.g (ints_ren _ _) | (simp [ints_ren, AV.ren, ABlk.ren, AC.ren, AE.ren, qq]; done)) rfl (by (repeat (first | exact trivial | refine ⟨⟨(by first | exact .inl (by decide) | exact .inr (by decide)), (by first | (refine Or.inl ?_; first | rfl | exact congrArg some (ints_ren _ _).symm | exact congrArg ABlk.own (ints_ren _ _).symm | exact congrArg (ABlk.row _ _) (ints_ren _ _).symm) | rfl | exact congrArg some (ints_ren _ _).symm | exact congrArg ABlk.own (ints_ren _ _).symm | exact congrArg (ABlk.row _ _) (ints_ren _ _).symm | exact Or.inr ⟨rfl, rfl⟩)⟩, ?_⟩))) (by first | rfl | exact congrArg AV.g (ints_ren _ _) | (simp [ints_ren, AV.ren, ABlk.ren, AC.ren, AE.ren, qq]; done)) (by first | rfl | (simp [behind, gone, lk, up, del, qq, ABlk.wr, GB, ints_ren, AV.ren, ABlk.ren, AC.ren, AE.ren]; done) | (simp [behind, gone, lk, up, del, qq, ABlk.wr, GB, ints_ren, AV.ren, ABlk.ren, AC.ren, AE.ren]; rfl)) ?_
  refine Wk.on ?_
  exact Fin.nil [(0, .row 3 1 (ints (isort asc L)))] ⟨rfl, rfl, rfl⟩ (by simp [tupA, AV.lt]) ⟨rfl, trivial⟩ (by simp [tupA, hpLt, tmLt, AV.lt, AE.lt, AC.lt, LL_cons, LL_nil, idOk, ABlk.lt, ints_LL, GB]) rfl (by simp [GB])
theorem pdqC_spec (L : List Int) (hL : L.length ≤ 12) (hs : ∀ y ∈ L, 0 ≤ y ∧ y < 65536) (m : Nat) : FDet Tryd.prog 87 [.c (.row 0 L.length), .c (.int .i64 0), .c (.int .i64 L.length), .c (.int .i64 m), .c (.fn 73 [] [])] [(0, .row 3 1 (ints L))] 1 (.t []) [(0, .row 3 1 (ints (isort desc L)))] 1 := by
  refine FSpec.of_body tok true Tryd.func87 rfl (by kernel_rfl) (by decide) (by simp [tupA, hpLt, tmLt, AV.lt, AE.lt, AC.lt, LL_cons, LL_nil, idOk, ABlk.lt, ints_LL, GB]) (by simp [tupA, hpLt, tmLt, AV.lt, AE.lt, AC.lt, LL_cons, LL_nil, idOk, ABlk.lt, ints_LL, GB]) (by show 5 ≤ _; decide) ?_
  refine Wk.on ?_
  refine Tr.loop (md := true) (X := Unit) (st := fun _ => ⟨[(0, .c (.row 0 L.length)), (1, .c (.int .i64 0)), (2, .c (.int .i64 L.length)), (4, .c (.fn 73 [] []))], [(0, .row 3 1 (ints L))], 1, 148, 1⟩) (inv := fun _ => True) (μ := fun _ => 0) (x0 := ()) (l := []) tok trivial ?_ ?_
  · exact Sub.nil ⟨rfl, rfl, (by simp), rfl, (by simp [tupA, hpLt, tmLt, AV.lt, AE.lt, AC.lt, LL_cons, LL_nil, idOk, ABlk.lt, ints_LL, GB]), (by simp [tupA, hpLt, tmLt, AV.lt, AE.lt, AC.lt, LL_cons, LL_nil, idOk, ABlk.lt, ints_LL, GB])⟩ (by (repeat (first | exact trivial | refine ⟨trivial, ?_⟩ | refine ⟨rfl, ?_⟩))) (by (repeat (first | exact trivial | refine ⟨trivial, ?_⟩ | refine ⟨rfl, ?_⟩)))
  · intro _ _
    refine Wk.on ?_
    rw [decide_eq_true (show ((L.length : Nat) : Int) - 0 ≤ 12 by omega)]
    refine Wk.on ?_
    refine CallA.det [0] (.t []) ([(0, .row 3 1 (ints (isort desc L)))]) (insortC_spec L (by omega) hs) (by first | rfl | exact congrArg AV.g (ints_ren _ _) | (simp [ints_ren, AV.ren, ABlk.ren, AC.ren, AE.ren, qq]; done)) rfl (by (repeat (first | exact trivial | refine ⟨⟨(by first | exact .inl (by decide) | exact .inr (by decide)), (by first | (refine Or.inl ?_; first | rfl | exact congrArg some (ints_ren _ _).symm | exact congrArg ABlk.own (ints_ren _ _).symm | exact congrArg (ABlk.row _ _) (ints_ren _ _).symm) | rfl | exact congrArg some (ints_ren _ _).symm | exact congrArg ABlk.own (ints_ren _ _).symm | exact congrArg (ABlk.row _ _) (ints_ren _ _).symm | exact Or.inr ⟨rfl, rfl⟩)⟩, ?_⟩))) (by first | rfl | exact congrArg AV.g (ints_ren _ _) | (simp [ints_ren, AV.ren, ABlk.ren, AC.ren, AE.ren, qq]; done)) (by first | rfl | (simp [behind, gone, lk, up, del, qq, ABlk.wr, GB, ints_ren, AV.ren, ABlk.ren, AC.ren, AE.ren]; done) | (simp [behind, gone, lk, up, del, qq, ABlk.wr, GB, ints_ren, AV.ren, ABlk.ren, AC.ren, AE.ren]; rfl)) ?_
    refine Wk.on ?_
    exact Fin.nil [(0, .row 3 1 (ints (isort desc L)))] ⟨rfl, rfl, rfl⟩ (by simp [tupA, AV.lt]) ⟨rfl, trivial⟩ (by simp [tupA, hpLt, tmLt, AV.lt, AE.lt, AC.lt, LL_cons, LL_nil, idOk, ABlk.lt, ints_LL, GB]) rfl (by simp [GB])
theorem SortFunc_spec (L : List Int) (hL : L.length ≤ 12) (hs : ∀ y ∈ L, 0 ≤ y ∧ y < 65536) : FDet Tryd.prog 72 [.c (.row 0 L.length), .c (.fn 73 [] [])] [(0, .row 3 1 (ints L))] 1 (.t []) [(0, .row 3 1 (ints (isort desc L)))] 1 := by
  have hw : IntKind.u64.wrap (L.length : Int) = L.length := wrapU (by omega)
  refine FSpec.of_body tok true Tryd.func72 rfl (by kernel_rfl) (by decide) (by simp [tupA, hpLt, tmLt, AV.lt, AE.lt, AC.lt, LL_cons, LL_nil, idOk, ABlk.lt, ints_LL, GB]) (by simp [tupA, hpLt, tmLt, AV.lt, AE.lt, AC.lt, LL_cons, LL_nil, idOk, ABlk.lt, ints_LL, GB]) (by show 2 ≤ _; decide) ?_
  refine Wk.on ?_
  rw [hw]
  refine CallA.ro [] (.c (.int .i64 (lenN L.length))) (len_spec (n := L.length) (by omega)) (by first | rfl | exact congrArg AV.g (ints_ren _ _) | (simp [ints_ren, AV.ren, ABlk.ren, AC.ren, AE.ren, qq]; done)) rfl (by (repeat (first | exact trivial | refine ⟨⟨(by first | exact .inl (by decide) | exact .inr (by decide)), (by first | (refine Or.inl ?_; first | rfl | exact congrArg some (ints_ren _ _).symm | exact congrArg ABlk.own (ints_ren _ _).symm | exact congrArg (ABlk.row _ _) (ints_ren _ _).symm) | rfl | exact congrArg some (ints_ren _ _).symm | exact congrArg ABlk.own (ints_ren _ _).symm | exact congrArg (ABlk.row _ _) (ints_ren _ _).symm | exact Or.inr ⟨rfl, rfl⟩)⟩, ?_⟩))) (by first | rfl | exact congrArg AV.g (ints_ren _ _) | (simp [ints_ren, AV.ren, ABlk.ren, AC.ren, AE.ren, qq]; done)) ?_
  refine Wk.on ?_
  refine CallA.det [0] (.t []) ([(0, .row 3 1 (ints (isort desc L)))]) (pdqC_spec L hL hs (lenN L.length)) (by first | rfl | exact congrArg AV.g (ints_ren _ _) | (simp [ints_ren, AV.ren, ABlk.ren, AC.ren, AE.ren, qq]; done)) rfl (by (repeat (first | exact trivial | refine ⟨⟨(by first | exact .inl (by decide) | exact .inr (by decide)), (by first | (refine Or.inl ?_; first | rfl | exact congrArg some (ints_ren _ _).symm | exact congrArg ABlk.own (ints_ren _ _).symm | exact congrArg (ABlk.row _ _) (ints_ren _ _).symm) | rfl | exact congrArg some (ints_ren _ _).symm | exact congrArg ABlk.own (ints_ren _ _).symm | exact congrArg (ABlk.row _ _) (ints_ren _ _).symm | exact Or.inr ⟨rfl, rfl⟩)⟩, ?_⟩))) (by first | rfl | exact congrArg AV.g (ints_ren _ _) | (simp [ints_ren, AV.ren, ABlk.ren, AC.ren, AE.ren, qq]; done)) (by first | rfl | (simp [behind, gone, lk, up, del, qq, ABlk.wr, GB, ints_ren, AV.ren, ABlk.ren, AC.ren, AE.ren]; done) | (simp [behind, gone, lk, up, del, qq, ABlk.wr, GB, ints_ren, AV.ren, ABlk.ren, AC.ren, AE.ren]; rfl)) ?_
  refine Wk.on ?_
  exact Fin.nil [(0, .row 3 1 (ints (isort desc L)))] ⟨rfl, rfl, rfl⟩ (by simp [tupA, AV.lt]) ⟨rfl, trivial⟩ (by simp [tupA, hpLt, tmLt, AV.lt, AE.lt, AC.lt, LL_cons, LL_nil, idOk, ABlk.lt, ints_LL, GB]) rfl (by simp [GB])
theorem insort_nil : FDet Tryd.prog 102 [.c .nils, .c (.int .i64 0), .c (.int .i64 0)] [] 0 (.t []) [] 0 := by
  refine FSpec.of_body tok true Tryd.func102 rfl (by kernel_rfl) (by decide) (by simp [tupA, hpLt, tmLt, AV.lt, AE.lt, AC.lt, LL_cons, LL_nil, idOk, ABlk.lt, ints_LL, GB]) (by simp [tupA, hpLt, tmLt, AV.lt, AE.lt, AC.lt, LL_cons, LL_nil, idOk, ABlk.lt, ints_LL, GB]) (by show 3 ≤ _; decide) ?_
  refine Wk.on ?_
  refine Tr.loop (md := true) (X := Unit) (st := fun _ => ⟨[(0, .c .nils), (1, .c (.int .i64 0)), (2, .c (.int .i64 0)), (6, .c (.int .i64 1))], [], 0, 49, 0⟩) (inv := fun _ => True) (μ := fun _ => 0) (x0 := ()) (l := []) tok trivial ?_ ?_
  · exact Sub.nil ⟨rfl, rfl, (by simp), rfl, (by simp [tupA, hpLt, tmLt, AV.lt, AE.lt, AC.lt, LL_cons, LL_nil, idOk, ABlk.lt, ints_LL, GB]), (by simp [tupA, hpLt, tmLt, AV.lt, AE.lt, AC.lt, LL_cons, LL_nil, idOk, ABlk.lt, ints_LL, GB])⟩ (by (repeat (first | exact trivial | refine ⟨trivial, ?_⟩ | refine ⟨rfl, ?_⟩))) (by (repeat (first | exact trivial | refine ⟨trivial, ?_⟩ | refine ⟨rfl, ?_⟩)))
  · intro _ _
    refine Wk.on ?_
    exact AH.Fin.nil [] ⟨rfl, rfl, rfl⟩ (by first | exact trivial | (simp [tupA, hpLt, tmLt, AV.lt, AE.lt, AC.lt, LL_cons, LL_nil, idOk, ABlk.lt, ints_LL, GB]; done) | (simp [tupA, hpLt, tmLt, AV.lt, AE.lt, AC.lt, LL_cons, LL_nil, idOk, ABlk.lt, ints_LL, GB, rdn, wrn]; done)) trivial trivial rfl (by simp [GB])
theorem pdqO_nil : FDet Tryd.prog 88 [.c .nils, .c (.int .i64 0), .c (.int .i64 0), .c (.int .i64 0)] [] 0 (.t []) [] 0 := by
  refine FSpec.of_body tok true Tryd.func88 rfl (by kernel_rfl) (by decide) (by simp [tupA, hpLt, tmLt, AV.lt, AE.lt, AC.lt, LL_cons, LL_nil, idOk, ABlk.lt, ints_LL, GB]) (by simp [tupA, hpLt, tmLt, AV.lt, AE.lt, AC.lt, LL_cons, LL_nil, idOk, ABlk.lt, ints_LL, GB]) (by show 4 ≤ _; decide) ?_
  refine Wk.on ?_
  refine Tr.loop (md := true) (X := Unit) (st := fun _ => ⟨[(0, .c .nils), (1, .c (.int .i64 0)), (2, .c (.int .i64 0))], [], 0, 134, 0⟩) (inv := fun _ => True) (μ := fun _ => 0) (x0 := ()) (l := []) tok trivial ?_ ?_
  · exact Sub.nil ⟨rfl, rfl, (by simp), rfl, (by simp [tupA, hpLt, tmLt, AV.lt, AE.lt, AC.lt, LL_cons, LL_nil, idOk, ABlk.lt, ints_LL, GB]), (by simp [tupA, hpLt, tmLt, AV.lt, AE.lt, AC.lt, LL_cons, LL_nil, idOk, ABlk.lt, ints_LL, GB])⟩ (by (repeat (first | exact trivial | refine ⟨trivial, ?_⟩ | refine ⟨rfl, ?_⟩))) (by (repeat (first | exact trivial | refine ⟨trivial, ?_⟩ | refine ⟨rfl, ?_⟩)))
  · intro _ _
    refine Wk.on ?_
    refine CallA.ro [] (.t []) (insort_nil) (by first | rfl | exact congrArg AV.g (ints_ren _ _) | (simp [ints_ren, AV.ren, ABlk.ren, AC.ren, AE.ren, qq]; done)) rfl (by (repeat (first | exact trivial | refine ⟨⟨(by first | exact .inl (by decide) | exact .inr (by decide)), (by first | (refine Or.inl ?_; first | rfl | exact congrArg some (ints_ren _ _).symm | exact congrArg ABlk.own (ints_ren _ _).symm | exact congrArg (ABlk.row _ _) (ints_ren _ _).symm) | rfl | exact congrArg some (ints_ren _ _).symm | exact congrArg ABlk.own (ints_ren _ _).symm | exact congrArg (ABlk.row _ _) (ints_ren _ _).symm | exact Or.inr ⟨rfl, rfl⟩)⟩, ?_⟩))) (by first | rfl | exact congrArg AV.g (ints_ren _ _) | (simp [ints_ren, AV.ren, ABlk.ren, AC.ren, AE.ren, qq]; done)) ?_
    refine Wk.on ?_
    exact AH.Fin.nil [] ⟨rfl, rfl, rfl⟩ (by first | exact trivial | (simp [tupA, hpLt, tmLt, AV.lt, AE.lt, AC.lt, LL_cons, LL_nil, idOk, ABlk.lt, ints_LL, GB]; done) | (simp [tupA, hpLt, tmLt, AV.lt, AE.lt, AC.lt, LL_cons, LL_nil, idOk, ABlk.lt, ints_LL, GB, rdn, wrn]; done)) trivial trivial rfl (by simp [GB])
theorem Sort_nil : FDet Tryd.prog 74 [.c .nils] [] 0 (.t []) [] 0 := by
  refine FSpec.of_body tok true Tryd.func74 rfl (by kernel_rfl) (by decide) (by simp [tupA, hpLt, tmLt, AV.lt, AE.lt, AC.lt, LL_cons, LL_nil, idOk, ABlk.lt, ints_LL, GB]) (by simp [tupA, hpLt, tmLt, AV.lt, AE.lt, AC.lt, LL_cons, LL_nil, idOk, ABlk.lt, ints_LL, GB]) (by show 1 ≤ _; decide) ?_
  refine Wk.on ?_
  refine CallA.ro [] (.c (.int .i64 (lenN 0))) (len_spec (n := 0) (by omega)) (by first | rfl | exact congrArg AV.g (ints_ren _ _) | (simp [ints_ren, AV.ren, ABlk.ren, AC.ren, AE.ren, qq]; done)) rfl (by (repeat (first | exact trivial | refine ⟨⟨(by first | exact .inl (by decide) | exact .inr (by decide)), (by first | (refine Or.inl ?_; first | rfl | exact congrArg some (ints_ren _ _).symm | exact congrArg ABlk.own (ints_ren _ _).symm | exact congrArg (ABlk.row _ _) (ints_ren _ _).symm) | rfl | exact congrArg some (ints_ren _ _).symm | exact congrArg ABlk.own (ints_ren _ _).symm | exact congrArg (ABlk.row _ _) (ints_ren _ _).symm | exact Or.inr ⟨rfl, rfl⟩)⟩, ?_⟩))) (by first | rfl | exact congrArg AV.g (ints_ren _ _) | (simp [ints_ren, AV.ren, ABlk.ren, AC.ren, AE.ren, qq]; done)) ?_
  refine Wk.on ?_
  refine CallA.ro [] (.t []) (pdqO_nil) (by first | rfl | exact congrArg AV.g (ints_ren _ _) | (simp [ints_ren, AV.ren, ABlk.ren, AC.ren, AE.ren, qq]; done)) rfl (by (repeat (first | exact trivial | refine ⟨⟨(by first | exact .inl (by decide) | exact .inr (by decide)), (by first | (refine Or.inl ?_; first | rfl | exact congrArg some (ints_ren _ _).symm | exact congrArg ABlk.own (ints_ren _ _).symm | exact congrArg (ABlk.row _ _) (ints_ren _ _).symm) | rfl | exact congrArg some (ints_ren _ _).symm | exact congrArg ABlk.own (ints_ren _ _).symm | exact congrArg (ABlk.row _ _) (ints_ren _ _).symm | exact Or.inr ⟨rfl, rfl⟩)⟩, ?_⟩))) (by first | rfl | exact congrArg AV.g (ints_ren _ _) | (simp [ints_ren, AV.ren, ABlk.ren, AC.ren, AE.ren, qq]; done)) ?_
  refine Wk.on ?_
  exact AH.Fin.nil [] ⟨rfl, rfl, rfl⟩ (by first | exact trivial | (simp [tupA, hpLt, tmLt, AV.lt, AE.lt, AC.lt, LL_cons, LL_nil, idOk, ABlk.lt, ints_LL, GB]; done) | (simp [tupA, hpLt, tmLt, AV.lt, AE.lt, AC.lt, LL_cons, LL_nil, idOk, ABlk.lt, ints_LL, GB, rdn, wrn]; done)) trivial trivial rfl (by simp [GB])
end Go.Proofs.YtimknijehaamlaaDoor

/-
  Contracts: one more in a list of pairs.
-/
namespace Go.Proofs.YtimknijehaamlaaDoor
open Go Go.AH Go.Lin
set_option maxRecDepth 100000
set_option maxHeartbeats 1000000

def prs (B : List (Nat × Nat)) : List Int := B.flatMap fun p => [(p.1 : Int), (p.2 : Int)]
theorem prs_len (B : List (Nat × Nat)) : (prs B).length = B.length * 2 := by
  induction B with
  | nil => rfl
  | cons w ws ih => simp [prs] at ih ⊢; omega
theorem prs_app (A B : List (Nat × Nat)) : prs (A ++ B) = prs A ++ prs B := by simp [prs]
theorem prs_take (B : List (Nat × Nat)) (k : Nat) : (prs B).take (k * 2) = prs (B.take k) := by
  induction B generalizing k with
  | nil => simp [prs]
  | cons w ws ih =>
    cases k with
    | zero => simp [prs]
    | succ k =>
      have := ih k
      simp only [prs, List.flatMap_cons, List.cons_append, List.nil_append, List.take_succ_cons] at this ⊢
      rw [show (k + 1) * 2 = k * 2 + 1 + 1 by omega, List.take_succ_cons, List.take_succ_cons, this]
theorem prs_drop (B : List (Nat × Nat)) (k : Nat) : (prs B).drop (k * 2) = prs (B.drop k) := by
  induction B generalizing k with
  | nil => simp [prs]
  | cons w ws ih =>
    cases k with
    | zero => simp [prs]
    | succ k =>
      have := ih k
      simp only [prs, List.flatMap_cons, List.cons_append, List.nil_append, List.drop_succ_cons] at this ⊢
      rw [show (k + 1) * 2 = k * 2 + 1 + 1 by omega, List.drop_succ_cons, List.drop_succ_cons, this]
theorem prs_get (B : List (Nat × Nat)) (i : Nat) : (prs B).getD (i * 2) 0 = ((B.getD i (0, 0)).1 : Int) ∧ (prs B).getD (i * 2 + 1) 0 = ((B.getD i (0, 0)).2 : Int) := by
  induction B generalizing i with
  | nil => simp [prs]
  | cons w ws ih =>
    cases i with
    | zero => simp [prs]
    | succ i =>
      have := ih i
      simp only [prs, List.flatMap_cons, List.getD_eq_getElem?_getD, List.cons_append, List.nil_append] at this ⊢
      rw [show (i + 1) * 2 = i * 2 + 1 + 1 by omega]
      simpa using this
def pC (p : Nat × Nat) : List AC := [.int .i64 p.1, .int .i64 p.2]
theorem prs_rdn (B : List (Nat × Nat)) (i : Nat) : rdn (ints (prs B)) (i * 2) [.int .i64 0, .int .i64 0] = pC (B.getD i (0, 0)) := by
  simp only [rdn, ints_getD, (prs_get B i).1, (prs_get B i).2, pC]
theorem ints_take (L : List Int) (k : Nat) : (ints L).take k = ints (L.take k) := by simp [ints, List.map_take]
theorem ints_drop (L : List Int) (k : Nat) : (ints L).drop k = ints (L.drop k) := by simp [ints, List.map_drop]
/-- Where one belongs: before the first that is less. -/
def ixN (e : Nat) : List (Nat × Nat) → Nat
  | [] => 0
  | b :: B => if b.2 < e then 0 else ixN e B + 1
theorem ixN_le (e : Nat) (B : List (Nat × Nat)) : ixN e B ≤ B.length := by
  induction B with
  | nil => simp [ixN]
  | cons b B ih => rw [ixN]; split <;> simp; omega
theorem insP_ix (p : Nat × Nat) (B : List (Nat × Nat)) : insP p B = B.take (ixN p.2 B) ++ p :: B.drop (ixN p.2 B) := by
  induction B with
  | nil => rfl
  | cons b B ih =>
    rw [insP, ixN]
    split
    · rfl
    · rw [ih]; rfl
theorem ixN_step {e k : Nat} {B : List (Nat × Nat)} (hk : k < B.length) (h : ∀ j, j < k → ¬ (B.getD j (0, 0)).2 < e) : if (B.getD k (0, 0)).2 < e then ixN e B = k else True := by
  induction B generalizing k with
  | nil => simp at hk
  | cons b B ih =>
    cases k with
    | zero =>
      split
      · rename_i hc
        have hc : b.2 < e := by simpa using hc
        rw [ixN, if_pos hc]
      · trivial
    | succ k =>
      have h0 := h 0 (by omega)
      have := ih (k := k) (by simpa using hk) fun j hj => by simpa using h (j + 1) (by omega)
      split
      · rename_i hc
        have hc : (B.getD k (0, 0)).2 < e := by simpa using hc
        rw [if_pos hc] at this
        rw [ixN, if_neg (by simpa using h0), this]
      · trivial
theorem ixN_all {e : Nat} {B : List (Nat × Nat)} (h : ∀ j, j < B.length → ¬ (B.getD j (0, 0)).2 < e) : ixN e B = B.length := by
  induction B with
  | nil => rfl
  | cons b B ih =>
    have h0 := h 0 (by simp)
    rw [ixN, if_neg (by simpa using h0), ih fun j hj => by simpa using h (j + 1) (by simpa using hj)]
    rfl
def ixI (e : Nat) (B : List (Nat × Nat)) : Int := if ixN e B < B.length then ixN e B else -1

theorem red11_spec (x y a e : Nat) : FDet Tryd.prog 69 [.g [.int .i64 x, .int .i64 y], .c (.ptr 0 0)] [(0, .ro [.int .i64 a, .int .i64 e])] 1 (.c (.bool (decide (y < e)))) [] 1 := by
  refine FSpec.of_body tok true Tryd.func69 rfl (by kernel_rfl) (by decide) (by simp [tupA, hpLt, tmLt, AV.lt, AE.lt, AC.lt, LL_cons, LL_nil, idOk, ABlk.lt, ints_LL, GB, pC]) (by simp [tupA, hpLt, tmLt, AV.lt, AE.lt, AC.lt, LL_cons, LL_nil, idOk, ABlk.lt, ints_LL, GB, pC]) (by show 2 ≤ _; decide) ?_
  refine Wk.on ?_
  exact AH.Fin.nil [] ⟨congrArg (fun b => AV.c (.bool b)) (decide_eq_decide.2 (by simp)), rfl, rfl⟩ (by first | exact trivial | (simp [tupA, hpLt, tmLt, AV.lt, AE.lt, AC.lt, LL_cons, LL_nil, idOk, ABlk.lt, ints_LL, GB, pC]; done) | (simp [tupA, hpLt, tmLt, AV.lt, AE.lt, AC.lt, LL_cons, LL_nil, idOk, ABlk.lt, ints_LL, GB, pC, rdn, wrn]; done)) trivial trivial rfl (by simp [GB])
theorem index_spec (B : List (Nat × Nat)) (hB : B.length ≤ 1000) (a e : Nat) : FDet Tryd.prog 68 [.c (.rs 0 0 B.length), .c (.fn 69 [] [1])] [(0, .ro (ints (prs B))), (1, .ro [.int .i64 a, .int .i64 e])] 2 (.c (.int .i64 (ixI e B))) [] 2 := by
  have hlen : (ints (prs B)).length = B.length * 2 := by rw [ints_len, prs_len]
  refine FSpec.of_body tok true Tryd.func68 rfl (by kernel_rfl) (by decide) (by simp [tupA, hpLt, tmLt, AV.lt, AE.lt, AC.lt, LL_cons, LL_nil, idOk, ABlk.lt, ints_LL, GB, pC]) (by simp [tupA, hpLt, tmLt, AV.lt, AE.lt, AC.lt, LL_cons, LL_nil, idOk, ABlk.lt, ints_LL, GB, pC]) (by show 2 ≤ _; decide) ?_
  refine Wk.on ?_
  refine Tr.loop (md := true) (X := Nat) (st := fun k => ⟨[(0, .c (.rs 0 0 B.length)), (1, .c (.fn 69 [] [1])), (7, .c (.int .i64 B.length)), (8, .c (.int .i64 k))], [(0, .ro (ints (prs B))), (1, .ro [.int .i64 a, .int .i64 e])], 2, 19, 2⟩) (inv := fun k => k ≤ B.length ∧ ∀ j, j < k → ¬ (B.getD j (0, 0)).2 < e) (μ := fun k => B.length - k) (x0 := 0) (l := []) tok ⟨by omega, fun j hj => by omega⟩ ?_ ?_
  · exact Sub.nil ⟨rfl, rfl, (by simp [pC]), rfl, (by simp [tupA, hpLt, tmLt, AV.lt, AE.lt, AC.lt, LL_cons, LL_nil, idOk, ABlk.lt, ints_LL, GB, pC]), (by simp [tupA, hpLt, tmLt, AV.lt, AE.lt, AC.lt, LL_cons, LL_nil, idOk, ABlk.lt, ints_LL, GB, pC])⟩ (by (repeat (first | exact trivial | refine ⟨trivial, ?_⟩ | refine ⟨rfl, ?_⟩))) (by (repeat (first | exact trivial | refine ⟨trivial, ?_⟩ | refine ⟨rfl, ?_⟩)))
  · rintro k ⟨hk, hall⟩
    by_cases hkl : k < B.length
    · have hst := ixN_step hkl hall
      refine Wk.on ?_
      rw [decide_eq_true (show ((k : Nat) : Int) < ((B.length : Nat) : Int) by omega)]
      refine Wk.on ?_
      refine ⟨⟨by rw [hlen, Int.toNat_natCast]; show 0 + k * 2 + 2 ≤ _; omega, rfl⟩, ?_⟩
      rw [Int.toNat_natCast, Nat.zero_add]
      refine Wk.on ?_
      rw [prs_rdn]
      refine CallA.ro [1] (.c (.bool (decide ((B.getD k (0, 0)).2 < e)))) (red11_spec (B.getD k (0, 0)).1 (B.getD k (0, 0)).2 a e) (by first | rfl | exact congrArg AV.g (ints_ren _ _) | (simp [ints_ren, AV.ren, ABlk.ren, AC.ren, AE.ren, qq]; done)) rfl (by (repeat (first | exact trivial | refine ⟨⟨(by first | exact .inl (by decide) | exact .inr (by decide)), (by first | (refine Or.inl ?_; first | rfl | exact congrArg some (ints_ren _ _).symm | exact congrArg ABlk.own (ints_ren _ _).symm | exact congrArg (ABlk.row _ _) (ints_ren _ _).symm) | rfl | exact congrArg some (ints_ren _ _).symm | exact congrArg ABlk.own (ints_ren _ _).symm | exact congrArg (ABlk.row _ _) (ints_ren _ _).symm | exact Or.inr ⟨rfl, rfl⟩)⟩, ?_⟩))) (by first | rfl | exact congrArg AV.g (ints_ren _ _) | (simp [ints_ren, AV.ren, ABlk.ren, AC.ren, AE.ren, qq]; done)) ?_
      refine Wk.on ?_
      by_cases hc : (B.getD k (0, 0)).2 < e
      · rw [if_pos hc] at hst
        rw [decide_eq_true hc]
        refine Wk.on ?_
        exact AH.Fin.nil [] ⟨by rw [ixI, hst, if_pos hkl]; rfl, rfl, rfl⟩ (by first | exact trivial | (simp [tupA, hpLt, tmLt, AV.lt, AE.lt, AC.lt, LL_cons, LL_nil, idOk, ABlk.lt, ints_LL, GB, pC]; done) | (simp [tupA, hpLt, tmLt, AV.lt, AE.lt, AC.lt, LL_cons, LL_nil, idOk, ABlk.lt, ints_LL, GB, pC, rdn, wrn]; done)) trivial trivial rfl (by simp [GB])
      · rw [decide_eq_false hc]
        refine Wk.on ?_
        have hnx : ∀ j, j < k + 1 → ¬ (B.getD j (0, 0)).2 < e := fun j hj => by
          by_cases e1 : j = k
          · rw [e1]; exact hc
          · exact hall j (by omega)
        refine Again.mk (k + 1) (Sub.nil ⟨rfl, rfl, (by simp [pC]), rfl, (by simp [tupA, hpLt, tmLt, AV.lt, AE.lt, AC.lt, LL_cons, LL_nil, idOk, ABlk.lt, ints_LL, GB, pC]), (by simp [tupA, hpLt, tmLt, AV.lt, AE.lt, AC.lt, LL_cons, LL_nil, idOk, ABlk.lt, ints_LL, GB, pC])⟩ (by (repeat (first | exact trivial | refine ⟨trivial, ?_⟩ | refine ⟨rfl, ?_⟩))) (by (repeat (first | exact trivial | refine ⟨trivial, ?_⟩ | refine ⟨rfl, ?_⟩)))) (⟨by omega, hnx⟩) (by omega)
    · refine Wk.on ?_
      rw [decide_eq_false (show ¬ ((k : Nat) : Int) < ((B.length : Nat) : Int) by omega)]
      refine Wk.on ?_
      exact AH.Fin.nil [] ⟨by rw [ixI, ixN_all fun j hj => hall j (by omega), if_neg (by omega)]; rfl, rfl, rfl⟩ (by first | exact trivial | (simp [tupA, hpLt, tmLt, AV.lt, AE.lt, AC.lt, LL_cons, LL_nil, idOk, ABlk.lt, ints_LL, GB, pC]; done) | (simp [tupA, hpLt, tmLt, AV.lt, AE.lt, AC.lt, LL_cons, LL_nil, idOk, ABlk.lt, ints_LL, GB, pC, rdn, wrn]; done)) trivial trivial rfl (by simp [GB])

theorem index_row (B : List (Nat × Nat)) (hB : B.length ≤ 1000) (a e : Nat) : FDet Tryd.prog 68 [.c (.row 0 B.length), .c (.fn 69 [] [1])] [(0, .row 93 2 (ints (prs B))), (1, .own [.int .i64 a, .int .i64 e])] 2 (.c (.int .i64 (ixI e B))) [(0, .row 93 2 (ints (prs B))), (1, .own [.int .i64 a, .int .i64 e])] 2 := by
  have hlen : (ints (prs B)).length = B.length * 2 := by rw [ints_len, prs_len]
  refine FSpec.of_body tok true Tryd.func68 rfl (by kernel_rfl) (by decide) (by simp [tupA, hpLt, tmLt, AV.lt, AE.lt, AC.lt, LL_cons, LL_nil, idOk, ABlk.lt, ints_LL, GB, pC]) (by simp [tupA, hpLt, tmLt, AV.lt, AE.lt, AC.lt, LL_cons, LL_nil, idOk, ABlk.lt, ints_LL, GB, pC]) (by show 2 ≤ _; decide) ?_
  refine Wk.on ?_
  refine Tr.loop (md := true) (X := Nat) (st := fun k => ⟨[(0, .c (.row 0 B.length)), (1, .c (.fn 69 [] [1])), (7, .c (.int .i64 B.length)), (8, .c (.int .i64 k))], [(0, .row 93 2 (ints (prs B))), (1, .own [.int .i64 a, .int .i64 e])], 2, 19, 2⟩) (inv := fun k => k ≤ B.length ∧ ∀ j, j < k → ¬ (B.getD j (0, 0)).2 < e) (μ := fun k => B.length - k) (x0 := 0) (l := []) tok ⟨by omega, fun j hj => by omega⟩ ?_ ?_
  · exact Sub.nil ⟨rfl, rfl, (by simp [pC]), rfl, (by simp [tupA, hpLt, tmLt, AV.lt, AE.lt, AC.lt, LL_cons, LL_nil, idOk, ABlk.lt, ints_LL, GB, pC]), (by simp [tupA, hpLt, tmLt, AV.lt, AE.lt, AC.lt, LL_cons, LL_nil, idOk, ABlk.lt, ints_LL, GB, pC])⟩ (by (repeat (first | exact trivial | refine ⟨trivial, ?_⟩ | refine ⟨rfl, ?_⟩))) (by (repeat (first | exact trivial | refine ⟨trivial, ?_⟩ | refine ⟨rfl, ?_⟩)))
  · rintro k ⟨hk, hall⟩
    by_cases hkl : k < B.length
    · have hst := ixN_step hkl hall
      refine Wk.on ?_
      rw [decide_eq_true (show ((k : Nat) : Int) < ((B.length : Nat) : Int) by omega)]
      refine Wk.on ?_
      refine ⟨⟨by rw [hlen, Int.toNat_natCast]; show k * 2 + 2 ≤ _; omega, rfl⟩, ?_⟩
      rw [Int.toNat_natCast]
      refine Wk.on ?_
      rw [prs_rdn]
      refine CallA.ro [1] (.c (.bool (decide ((B.getD k (0, 0)).2 < e)))) (red11_spec (B.getD k (0, 0)).1 (B.getD k (0, 0)).2 a e) (by first | rfl | exact congrArg AV.g (ints_ren _ _) | (simp [ints_ren, AV.ren, ABlk.ren, AC.ren, AE.ren, qq]; done)) rfl (by (repeat (first | exact trivial | refine ⟨⟨(by first | exact .inl (by decide) | exact .inr (by decide)), (by first | (refine Or.inl ?_; first | rfl | exact congrArg some (ints_ren _ _).symm | exact congrArg ABlk.own (ints_ren _ _).symm | exact congrArg (ABlk.row _ _) (ints_ren _ _).symm) | rfl | exact congrArg some (ints_ren _ _).symm | exact congrArg ABlk.own (ints_ren _ _).symm | exact congrArg (ABlk.row _ _) (ints_ren _ _).symm | exact Or.inr ⟨rfl, rfl⟩)⟩, ?_⟩))) (by first | rfl | exact congrArg AV.g (ints_ren _ _) | (simp [ints_ren, AV.ren, ABlk.ren, AC.ren, AE.ren, qq]; done)) ?_
      refine Wk.on ?_
      by_cases hc : (B.getD k (0, 0)).2 < e
      · rw [if_pos hc] at hst
        rw [decide_eq_true hc]
        refine Wk.on ?_
        exact Fin.nil [(0, .row 93 2 (ints (prs B))), (1, .own [.int .i64 a, .int .i64 e])] ⟨by rw [ixI, hst, if_pos hkl]; rfl, rfl, rfl⟩ trivial ⟨rfl, rfl, trivial⟩ (by simp [tupA, hpLt, tmLt, AV.lt, AE.lt, AC.lt, LL_cons, LL_nil, idOk, ABlk.lt, ints_LL, GB, pC]) rfl (by simp [GB])
      · rw [decide_eq_false hc]
        refine Wk.on ?_
        have hnx : ∀ j, j < k + 1 → ¬ (B.getD j (0, 0)).2 < e := fun j hj => by
          by_cases e1 : j = k
          · rw [e1]; exact hc
          · exact hall j (by omega)
        refine Again.mk (k + 1) (Sub.nil ⟨rfl, rfl, (by simp [pC]), rfl, (by simp [tupA, hpLt, tmLt, AV.lt, AE.lt, AC.lt, LL_cons, LL_nil, idOk, ABlk.lt, ints_LL, GB, pC]), (by simp [tupA, hpLt, tmLt, AV.lt, AE.lt, AC.lt, LL_cons, LL_nil, idOk, ABlk.lt, ints_LL, GB, pC])⟩ (by (repeat (first | exact trivial | refine ⟨trivial, ?_⟩ | refine ⟨rfl, ?_⟩))) (by (repeat (first | exact trivial | refine ⟨trivial, ?_⟩ | refine ⟨rfl, ?_⟩)))) (⟨by omega, hnx⟩) (by omega)
    · refine Wk.on ?_
      rw [decide_eq_false (show ¬ ((k : Nat) : Int) < ((B.length : Nat) : Int) by omega)]
      refine Wk.on ?_
      exact Fin.nil [(0, .row 93 2 (ints (prs B))), (1, .own [.int .i64 a, .int .i64 e])] ⟨by rw [ixI, ixN_all fun j hj => hall j (by omega), if_neg (by omega)]; rfl, rfl, rfl⟩ trivial ⟨rfl, rfl, trivial⟩ (by simp [tupA, hpLt, tmLt, AV.lt, AE.lt, AC.lt, LL_cons, LL_nil, idOk, ABlk.lt, ints_LL, GB, pC]) rfl (by simp [GB])

theorem insert_end (B : List (Nat × Nat)) (hB : B.length ≤ 1000) (p : Nat × Nat) : FDet Tryd.prog 70 [.c (.row 0 B.length), .c (.int .i64 B.length), .c (.sl 1 0 1 (some 1))] [(0, .row 93 2 (ints (prs B))), (1, .own (pC p))] 2 (.c (.row 2 (B.length + 1))) [(2, .row 93 2 (ints (prs (B ++ [p]))))] 3 := by
  have hlen : (ints (prs B)).length = B.length * 2 := by rw [ints_len, prs_len]
  have hap : ints (prs B) ++ pC p = ints (prs (B ++ [p])) := by rw [prs_app, ← ints_app]; rfl
  refine FSpec.of_body tok true Tryd.func70 rfl (by kernel_rfl) (by decide) (by simp [tupA, hpLt, tmLt, AV.lt, AE.lt, AC.lt, LL_cons, LL_nil, idOk, ABlk.lt, ints_LL, GB, pC]) (by simp [tupA, hpLt, tmLt, AV.lt, AE.lt, AC.lt, LL_cons, LL_nil, idOk, ABlk.lt, ints_LL, GB, pC]) (by show 3 ≤ _; decide) ?_
  refine Wk.on ?_
  rw [decide_eq_true rfl]
  refine Wk.on ?_
  refine ⟨⟨Nat.le_of_ble_eq_true rfl, rfl, rfl, hlen, by show ((B.length + 1 : Nat) : Int) * 16 ≤ _; omega, by omega⟩, ?_⟩
  refine Wk.on ?_
  exact AH.Fin.new [2] _ _ ⟨rfl, rfl, rfl⟩ rfl ⟨by show some (ABlk.row 93 2 (ints (prs B) ++ pC p)) = some (ABlk.row 93 2 ((ints _).map _)); rw [hap, ints_ren], trivial⟩ rfl (by simp [tupA, hpLt, tmLt, AV.lt, AE.lt, AC.lt, LL_cons, LL_nil, idOk, ABlk.lt, ints_LL, GB, pC]) (by simp [tupA, hpLt, tmLt, AV.lt, AE.lt, AC.lt, LL_cons, LL_nil, idOk, ABlk.lt, ints_LL, GB, pC])
theorem cells_mid (B : List (Nat × Nat)) (p : Nat × Nat) {i : Nat} (hi : i ≤ B.length) : ints (prs (B.take i)) ++ pC p ++ ints (prs (B.drop i)) = ints (prs (B.take i ++ p :: B.drop i)) := by
  rw [prs_app, ← ints_app, List.append_assoc]
  rfl
theorem grow_cells {X P0 V D : List AC} {i n : Nat} (hi : i < n) (hX : X.length = (n + 1) * 2) (hXt : X.take (i * 2) = P0) (hV : V.length = 2) (hD : D.length = (n - i) * 2) :
    (X.take (i * 2) ++ V ++ X.drop (i * 2 + 1 * 2)).length = (n + 1) * 2 ∧
    (X.take (i * 2) ++ V ++ X.drop (i * 2 + 1 * 2)).take ((i + 1) * 2) ++ D ++ (X.take (i * 2) ++ V ++ X.drop (i * 2 + 1 * 2)).drop ((i + 1) * 2 + (n - i) * 2) = P0 ++ V ++ D := by
  have hl : (X.take (i * 2)).length = i * 2 := by rw [List.length_take]; omega
  have h1 : (X.take (i * 2) ++ V ++ X.drop (i * 2 + 1 * 2)).length = (n + 1) * 2 := by simp only [List.length_append, hl, hV, List.length_drop, hX]; omega
  refine ⟨h1, ?_⟩
  have h2 : (X.take (i * 2) ++ V ++ X.drop (i * 2 + 1 * 2)).take ((i + 1) * 2) = P0 ++ V := by
    rw [List.take_append_of_le_length (by simp only [List.length_append, hl, hV]; omega), List.take_of_length_le (by simp only [List.length_append, hl, hV]; omega), hXt]
  have h3 : (X.take (i * 2) ++ V ++ X.drop (i * 2 + 1 * 2)).drop ((i + 1) * 2 + (n - i) * 2) = [] := List.drop_of_length_le (by rw [h1]; omega)
  rw [h2, h3, List.append_nil]
theorem shift_cells {C V : List AC} {i n : Nat} (hi : i < n) (hC : C.length = n * 2) (hV : V.length = 2) :
    i * 2 ≤ (C.take ((i + 1) * 2) ++ (C.drop (i * 2)).take ((n - i) * 2) ++ C.drop ((i + 1) * 2 + (n - i) * 2)).length ∧
    (C.take ((i + 1) * 2) ++ (C.drop (i * 2)).take ((n - i) * 2) ++ C.drop ((i + 1) * 2 + (n - i) * 2)).take (i * 2) ++ V ++ (C.take ((i + 1) * 2) ++ (C.drop (i * 2)).take ((n - i) * 2) ++ C.drop ((i + 1) * 2 + (n - i) * 2)).drop (i * 2 + 1 * 2) = C.take (i * 2) ++ V ++ C.drop (i * 2) := by
  have e1 : (C.drop (i * 2)).take ((n - i) * 2) = C.drop (i * 2) := List.take_of_length_le (by rw [List.length_drop]; omega)
  have e2 : C.drop ((i + 1) * 2 + (n - i) * 2) = [] := List.drop_of_length_le (by omega)
  have hl : (C.take ((i + 1) * 2)).length = (i + 1) * 2 := by rw [List.length_take]; omega
  rw [e1, e2, List.append_nil]
  refine ⟨by simp only [List.length_append, hl]; omega, ?_⟩
  rw [List.take_append_of_le_length (by rw [hl]; omega), List.take_take, Nat.min_eq_left (by omega)]
  rw [show i * 2 + 1 * 2 = (C.take ((i + 1) * 2)).length by rw [hl]; omega, List.drop_left]
theorem insert_mid (B : List (Nat × Nat)) (hB : B.length ≤ 1000) (p : Nat × Nat) (i : Nat) (hi : i < B.length) : FDet Tryd.prog 70 [.c (.row 0 B.length), .c (.int .i64 i), .c (.sl 1 0 1 (some 1))] [(0, .row 93 2 (ints (prs B))), (1, .own (pC p))] 2 (.c (.row 2 (B.length + 1))) [(2, .row 93 2 (ints (prs (B.take i ++ p :: B.drop i))))] 3 := by
  have hlen : (ints (prs B)).length = B.length * 2 := by rw [ints_len, prs_len]
  refine FSpec.capRow (z := 2) rfl (fun vs w => (insert_end B hB p).call vs w) fun c hc1 hc2 => ?_
  by_cases hc : c < B.length + 1
  · show FDet Tryd.prog 70 [.c (.rp 0 0 B.length c 2), .c (.int .i64 i), .c (.sl 1 0 1 (some 1))] _ 2 _ _ 3
    refine FSpec.of_body tok true Tryd.func70 rfl (by kernel_rfl) (by decide) (by simp [tupA, hpLt, tmLt, AV.lt, AE.lt, AC.lt, LL_cons, LL_nil, idOk, ABlk.lt, ints_LL, GB, pC]) (by simp [tupA, hpLt, tmLt, AV.lt, AE.lt, AC.lt, LL_cons, LL_nil, idOk, ABlk.lt, ints_LL, GB, pC]) (by show 3 ≤ _; decide) ?_
    refine Wk.on ?_
    refine ⟨⟨rfl, by show (0 : Int) ≤ i; omega, by show (i : Int) ≤ B.length; omega, by show (B.length : Int) ≤ c; omega, .inr (by show (i : Int) < c; omega)⟩, ?_⟩
    refine Wk.on ?_
    rw [decide_eq_false (show ¬ ((i : Nat) : Int) = ((B.length : Nat) : Int) by omega)]
    refine Wk.on ?_
    rw [decide_eq_true (show ((c : Nat) : Int) < ((B.length : Nat) : Int) + ((1 : Nat) : Int) by omega)]
    refine Wk.on ?_
    refine ⟨⟨rfl, Int.le_refl 0, by show (0 : Int) ≤ i; omega, by show (i : Int) ≤ c; omega, .inl rfl⟩, ?_⟩
    refine Wk.on ?_
    simp only [Option.getD_some, Option.getD_none, Int.toNat_natCast, Int.toNat_zero, Nat.sub_zero, Nat.zero_add]
    rw [show (B.length : Int) + ((1 : Nat) : Int) - i = ((B.length + 1 - i : Nat) : Int) by omega]
    have hlm : i + (B.length + 1 - i) = B.length + 1 := by omega
    refine ⟨⟨Nat.le_of_ble_eq_true rfl, by decide, trivial, rfl, by omega, by rw [Int.toNat_natCast]; omega, by rw [hlen]; omega, by rw [Int.toNat_natCast, hlm]; show ((B.length + 1 : Nat) : Int) * 16 ≤ _; omega, by rw [Int.toNat_natCast]; omega⟩, ?_⟩
    rw [Int.toNat_natCast, hlm, show 0 * 2 = 0 from rfl, List.drop_zero, ints_take, prs_take]
    refine Wk.on ?_
    have hpl : (prs (B.take i)).length = i * 2 := by rw [prs_len, List.length_take, Nat.min_eq_left (by omega)]
    have hXl : (ints (prs (B.take i)) ++ rep (B.length + 1 - i) [.int .i64 0, .int .i64 0]).length = (B.length + 1) * 2 := by
      rw [List.length_append, ints_len, hpl, rep_len]; show i * 2 + (B.length + 1 - i) * 2 = _; omega
    have hXt : (ints (prs (B.take i)) ++ rep (B.length + 1 - i) [.int .i64 0, .int .i64 0]).take (i * 2) = ints (prs (B.take i)) := by
      rw [List.take_append_of_le_length (by rw [ints_len, hpl]; exact Nat.le_refl _), List.take_of_length_le (by rw [ints_len, hpl]; exact Nat.le_refl _)]
    obtain ⟨X, hX⟩ : ∃ X, X = ints (prs (B.take i)) ++ rep (B.length + 1 - i) [.int .i64 0, .int .i64 0] := ⟨_, rfl⟩
    rw [← hX] at hXl hXt
    rw [← hX]
    clear hX
    refine ⟨⟨by show (0 : Int) ≤ i; omega, by show (i : Int) ≤ ((B.length + 1 : Nat) : Int); omega, .inl (Int.le_refl _)⟩, ?_⟩
    simp only [Option.getD_none, Option.getD_some, Int.toNat_natCast, Option.map_none, Nat.zero_add]
    refine Wk.on ?_
    rw [show min 1 (B.length + 1 - i) = 1 by omega]
    refine ⟨by show 0 + 1 * 2 ≤ 2; omega, ?_⟩
    refine Wk.on ?_
    refine ⟨⟨rfl, by rw [hXl]; show i * 2 + 1 * 2 ≤ _; omega⟩, ?_⟩
    refine Wk.on ?_
    refine Tr.draw (md := true) [⟨[], [47, 48, 49, 51, 52, 53], [], [], []⟩, ⟨[], [46, 48, 51, 52, 53], [0], [], []⟩, ⟨[], [46, 47, 51, 52, 53], [0, 1], [], []⟩, ⟨[1, 2], [46, 51, 52, 53], [0], [], []⟩, ⟨[0, 1, 2, 3], [51, 52, 53], [], [], []⟩, ⟨[], [46, 47, 48, 49, 50, 52], [0, 1, 2, 3, 4], [], []⟩, ⟨[], [46, 47, 48, 49, 50, 51], [0, 1, 2, 3, 4, 5], [], []⟩, ⟨[5, 6], [46, 47, 48, 49, 50], [0, 1, 2, 3, 4], [], []⟩] tok (by kernel_rfl) (by kernel_rfl) ?_
    refine Wk.on ?_
    refine ⟨⟨by show (0 : Int) ≤ (i : Int) + ((1 : Nat) : Int); omega, by show (i : Int) + ((1 : Nat) : Int) ≤ ((B.length + 1 : Nat) : Int); omega, .inl (Int.le_refl _)⟩, ?_⟩
    refine Wk.on ?_
    refine ⟨⟨rfl, by show (0 : Int) ≤ i; omega, by show (i : Int) ≤ B.length; omega, by show (B.length : Int) ≤ c; omega, .inr (by show (i : Int) < c; omega)⟩, ?_⟩
    refine Wk.on ?_
    have hmm : min (B.length - i) (B.length + 1 - (i + 1)) = B.length - i := by omega
    have hD : ((ints (prs B)).drop ((0 + i) * 2)).take (min (B.length - i) (B.length + 1 - (i + 1)) * 2) = ints (prs (B.drop i)) := by
      rw [Nat.zero_add, hmm, ints_drop, prs_drop, List.take_of_length_le (by rw [ints_len, prs_len, List.length_drop]; exact Nat.le_refl _)]
    obtain ⟨hYl, hYe⟩ := grow_cells (V := ((pC p).drop 0).take (1 * 2)) (D := ((ints (prs B)).drop ((0 + i) * 2)).take (min (B.length - i) (B.length + 1 - (i + 1)) * 2)) hi hXl hXt rfl (by rw [hD, ints_len, prs_len, List.length_drop])
    refine ⟨⟨rfl, by show (0 + i) * 2 + min (B.length - i) (B.length + 1 - (i + 1)) * 2 ≤ (ints (prs B)).length; rw [hlen]; omega⟩, ?_⟩
    refine Wk.on ?_
    refine ⟨⟨rfl, by show 0 + (i + 1) * 2 + min (B.length - i) (B.length + 1 - (i + 1)) * 2 ≤ (X.take (i * 2) ++ ((pC p).drop 0).take (1 * 2) ++ X.drop (i * 2 + 1 * 2)).length; rw [hYl]; omega⟩, ?_⟩
    refine Wk.on ?_
    exact AH.Fin.new [2] _ _ ⟨rfl, rfl, rfl⟩ rfl ⟨by
      show some (ABlk.row 93 2 ((X.take (i * 2) ++ ((pC p).drop 0).take (1 * 2) ++ X.drop (i * 2 + 1 * 2)).take (0 + (i + 1) * 2) ++ ((ints (prs B)).drop ((0 + i) * 2)).take (min (B.length - i) (B.length + 1 - (i + 1)) * 2) ++ (X.take (i * 2) ++ ((pC p).drop 0).take (1 * 2) ++ X.drop (i * 2 + 1 * 2)).drop (0 + (i + 1) * 2 + min (B.length - i) (B.length + 1 - (i + 1)) * 2))) = some (ABlk.row 93 2 ((ints _).map _))
      rw [Nat.zero_add ((i + 1) * 2), hmm] at *
      rw [hYe, hD, ints_ren]
      exact congrArg (fun l => some (ABlk.row 93 2 l)) (cells_mid B p (by omega)), trivial⟩ rfl (by simp [tupA, hpLt, tmLt, AV.lt, AE.lt, AC.lt, LL_cons, LL_nil, idOk, ABlk.lt, ints_LL, GB, pC]) (by simp [tupA, hpLt, tmLt, AV.lt, AE.lt, AC.lt, LL_cons, LL_nil, idOk, ABlk.lt, ints_LL, GB, pC])
  · refine FSpec.rowNew (i := 0) (by omega) (by decide) (ints_LL _ _) ?_
    refine FDet.post (r := .c (.rp 0 0 (B.length + 1) c 2)) (hq := [(0, .row 93 2 (ints (prs (B.take i ++ p :: B.drop i))))]) (k' := 2) ?_ _ _ ⟨rfl, rfl, rfl⟩ ⟨⟨⟨rfl, rfl⟩, .inl rfl⟩, trivial⟩ (by simp [tupA, hpLt, tmLt, AV.lt, AE.lt, AC.lt, LL_cons, LL_nil, idOk, ABlk.lt, ints_LL, GB, pC]) (by simp [tupA, hpLt, tmLt, AV.lt, AE.lt, AC.lt, LL_cons, LL_nil, idOk, ABlk.lt, ints_LL, GB, pC]) rfl
    show FDet Tryd.prog 70 [.c (.rp 0 0 B.length c 2), .c (.int .i64 i), .c (.sl 1 0 1 (some 1))] _ 2 _ _ 2
    refine FSpec.of_body tok true Tryd.func70 rfl (by kernel_rfl) (by decide) (by simp [tupA, hpLt, tmLt, AV.lt, AE.lt, AC.lt, LL_cons, LL_nil, idOk, ABlk.lt, ints_LL, GB, pC]) (by simp [tupA, hpLt, tmLt, AV.lt, AE.lt, AC.lt, LL_cons, LL_nil, idOk, ABlk.lt, ints_LL, GB, pC]) (by show 3 ≤ _; decide) ?_
    refine Wk.on ?_
    refine ⟨⟨rfl, by show (0 : Int) ≤ i; omega, by show (i : Int) ≤ B.length; omega, by show (B.length : Int) ≤ c; omega, .inr (by show (i : Int) < c; omega)⟩, ?_⟩
    refine Wk.on ?_
    rw [decide_eq_false (show ¬ ((i : Nat) : Int) = ((B.length : Nat) : Int) by omega)]
    refine Wk.on ?_
    rw [decide_eq_false (show ¬ ((c : Nat) : Int) < ((B.length : Nat) : Int) + ((1 : Nat) : Int) by omega)]
    refine Wk.on ?_
    refine ⟨⟨rfl, Int.le_refl 0, by show (0 : Int) ≤ (B.length : Int) + ((1 : Nat) : Int); omega, by show (B.length : Int) + ((1 : Nat) : Int) ≤ c; omega, .inl rfl⟩, ?_⟩
    refine Wk.on ?_
    simp only [Option.getD_some, Option.getD_none, Int.toNat_zero, Nat.sub_zero, Nat.zero_add]
    rw [show ((B.length : Int) + ((1 : Nat) : Int)).toNat = B.length + 1 by omega]
    refine ⟨⟨trivial, by omega, by omega, by omega, .inr (by omega)⟩, ?_⟩
    rw [show ((i : Int) + ((1 : Nat) : Int)).toNat = i + 1 by omega]
    refine Wk.on ?_
    refine CallA.overlaps (t := 75) tok (fn := Tryd.f83) Tryd.func83 (by kernel_rfl) (by kernel_rfl) (by kernel_rfl) (tr := 4) (by kernel_rfl) rfl rfl rfl rfl (by decide) (by decide) (by rw [hlen]; omega) ?_
    refine Wk.on ?_
    refine Tr.draw (md := true) [⟨[], [70, 71, 72, 74, 75, 76], [], [], []⟩, ⟨[], [69, 71, 74, 75, 76], [0], [], []⟩, ⟨[], [69, 70, 74, 75, 76], [0, 1], [], []⟩, ⟨[1, 2], [69, 74, 75, 76], [0], [], []⟩, ⟨[0, 1, 2, 3], [74, 75, 76], [], [], []⟩, ⟨[], [69, 70, 71, 72, 73, 75], [0, 1, 2, 3, 4], [], []⟩, ⟨[], [69, 70, 71, 72, 73, 74], [0, 1, 2, 3, 4, 5], [], []⟩, ⟨[5, 6], [69, 70, 71, 72, 73], [0, 1, 2, 3, 4], [], []⟩] tok (by kernel_rfl) (by kernel_rfl) ?_
    refine Wk.on ?_
    refine ⟨⟨rfl, by show (0 : Int) ≤ (i : Int) + ((1 : Nat) : Int); omega, by show (i : Int) + ((1 : Nat) : Int) ≤ ((B.length + 1 : Nat) : Int); omega, by show ((B.length + 1 : Nat) : Int) ≤ c; omega, .inr (by show (i : Int) + ((1 : Nat) : Int) < c; omega)⟩, ?_⟩
    refine Wk.on ?_
    refine ⟨⟨rfl, by show (0 : Int) ≤ i; omega, by show (i : Int) ≤ ((B.length + 1 : Nat) : Int); omega, by show ((B.length + 1 : Nat) : Int) ≤ c; omega, .inr (by show (i : Int) < c; omega)⟩, ?_⟩
    refine Wk.on ?_
    have hmm : min (B.length + 1 - i) (B.length + 1 - (i + 1)) = B.length - i := by omega
    obtain ⟨hWl, hWe⟩ := shift_cells (V := pC p) hi hlen rfl
    refine ⟨⟨rfl, by show (0 + i) * 2 + min (B.length + 1 - i) (B.length + 1 - (i + 1)) * 2 ≤ (ints (prs B)).length; rw [hlen]; omega⟩, ?_⟩
    refine Wk.on ?_
    refine ⟨⟨rfl, rfl, by show (0 + (i + 1)) * 2 ≤ (ints (prs B)).length; rw [hlen]; omega⟩, ?_⟩
    refine Wk.on ?_
    refine ⟨⟨rfl, by show (0 : Int) ≤ i; omega, by show (i : Int) ≤ ((B.length + 1 : Nat) : Int); omega, by show ((B.length + 1 : Nat) : Int) ≤ c; omega, .inr (by show (i : Int) < c; omega)⟩, ?_⟩
    refine Wk.on ?_
    have hm1 : min 1 (B.length + 1 - i) = 1 := by omega
    refine ⟨by show 0 + min 1 (B.length + 1 - i) * 2 ≤ 2; omega, ?_⟩
    refine Wk.on ?_
    refine ⟨⟨rfl, rfl, by
      show (0 + i) * 2 ≤ ((ints (prs B)).take ((0 + (i + 1)) * 2) ++ ((ints (prs B)).drop ((0 + i) * 2)).take (min (B.length + 1 - i) (B.length + 1 - (i + 1)) * 2) ++ (ints (prs B)).drop ((0 + (i + 1)) * 2 + min (B.length + 1 - i) (B.length + 1 - (i + 1)) * 2)).length
      rw [hmm, Nat.zero_add, Nat.zero_add]; exact hWl⟩, ?_⟩
    refine Wk.on ?_
    exact Fin.nil [(0, .row 93 2 (ints (prs (B.take i ++ p :: B.drop i))))] ⟨rfl, rfl, rfl⟩ (by simp [tupA, hpLt, tmLt, AV.lt, AE.lt, AC.lt, LL_cons, LL_nil, idOk, ABlk.lt, ints_LL, GB, pC]) ⟨by
      show ABlk.row 93 2 (((ints (prs B)).take ((0 + (i + 1)) * 2) ++ ((ints (prs B)).drop ((0 + i) * 2)).take (min (B.length + 1 - i) (B.length + 1 - (i + 1)) * 2) ++ (ints (prs B)).drop ((0 + (i + 1)) * 2 + min (B.length + 1 - i) (B.length + 1 - (i + 1)) * 2)).take ((0 + i) * 2) ++ ((pC p).drop 0).take (min 1 (B.length + 1 - i) * 2) ++ ((ints (prs B)).take ((0 + (i + 1)) * 2) ++ ((ints (prs B)).drop ((0 + i) * 2)).take (min (B.length + 1 - i) (B.length + 1 - (i + 1)) * 2) ++ (ints (prs B)).drop ((0 + (i + 1)) * 2 + min (B.length + 1 - i) (B.length + 1 - (i + 1)) * 2)).drop ((0 + i) * 2 + min 1 (B.length + 1 - i) * 2)) = ABlk.row 93 2 (ints _)
      rw [hmm, hm1, Nat.zero_add, Nat.zero_add]
      refine congrArg (ABlk.row 93 2) (hWe.trans ?_)
      rw [ints_take, ints_drop, prs_take, prs_drop]
      exact cells_mid B p (by omega), trivial⟩ (by simp [tupA, hpLt, tmLt, AV.lt, AE.lt, AC.lt, LL_cons, LL_nil, idOk, ABlk.lt, ints_LL, GB, pC]) rfl (by simp [GB])
end Go.Proofs.YtimknijehaamlaaDoor
