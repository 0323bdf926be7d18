/-
  Contracts: the law's polynomials: degree, common, shifted, polynomial.
-/
import Derived.Test.YtimknijehaamlaaDoorSwS6
import Derived.Test.YtimknijehaamlaaDoorSwE10
set_option linter.unusedSimpArgs false
set_option linter.unusedVariables false
namespace Go.Proofs.YtimknijehaamlaaDoor
open Go Go.AH Go.Lin
set_option maxRecDepth 100000
set_option maxHeartbeats 1000000

/-- A polynomial's coefficients in 201 places. -/
def cN (x : Nat) : List Int := coL (fun j => x.testBit j) 201
theorem cN_len (x : Nat) : (cN x).length = 201 := coL_len _ _
theorem cN_get (x : Nat) {j : Nat} (h : j < 201) : (cN x).getD j 0 = bI (fun j => x.testBit j) j := coL_get h
theorem bI_eq0 {f : Nat → Bool} {j : Nat} : decide (bI f j = 0) = !f j := by
  unfold bI
  cases f j <;> rfl
theorem degree_spec (x : Nat) (hx : lenK x ≤ 201) : FDet Tryd.prog 56 [.c (.rs 0 0 201)] [(0, .ro (ints (cN x)))] 1 (.c (.int .i64 ((lenK x : Int) - 1))) [] 1 := by
  have hl : (ints (cN x)).length = 201 := by rw [ints_len, cN_len]
  refine FSpec.body2 tok true Tryd.func56 ?_
  refine Wk.on ?_
  refine Tr.loop (md := true) (X := Nat) (st := fun k => ⟨[(0, .c (.rs 0 0 201)), (3, .c (.int .i64 ((k : Int) - 1)))], [(0, .ro (ints (cN x)))], 1, 19, 1⟩) (inv := fun k => k ≤ 201 ∧ lenK x ≤ k) (μ := fun k => k) (x0 := 201) (l := []) tok ⟨by omega, hx⟩ ?_ ?_
  · exact Sub.nil ⟨rfl, rfl, (by simp [tab64_LL, pC, castL, prs, tV, tH, tK]), rfl, (by simp [tupA, hpLt, tmLt, AV.lt, AE.lt, AC.lt, LL_cons, LL_nil, idOk, ABlk.lt, ints_LL, GB, tab64_LL, pC, castL, prs, tV, tH, tK]), (by simp [tupA, hpLt, tmLt, AV.lt, AE.lt, AC.lt, LL_cons, LL_nil, idOk, ABlk.lt, ints_LL, GB, tab64_LL, pC, castL, prs, tV, tH, tK])⟩ (by (repeat (first | exact trivial | refine ⟨trivial, ?_⟩ | refine ⟨rfl, ?_⟩))) (by (repeat (first | exact trivial | refine ⟨trivial, ?_⟩ | refine ⟨rfl, ?_⟩)))
  rintro k ⟨hk, hxk⟩
  by_cases hk0 : k = 0
  · subst hk0
    have hz := lenK_eq0 (s := x) (by omega)
    refine Wk.on ?_
    exact AH.Fin.nil2 ⟨by rw [hz]; rfl, rfl, rfl⟩
  · obtain ⟨j, rfl⟩ : ∃ j, k = j + 1 := ⟨k - 1, by omega⟩
    have hi : ((j + 1 : Nat) : Int) - 1 = ((j : Nat) : Int) := by omega
    have hg := cN_get x (j := j) (by omega)
    rw [hi]
    refine Wk.on ?_
    rw [decide_eq_true (show (0 : Int) ≤ ((j : Nat) : Int) by omega)]
    refine Wk.on ?_
    rw [iget, hg]
    refine Wk.on ?_
    rw [bI_eq0]
    cases hb : x.testBit j
    · have hx2 : lenK x ≤ j := by
        by_cases e : x = 0
        · rw [e, lenK_zero]; omega
        · by_cases e2 : lenK x = j + 1
          · have := lenK_top e
            rw [e2, Nat.add_sub_cancel, hb] at this; cases this
          · omega
      refine Wk.on ?_
      refine Again.mk (j) (Sub.nil ⟨rfl, rfl, (by simp [tab64_LL, pC, castL, prs, tV, tH, tK]), rfl, (by simp [tupA, hpLt, tmLt, AV.lt, AE.lt, AC.lt, LL_cons, LL_nil, idOk, ABlk.lt, ints_LL, GB, tab64_LL, pC, castL, prs, tV, tH, tK]), (by simp [tupA, hpLt, tmLt, AV.lt, AE.lt, AC.lt, LL_cons, LL_nil, idOk, ABlk.lt, ints_LL, GB, tab64_LL, pC, castL, prs, tV, tH, tK])⟩ (by (repeat (first | exact trivial | refine ⟨trivial, ?_⟩ | refine ⟨rfl, ?_⟩))) (by (repeat (first | exact trivial | refine ⟨trivial, ?_⟩ | refine ⟨rfl, ?_⟩)))) (⟨by omega, hx2⟩) (by omega)
    · have hx2 : lenK x = j + 1 := by
        by_cases e2 : lenK x ≤ j
        · rw [Nat.testBit_lt_two_pow (lenK_le.1 e2)] at hb; cases hb
        · omega
      refine Wk.on ?_
      exact AH.Fin.nil2 ⟨by rw [hx2, hi]; rfl, rfl, rfl⟩
theorem cut_row {A : List Int} (h : A.length = 201) : (((ints A).drop 0).take (201 * 1)) = ints A := by
  rw [List.drop_zero, List.take_of_length_le (by rw [ints_len]; omega)]
theorem bI_val (f : Nat → Bool) (j : Nat) : bI f j = ((f j).toNat : Nat) := by
  unfold bI
  cases f j <;> rfl
theorem coL_set {f g : Nat → Bool} {m i : Nat} (h : ∀ j, j ≠ i → f j = g j) : (coL f m).set i (bI g i) = coL g m := by
  apply List.ext_getElem
  · simp [coL_len]
  · intro j h1 h2
    have hj : j < m := by simpa [coL_len] using h2
    have e1 := coL_get (f := f) hj
    have e2 := coL_get (f := g) hj
    rw [List.getD_eq_getElem?_getD, List.getElem?_eq_getElem (by rw [coL_len]; exact hj), Option.getD_some] at e1 e2
    rw [List.getElem_set, e1, e2]
    by_cases e : i = j
    · rw [if_pos e, e]
    · rw [if_neg e]
      unfold bI
      rw [h j (fun x => e x.symm)]
/-- a with b's coefficients from k on added, by places up. -/
def part (x y b k : Nat) (j : Nat) : Bool := x.testBit j != (decide (b + k ≤ j) && y.testBit (j - b))
theorem part_top {x y b k : Nat} (h : lenK y ≤ k) : coL (part x y b k) 201 = cN x := by
  rw [cN]
  congr 1
  funext j
  unfold part
  by_cases e : b + k ≤ j
  · rw [Nat.testBit_lt_two_pow (lenK_le.1 (show lenK y ≤ j - b by omega)), Bool.and_false]; simp
  · rw [decide_eq_false e]; simp
theorem part_zero (x y b : Nat) : coL (part x y b 0) 201 = cN (x ^^^ (y <<< b)) := by
  rw [cN]
  congr 1
  funext j
  unfold part
  rw [Nat.testBit_xor, Nat.testBit_shiftLeft, Nat.add_zero]
theorem part_succ (x y b k : Nat) : (coL (part x y b (k + 1)) 201).set (k + b) (bI (part x y b k) (k + b)) = coL (part x y b k) 201 := by
  refine coL_set fun j hj => ?_
  unfold part
  congr 2
  exact decide_eq_decide.2 (by omega)
theorem part_at (x y b k : Nat) : (bI (part x y b (k + 1)) (k + b) + bI (fun j => y.testBit j) k) % 2 = bI (part x y b k) (k + b) := by
  have e1 : part x y b (k + 1) (k + b) = x.testBit (k + b) := by
    unfold part
    rw [decide_eq_false (show ¬ b + (k + 1) ≤ k + b by omega), Bool.false_and]; simp
  have e2 : part x y b k (k + b) = (x.testBit (k + b) != y.testBit k) := by
    unfold part
    rw [decide_eq_true (show b + k ≤ k + b by omega), Nat.add_sub_cancel, Bool.true_and]
  rw [bI_val, bI_val, bI_val, e1, e2]
  cases x.testBit (k + b) <;> cases y.testBit k <;> rfl
theorem lcommon_spec {f x y W : Nat} (hx : lenK x ≤ 61) (hy : lenK y ≤ 61) (hf : mu x y < f) (hW : lenK (stp f x y) = W) : FDet Tryd.prog 32 [.c (.rs 0 0 201), .c (.rs 1 0 201)] [(0, .ro (ints (cN x))), (1, .ro (ints (cN y)))] 2 (.c (.int .i64 ((W : Int) - 1))) [] 2 := by
  have cl : ∀ z, (ints (cN z)).length = 201 := fun z => by rw [ints_len, cN_len]
  have hcx := cut_row (cN_len x)
  have hcy := cut_row (cN_len y)
  refine FSpec.body2 tok true Tryd.func32 ?_
  refine Wk.on ?_
  refine Tr.loopU (md := true) (X := Nat × Nat) (fun q => ⟨[(5, .c (.rs 2 0 201)), (6, .c (.rs 3 0 201))], [(2, .row 3 1 (ints (cN q.1))), (3, .row 3 1 (ints (cN q.2)))], 4, 57, 2⟩) (fun q => lenK q.1 ≤ 61 ∧ lenK q.2 ≤ 61 ∧ ∃ f, mu q.1 q.2 < f ∧ lenK (stp f q.1 q.2) = W) (fun q => mu q.1 q.2) (x, y) tok ⟨hx, hy, f, hf, hW⟩ (Under.wk [] ⟨rfl, rfl, Nat.le_of_ble_eq_true rfl, Nat.le_of_ble_eq_true rfl⟩ rfl ⟨.inr ⟨⟨rfl, rfl, rfl⟩, trivial⟩, .inr ⟨⟨rfl, rfl, rfl⟩, trivial⟩, trivial⟩ ⟨.inr (.inl ⟨⟨rfl, rfl⟩, .inl (hcx.trans (ints_ren _ _).symm)⟩), .inr (.inl ⟨⟨rfl, rfl⟩, .inl (hcy.trans (ints_ren _ _).symm)⟩), trivial⟩ rfl (by simp [tupA, hpLt, tmLt, AV.lt, AE.lt, AC.lt, LL_cons, LL_nil, idOk, ABlk.lt, ints_LL, GB, tab64_LL, pC, castL, prs, tV, tH, tK]) (by simp [tupA, hpLt, tmLt, AV.lt, AE.lt, AC.lt, LL_cons, LL_nil, idOk, ABlk.lt, ints_LL, GB, tab64_LL, pC, castL, prs, tV, tH, tK])) ?_
  clear hcx hcy hf hW hx hy
  rintro ⟨x, y⟩ ⟨hx, hy, f, hf, hW⟩
  dsimp only at hx hy hf hW ⊢
  obtain ⟨f, rfl⟩ : ∃ g, f = g + 1 := ⟨f - 1, by omega⟩
  have clx := cl x
  have cly := cl y
  have dx := degree_spec x (by omega)
  have dy := degree_spec y (by omega)
  obtain ⟨lx, hlx⟩ : ∃ l, l = lenK x := ⟨_, rfl⟩
  obtain ⟨ly, hly⟩ : ∃ l, l = lenK y := ⟨_, rfl⟩
  rw [← hlx] at dx
  rw [← hly] at dy
  refine Wk.on ?_
  refine CallA.ro2 [3] (.c (.int .i64 ((ly : Int) - 1))) (dy) ?_
  refine Wk.on ?_
  by_cases hy0 : y = 0
  · subst hy0
    have hl0 : ly = 0 := hly
    rw [decide_eq_false (show ¬ (0 : Int) ≤ (ly : Int) - 1 by omega)]
    refine Wk.on ?_
    refine CallA.ro2 [2] (.c (.int .i64 ((lx : Int) - 1))) (dx) ?_
    refine Wk.on ?_
    rw [stp_end, ← hlx] at hW
    exact AH.Fin.nil2 ⟨by rw [hW]; rfl, rfl, rfl⟩
  have hlp := lenK_pos hy0
  rw [decide_eq_true (show (0 : Int) ≤ (ly : Int) - 1 by omega)]
  refine Wk.on ?_
  refine CallA.ro2 [2] (.c (.int .i64 ((lx : Int) - 1))) (dx) ?_
  refine Wk.on ?_
  refine CallA.ro2 [3] (.c (.int .i64 ((ly : Int) - 1))) (dy) ?_
  refine Wk.on ?_
  by_cases hlt : lenK x < lenK y
  · rw [stp_swap hy0 hlt] at hW
    have hm : mu (y, x).fst (y, x).snd < mu x y := mu_swap hlt
    have hm2 : mu y x < mu x y := hm
    rw [decide_eq_true (show (lx : Int) - 1 < (ly : Int) - 1 by omega)]
    refine Wk.on ?_
    refine Again.mk ((y, x)) (Sub.new [(2, 3), (3, 2)] ⟨rfl, rfl, (by simp [tupA, hpLt, tmLt, AV.lt, AE.lt, AC.lt, LL_cons, LL_nil, idOk, ABlk.lt, ints_LL, GB, tab64_LL, pC, castL, prs, tV, tH, tK])⟩ rfl (by (repeat (first | exact trivial | refine ⟨trivial, ?_⟩ | refine ⟨rfl, ?_⟩))) ⟨by show some (ABlk.row 3 1 (ints (cN y))) = some (ABlk.row 3 1 ((ints _).map _)); rw [ints_ren], by show some (ABlk.row 3 1 (ints (cN x))) = some (ABlk.row 3 1 ((ints _).map _)); rw [ints_ren], trivial⟩ rfl (by simp [tupA, hpLt, tmLt, AV.lt, AE.lt, AC.lt, LL_cons, LL_nil, idOk, ABlk.lt, ints_LL, GB, tab64_LL, pC, castL, prs, tV, tH, tK]) (by simp [tupA, hpLt, tmLt, AV.lt, AE.lt, AC.lt, LL_cons, LL_nil, idOk, ABlk.lt, ints_LL, GB, tab64_LL, pC, castL, prs, tV, tH, tK])) (⟨hy, hx, f, by omega, hW⟩) (by omega)
  · rw [stp_xor hy0 (by omega)] at hW
    have hm := mu_xor hy0 (show lenK y ≤ lenK x by omega)
    have hd := len_dec hy0 (show lenK y ≤ lenK x by omega)
    rw [decide_eq_false (show ¬ (lx : Int) - 1 < (ly : Int) - 1 by omega)]
    refine Wk.on ?_
    refine CallA.ro2 [2] (.c (.int .i64 ((lx : Int) - 1))) (dx) ?_
    refine Wk.on ?_
    refine CallA.ro2 [3] (.c (.int .i64 ((ly : Int) - 1))) (dy) ?_
    refine Wk.on ?_
    obtain ⟨b, hb⟩ : ∃ b, b = lenK x - lenK y := ⟨_, rfl⟩
    have hbi : ((lx : Int) - 1) - ((ly : Int) - 1) = (b : Int) := by omega
    rw [hbi]
    refine Wk.on ?_
    refine CallA.ro2 [3] (.c (.int .i64 ((ly : Int) - 1))) (dy) ?_
    refine Wk.on ?_
    rw [← hb] at hW hm hd
    have htop := part_top (x := x) (b := b) (k := ly) (y := y) (by omega)
    refine Tr.loop (md := true) (X := Nat) (st := fun k => ⟨[(5, .c (.rs 2 0 201)), (6, .c (.rs 3 0 201)), (8, .c (.int .i64 b)), (9, .c (.int .i64 ((k : Int) - 1)))], [(2, .row 3 1 (ints (coL (part x y b k) 201))), (3, .row 3 1 (ints (cN y)))], 4, 57, 2⟩) (inv := fun k => k ≤ ly) (μ := fun k => k) (x0 := ly) (l := []) tok (by omega) ?_ ?_
    · exact Sub.nil ⟨rfl, rfl, (by simp [tab64_LL, pC, castL, prs, tV, tH, tK]), rfl, (by simp [tupA, hpLt, tmLt, AV.lt, AE.lt, AC.lt, LL_cons, LL_nil, idOk, ABlk.lt, ints_LL, GB, tab64_LL, pC, castL, prs, tV, tH, tK]), (by simp [tupA, hpLt, tmLt, AV.lt, AE.lt, AC.lt, LL_cons, LL_nil, idOk, ABlk.lt, ints_LL, GB, tab64_LL, pC, castL, prs, tV, tH, tK])⟩ (by (repeat (first | exact trivial | refine ⟨trivial, ?_⟩ | refine ⟨rfl, ?_⟩))) ⟨by show ABlk.row 3 1 (ints (cN x)) = ABlk.row 3 1 (ints (coL (part x y b ly) 201)); rw [htop], rfl, trivial⟩
    intro k hk
    have clk : (ints (coL (part x y b k) 201)).length = 201 := by rw [ints_len, coL_len]
    by_cases hk0 : k = 0
    · subst hk0
      have hz := part_zero x y b
      have hm3 : mu (x ^^^ y <<< b, y).fst (x ^^^ y <<< b, y).snd < mu x y := hm
      have hm4 : mu (x ^^^ y <<< b) y < mu x y := hm
      have hm5 : mu (x ^^^ y <<< b, y).fst (x ^^^ y <<< b, y).snd < f := by omega
      refine Wk.on ?_
      exact Again.mk (x ^^^ y <<< b, y) (Sub.nil ⟨rfl, rfl, (by simp [tab64_LL, pC, castL, prs, tV, tH, tK]), rfl, (by simp [tupA, hpLt, tmLt, AV.lt, AE.lt, AC.lt, LL_cons, LL_nil, idOk, ABlk.lt, ints_LL, GB, tab64_LL, pC, castL, prs, tV, tH, tK]), (by simp [tupA, hpLt, tmLt, AV.lt, AE.lt, AC.lt, LL_cons, LL_nil, idOk, ABlk.lt, ints_LL, GB, tab64_LL, pC, castL, prs, tV, tH, tK])⟩ (by (repeat (first | exact trivial | refine ⟨trivial, ?_⟩ | refine ⟨rfl, ?_⟩))) ⟨by show ABlk.row 3 1 (ints (coL (part x y b 0) 201)) = ABlk.row 3 1 (ints (cN (x ^^^ y <<< b))); rw [hz], rfl, trivial⟩) ⟨by show lenK (x ^^^ y <<< b) ≤ 61; omega, hy, f, hm5, hW⟩ (by omega)
    · obtain ⟨j, rfl⟩ : ∃ j, k = j + 1 := ⟨k - 1, by omega⟩
      have hi : ((j + 1 : Nat) : Int) - 1 = ((j : Nat) : Int) := by omega
      have hjb : ((j : Nat) : Int) + (b : Int) = ((j + b : Nat) : Int) := by omega
      have g1 := coL_get (f := part x y b (j + 1)) (m := 201) (j := j + b) (by omega)
      have g2 := cN_get y (j := j) (by omega)
      have hpa := part_at x y b j
      have hps := part_succ x y b j
      have hu := bI_01 (part x y b (j + 1)) (j + b)
      have hv := bI_01 (fun j => y.testBit j) j
      generalize bI (part x y b (j + 1)) (j + b) = u at *
      generalize bI (fun j => y.testBit j) j = v at *
      generalize bI (part x y b j) (j + b) = t at *
      rw [hi]
      refine Wk.on ?_
      rw [decide_eq_true (show (0 : Int) ≤ ((j : Nat) : Int) by omega)]
      refine Wk.on ?_
      refine Tr.draw (md := true) [⟨[], [39, 40, 41, 42, 43, 44, 45, 46, 47, 48, 49, 50, 51, 52, 53], [], [], []⟩, ⟨[], [38, 40, 42, 43, 44, 45, 46, 47, 48, 49, 50, 51, 52, 53], [0], [], []⟩, ⟨[], [38, 39, 42, 43, 44, 45, 46, 47, 48, 49, 50, 51, 52, 53], [0, 1], [], []⟩, ⟨[1, 2], [38, 42, 43, 44, 45, 46, 47, 48, 49, 50, 51, 52, 53], [0], [], []⟩, ⟨[], [38, 39, 40, 41, 43, 44, 45, 48, 49, 50, 51], [0, 1, 2, 3], [], []⟩, ⟨[], [38, 39, 40, 41, 42, 44, 48, 49, 50, 51], [0, 1, 2, 3, 4], [], []⟩, ⟨[], [38, 39, 40, 41, 42, 43, 48, 49, 50, 51], [0, 1, 2, 3, 4, 5], [], []⟩, ⟨[5, 6], [38, 39, 40, 41, 42, 48, 49, 50, 51], [0, 1, 2, 3, 4], [], []⟩, ⟨[4, 5, 6, 7], [38, 39, 40, 41, 48, 49, 50, 51], [0, 1, 2, 3], [], []⟩, ⟨[4, 5, 6, 7, 8], [38, 39, 40, 41, 48, 49, 50, 51], [0, 1, 2, 3], [], []⟩, ⟨[], [38, 39, 40, 41, 42, 43, 44, 45, 46, 47, 49], [0, 1, 2, 3, 4, 5, 6, 7, 8, 9], [], []⟩, ⟨[], [38, 39, 40, 41, 42, 43, 44, 45, 46, 47, 48], [0, 1, 2, 3, 4, 5, 6, 7, 8, 9, 10], [], []⟩, ⟨[10, 11], [38, 39, 40, 41, 42, 43, 44, 45, 46, 47], [0, 1, 2, 3, 4, 5, 6, 7, 8, 9], [], []⟩, ⟨[10, 11, 12], [38, 39, 40, 41, 42, 43, 44, 45, 46, 47], [0, 1, 2, 3, 4, 5, 6, 7, 8, 9], [], []⟩, ⟨[4, 5, 6, 7, 8, 9, 10, 11, 12, 13], [38, 39, 40, 41], [0, 1, 2, 3], [], []⟩, ⟨[4, 5, 6, 7, 8, 9, 10, 11, 12, 13, 14], [38, 39, 40, 41], [0, 1, 2, 3], [], []⟩] tok (by kernel_rfl) (by kernel_rfl) ?_
      refine Wk.on ?_
      rw [hjb, iget, g1]
      refine Wk.on ?_
      rw [iget, g2]
      refine Wk.on ?_
      rw [hpa]
      refine Wk.on ?_
      refine Again.mk (j) (Sub.nil ⟨rfl, rfl, (by simp [tab64_LL, pC, castL, prs, tV, tH, tK]), rfl, (by simp [tupA, hpLt, tmLt, AV.lt, AE.lt, AC.lt, LL_cons, LL_nil, idOk, ABlk.lt, ints_LL, GB, tab64_LL, pC, castL, prs, tV, tH, tK]), (by simp [tupA, hpLt, tmLt, AV.lt, AE.lt, AC.lt, LL_cons, LL_nil, idOk, ABlk.lt, ints_LL, GB, tab64_LL, pC, castL, prs, tV, tH, tK])⟩ (by (repeat (first | exact trivial | refine ⟨trivial, ?_⟩ | refine ⟨rfl, ?_⟩))) ⟨by show ABlk.row 3 1 ((ints (coL (part x y b (j + 1)) 201)).set (0 + Int.toNat (((j + b : Nat) : Int)) * 1) (.int .i64 t)) = ABlk.row 3 1 (ints (coL (part x y b j) 201)); rw [iset, hps], rfl, trivial⟩) (by omega) (by omega)
end Go.Proofs.YtimknijehaamlaaDoor
