/-
  Contracts: Grid for any numbers, the reference's Grid; LightGrids.
-/
import Derived.Test.YtimknijehaamlaaDoorSwE0
set_option linter.unusedSimpArgs false
set_option linter.unusedVariables false
namespace Go.Proofs.YtimknijehaamlaaDoor
open Go Go.AH Go.Lin
set_option maxRecDepth 100000
set_option maxHeartbeats 1000000

def grSt : Nat × Int × Int → AS
  | (k, r, c) => ⟨[(0, .c (.int .i64 r)), (1, .c (.int .i64 c)), (5, .c (.int .i64 k))], [(100001, .ro tab64)], 0, 106, 0⟩
def gdS2 (h w : Nat) : Nat × List (Nat × Nat) → AS
  | (i, []) => ⟨[(0, .c (.int .i64 h)), (1, .c (.int .i64 w)), (6, .c .nils), (7, .c (.int .i64 i))], [], 2, 47, 0⟩
  | (i, e :: E) => ⟨[(0, .c (.int .i64 h)), (1, .c (.int .i64 w)), (6, .c (.row 1 (e :: E).length)), (7, .c (.int .i64 i))], [(1, .row 38 2 (ints (prs (e :: E))))], 2, 47, 0⟩
def gW (m : Nat) : List (Nat × Nat) → AV
  | [] => .t [.c (.int .i64 m), .c .nils]
  | b :: L => .t [.c (.int .i64 m), .c (.row 0 (b :: L).length)]
theorem refGrid_spec {h w : Nat} (h1 : 1 ≤ h) (w1 : 1 ≤ w) (hw : h * w ≤ 16) : FDet Tryd.prog 24 [.c (.int .i64 h), .c (.int .i64 w)] [] 0 (gW (h * w) (gridL h w (h * w))) (gH (gridL h w (h * w))) (gK (gridL h w (h * w))) := by
  have h16 : h ≤ 16 := Nat.le_trans (Nat.le_mul_of_pos_right h w1) hw
  have w16 : w ≤ 16 := Nat.le_trans (Nat.le_mul_of_pos_left w h1) hw
  have hmul : ((h : Nat) : Int) * ((w : Nat) : Int) = ((h * w : Nat) : Int) := (Int.natCast_mul h w).symm
  refine FSpec.body2 tok true Tryd.func24 ?_
  refine Wk.on ?_
  refine Tr.loopU (md := true) (X := Nat × List (Nat × Nat)) (gdS2 h w) (fun q => q.1 ≤ h * w ∧ gridL h w q.1 = q.2) (fun q => h * w - q.1) (0, []) tok ⟨by omega, rfl⟩ (Under.wk [] ⟨rfl, rfl, Nat.le_of_ble_eq_true rfl, Nat.le_of_ble_eq_true rfl⟩ rfl ⟨.inl rfl, .inl rfl, .inl rfl, .inl rfl, trivial⟩ trivial rfl (by simp [tupA, hpLt, tmLt, AV.lt, AE.lt, AC.lt, LL_cons, LL_nil, idOk, ABlk.lt, ints_LL, GB, tab64_LL, pC, castL, prs, gdS2, gW, gH, gK, grSt]) (by simp [tupA, hpLt, tmLt, AV.lt, AE.lt, AC.lt, LL_cons, LL_nil, idOk, ABlk.lt, ints_LL, GB, tab64_LL, pC, castL, prs, gdS2, gW, gH, gK, grSt])) ?_
  rintro ⟨i, L⟩ ⟨hi, hgl⟩
  dsimp only at hi hgl
  have hLl := gridL_len h w i
  rw [hgl] at hLl
  by_cases hil : i < h * w
  · have hsu := gridL_succ h w i
    rw [hgl] at hsu
    have hrem : ((i : Nat) : Int) % ((w : Nat) : Int) = ((i % w : Nat) : Int) := rfl
    have hmw : i % w < w := Nat.mod_lt _ w1
    rcases L with _ | ⟨b0, L0⟩
    · skip
      have hst : ∀ i : Nat, gdS2 h w (i, []) = ⟨[(0, .c (.int .i64 h)), (1, .c (.int .i64 w)), (6, .c .nils), (7, .c (.int .i64 i))], [], 2, 47, 0⟩ := fun i => rfl
      rw [hst]
      refine Wk.on ?_
      rw [hmul]
      refine Wk.on ?_
      rw [decide_eq_true (show ((i : Nat) : Int) < ((h * w : Nat) : Int) by omega)]
      refine Wk.on ?_
      rw [hrem]
      by_cases c1 : i % w < w - 1
      · rw [decide_eq_true (show ((i % w : Nat) : Int) + 1 < ((w : Nat) : Int) by omega)]
        refine Wk.on ?_
        rw [hmul]
        by_cases c2 : i + w < h * w
        · rw [decide_eq_true (show ((i : Nat) : Int) + ((w : Nat) : Int) < ((h * w : Nat) : Int) by omega)]
          refine Wk.on ?_
          refine ⟨⟨Nat.le_of_ble_eq_true rfl, rfl, rfl, rfl, by decide, by decide⟩, ?_⟩
          refine Wk.on ?_
          have hgf : gridF h w i = [(i, i + 1), (i, i + w)] := by rw [gridF, if_pos c1, if_pos c2]; rfl
          rw [hgf] at hsu
          refine Again.under (i + 1, [(i, i + 1), (i, i + w)]) ?_ ⟨by omega, hsu⟩ (by show h * w - (i + 1) < h * w - i; omega)
          exact Under.wk [(1, 5)] ⟨rfl, rfl, Nat.le_of_ble_eq_true rfl, Nat.le_of_ble_eq_true rfl⟩ rfl ⟨.inl rfl, .inl rfl, .inl rfl, .inl rfl, trivial⟩ ⟨.inl (by show ABlk.row 38 2 _ = ABlk.row 38 2 ((ints _).map _); rw [ints_ren]; rfl), trivial⟩ rfl (by simp [tupA, hpLt, tmLt, AV.lt, AE.lt, AC.lt, LL_cons, LL_nil, idOk, ABlk.lt, ints_LL, GB, tab64_LL, pC, castL, prs, gdS2, gW, gH, gK, grSt]) (by simp [tupA, hpLt, tmLt, AV.lt, AE.lt, AC.lt, LL_cons, LL_nil, idOk, ABlk.lt, ints_LL, GB, tab64_LL, pC, castL, prs, gdS2, gW, gH, gK, grSt])
        · rw [decide_eq_false (show ¬ ((i : Nat) : Int) + ((w : Nat) : Int) < ((h * w : Nat) : Int) by omega)]
          refine Wk.on ?_
          have hgf : gridF h w i = [(i, i + 1)] := by rw [gridF, if_pos c1, if_neg c2]; rfl
          rw [hgf] at hsu
          refine Again.under (i + 1, [(i, i + 1)]) ?_ ⟨by omega, hsu⟩ (by show h * w - (i + 1) < h * w - i; omega)
          exact Under.wk [(1, 3)] ⟨rfl, rfl, Nat.le_of_ble_eq_true rfl, Nat.le_of_ble_eq_true rfl⟩ rfl ⟨.inl rfl, .inl rfl, .inl rfl, .inl rfl, trivial⟩ ⟨.inl (by show ABlk.row 38 2 _ = ABlk.row 38 2 ((ints _).map _); rw [ints_ren]; rfl), trivial⟩ rfl (by simp [tupA, hpLt, tmLt, AV.lt, AE.lt, AC.lt, LL_cons, LL_nil, idOk, ABlk.lt, ints_LL, GB, tab64_LL, pC, castL, prs, gdS2, gW, gH, gK, grSt]) (by simp [tupA, hpLt, tmLt, AV.lt, AE.lt, AC.lt, LL_cons, LL_nil, idOk, ABlk.lt, ints_LL, GB, tab64_LL, pC, castL, prs, gdS2, gW, gH, gK, grSt])
      · rw [decide_eq_false (show ¬ ((i % w : Nat) : Int) + 1 < ((w : Nat) : Int) by omega)]
        refine Wk.on ?_
        rw [hmul]
        by_cases c2 : i + w < h * w
        · rw [decide_eq_true (show ((i : Nat) : Int) + ((w : Nat) : Int) < ((h * w : Nat) : Int) by omega)]
          refine Wk.on ?_
          have hgf : gridF h w i = [(i, i + w)] := by rw [gridF, if_neg c1, if_pos c2]; rfl
          rw [hgf] at hsu
          refine Again.under (i + 1, [(i, i + w)]) ?_ ⟨by omega, hsu⟩ (by show h * w - (i + 1) < h * w - i; omega)
          exact Under.wk [(1, 3)] ⟨rfl, rfl, Nat.le_of_ble_eq_true rfl, Nat.le_of_ble_eq_true rfl⟩ rfl ⟨.inl rfl, .inl rfl, .inl rfl, .inl rfl, trivial⟩ ⟨.inl (by show ABlk.row 38 2 _ = ABlk.row 38 2 ((ints _).map _); rw [ints_ren]; rfl), trivial⟩ rfl (by simp [tupA, hpLt, tmLt, AV.lt, AE.lt, AC.lt, LL_cons, LL_nil, idOk, ABlk.lt, ints_LL, GB, tab64_LL, pC, castL, prs, gdS2, gW, gH, gK, grSt]) (by simp [tupA, hpLt, tmLt, AV.lt, AE.lt, AC.lt, LL_cons, LL_nil, idOk, ABlk.lt, ints_LL, GB, tab64_LL, pC, castL, prs, gdS2, gW, gH, gK, grSt])
        · rw [decide_eq_false (show ¬ ((i : Nat) : Int) + ((w : Nat) : Int) < ((h * w : Nat) : Int) by omega)]
          refine Wk.on ?_
          have hgf : gridF h w i = [] := by rw [gridF, if_neg c1, if_neg c2]; rfl
          rw [hgf] at hsu
          refine Again.under (i + 1, []) ?_ ⟨by omega, hsu⟩ (by show h * w - (i + 1) < h * w - i; omega)
          rw [hst]
          exact Under.wk [] ⟨rfl, rfl, Nat.le_of_ble_eq_true rfl, Nat.le_of_ble_eq_true rfl⟩ rfl ⟨.inl rfl, .inl rfl, .inl rfl, .inl rfl, trivial⟩ trivial rfl (by simp [tupA, hpLt, tmLt, AV.lt, AE.lt, AC.lt, LL_cons, LL_nil, idOk, ABlk.lt, ints_LL, GB, tab64_LL, pC, castL, prs, gdS2, gW, gH, gK, grSt]) (by simp [tupA, hpLt, tmLt, AV.lt, AE.lt, AC.lt, LL_cons, LL_nil, idOk, ABlk.lt, ints_LL, GB, tab64_LL, pC, castL, prs, gdS2, gW, gH, gK, grSt])
    · skip
      generalize hLL : b0 :: L0 = L at *
      have hml : (ints (prs L)).length = L.length * 2 := by rw [ints_len, prs_len]
      have hst : ∀ i : Nat, gdS2 h w (i, L) = ⟨[(0, .c (.int .i64 h)), (1, .c (.int .i64 w)), (6, .c (.row 1 L.length)), (7, .c (.int .i64 i))], [(1, .row 38 2 (ints (prs L)))], 2, 47, 0⟩ := fun i => by rw [← hLL]; rfl
      rw [hst]
      refine Wk.on ?_
      rw [hmul]
      refine Wk.on ?_
      rw [decide_eq_true (show ((i : Nat) : Int) < ((h * w : Nat) : Int) by omega)]
      refine Wk.on ?_
      rw [hrem]
      by_cases c1 : i % w < w - 1
      · rw [decide_eq_true (show ((i % w : Nat) : Int) + 1 < ((w : Nat) : Int) by omega)]
        refine Wk.on ?_
        refine ⟨⟨Nat.le_of_ble_eq_true rfl, rfl, rfl, by rw [hml], by show ((L.length + 1 : Nat) : Int) * 16 ≤ _; omega, by omega⟩, ?_⟩
        refine Wk.on ?_
        rw [hmul]
        by_cases c2 : i + w < h * w
        · rw [decide_eq_true (show ((i : Nat) : Int) + ((w : Nat) : Int) < ((h * w : Nat) : Int) by omega)]
          refine Wk.on ?_
          refine ⟨⟨Nat.le_of_ble_eq_true rfl, rfl, rfl, by rw [List.length_append, hml]; show L.length * 2 + 2 = (L.length + 1) * 2; omega, by show ((L.length + 1 + 1 : Nat) : Int) * 16 ≤ _; omega, by omega⟩, ?_⟩
          refine Wk.on ?_
          have hgf : gridF h w i = [(i, i + 1), (i, i + w)] := by rw [gridF, if_pos c1, if_pos c2]; rfl
          rw [hgf] at hsu
          have hal : L ++ [(i, i + 1), (i, i + w)] = b0 :: (L0 ++ [(i, i + 1), (i, i + w)]) := by rw [← hLL]; rfl
          have hll : L.length + 2 = (b0 :: (L0 ++ [(i, i + 1), (i, i + w)])).length := by rw [← hal]; simp
          refine Again.under (i + 1, b0 :: (L0 ++ [(i, i + 1), (i, i + w)])) ?_ ⟨by omega, by rw [hsu, ← hal]⟩ (by show h * w - (i + 1) < h * w - i; omega)
          exact Under.wk [(1, 5)] ⟨rfl, rfl, Nat.le_of_ble_eq_true rfl, Nat.le_of_ble_eq_true rfl⟩ rfl ⟨.inl rfl, .inl rfl, .inl (by show AV.c (.row _ (L.length + 2)) = _; rw [hll]; rfl), .inl rfl, trivial⟩ ⟨.inl (by rw [← hal]; exact congrArg (ABlk.row _ _) (prs_lie2 _ _ _ _ _ _)), trivial⟩ rfl (by simp [tupA, hpLt, tmLt, AV.lt, AE.lt, AC.lt, LL_cons, LL_nil, idOk, ABlk.lt, ints_LL, GB, tab64_LL, pC, castL, prs, gdS2, gW, gH, gK, grSt]) (by simp [tupA, hpLt, tmLt, AV.lt, AE.lt, AC.lt, LL_cons, LL_nil, idOk, ABlk.lt, ints_LL, GB, tab64_LL, pC, castL, prs, gdS2, gW, gH, gK, grSt])
        · rw [decide_eq_false (show ¬ ((i : Nat) : Int) + ((w : Nat) : Int) < ((h * w : Nat) : Int) by omega)]
          refine Wk.on ?_
          have hgf : gridF h w i = [(i, i + 1)] := by rw [gridF, if_pos c1, if_neg c2]; rfl
          rw [hgf] at hsu
          have hal : L ++ [(i, i + 1)] = b0 :: (L0 ++ [(i, i + 1)]) := by rw [← hLL]; rfl
          have hll : L.length + 1 = (b0 :: (L0 ++ [(i, i + 1)])).length := by rw [← hal]; simp
          refine Again.under (i + 1, b0 :: (L0 ++ [(i, i + 1)])) ?_ ⟨by omega, by rw [hsu, ← hal]⟩ (by show h * w - (i + 1) < h * w - i; omega)
          exact Under.wk [(1, 3)] ⟨rfl, rfl, Nat.le_of_ble_eq_true rfl, Nat.le_of_ble_eq_true rfl⟩ rfl ⟨.inl rfl, .inl rfl, .inl (by show AV.c (.row _ (L.length + 1)) = _; rw [hll]; rfl), .inl rfl, trivial⟩ ⟨.inl (by rw [← hal]; exact congrArg (ABlk.row _ _) (prs_lie _ _ _ _)), trivial⟩ rfl (by simp [tupA, hpLt, tmLt, AV.lt, AE.lt, AC.lt, LL_cons, LL_nil, idOk, ABlk.lt, ints_LL, GB, tab64_LL, pC, castL, prs, gdS2, gW, gH, gK, grSt]) (by simp [tupA, hpLt, tmLt, AV.lt, AE.lt, AC.lt, LL_cons, LL_nil, idOk, ABlk.lt, ints_LL, GB, tab64_LL, pC, castL, prs, gdS2, gW, gH, gK, grSt])
      · rw [decide_eq_false (show ¬ ((i % w : Nat) : Int) + 1 < ((w : Nat) : Int) by omega)]
        refine Wk.on ?_
        rw [hmul]
        by_cases c2 : i + w < h * w
        · rw [decide_eq_true (show ((i : Nat) : Int) + ((w : Nat) : Int) < ((h * w : Nat) : Int) by omega)]
          refine Wk.on ?_
          refine ⟨⟨Nat.le_of_ble_eq_true rfl, rfl, rfl, by rw [hml], by show ((L.length + 1 : Nat) : Int) * 16 ≤ _; omega, by omega⟩, ?_⟩
          refine Wk.on ?_
          have hgf : gridF h w i = [(i, i + w)] := by rw [gridF, if_neg c1, if_pos c2]; rfl
          rw [hgf] at hsu
          have hal : L ++ [(i, i + w)] = b0 :: (L0 ++ [(i, i + w)]) := by rw [← hLL]; rfl
          have hll : L.length + 1 = (b0 :: (L0 ++ [(i, i + w)])).length := by rw [← hal]; simp
          refine Again.under (i + 1, b0 :: (L0 ++ [(i, i + w)])) ?_ ⟨by omega, by rw [hsu, ← hal]⟩ (by show h * w - (i + 1) < h * w - i; omega)
          exact Under.wk [(1, 3)] ⟨rfl, rfl, Nat.le_of_ble_eq_true rfl, Nat.le_of_ble_eq_true rfl⟩ rfl ⟨.inl rfl, .inl rfl, .inl (by show AV.c (.row _ (L.length + 1)) = _; rw [hll]; rfl), .inl rfl, trivial⟩ ⟨.inl (by rw [← hal]; exact congrArg (ABlk.row _ _) (prs_lie _ _ _ _)), trivial⟩ rfl (by simp [tupA, hpLt, tmLt, AV.lt, AE.lt, AC.lt, LL_cons, LL_nil, idOk, ABlk.lt, ints_LL, GB, tab64_LL, pC, castL, prs, gdS2, gW, gH, gK, grSt]) (by simp [tupA, hpLt, tmLt, AV.lt, AE.lt, AC.lt, LL_cons, LL_nil, idOk, ABlk.lt, ints_LL, GB, tab64_LL, pC, castL, prs, gdS2, gW, gH, gK, grSt])
        · rw [decide_eq_false (show ¬ ((i : Nat) : Int) + ((w : Nat) : Int) < ((h * w : Nat) : Int) by omega)]
          refine Wk.on ?_
          have hgf : gridF h w i = [] := by rw [gridF, if_neg c1, if_neg c2]; rfl
          rw [hgf] at hsu
          refine Again.under (i + 1, L) ?_ ⟨by omega, by rw [hsu]; exact List.append_nil _⟩ (by show h * w - (i + 1) < h * w - i; omega)
          rw [hst]
          exact Under.wk [] ⟨rfl, rfl, Nat.le_of_ble_eq_true rfl, Nat.le_of_ble_eq_true rfl⟩ rfl ⟨.inl rfl, .inl rfl, .inl rfl, .inl rfl, trivial⟩ ⟨.inl (congrArg (ABlk.row _ _) (ints_ren _ _).symm), trivial⟩ rfl (by simp [tupA, hpLt, tmLt, AV.lt, AE.lt, AC.lt, LL_cons, LL_nil, idOk, ABlk.lt, ints_LL, GB, tab64_LL, pC, castL, prs, gdS2, gW, gH, gK, grSt]) (by simp [tupA, hpLt, tmLt, AV.lt, AE.lt, AC.lt, LL_cons, LL_nil, idOk, ABlk.lt, ints_LL, GB, tab64_LL, pC, castL, prs, gdS2, gW, gH, gK, grSt])
  · obtain hin : i = h * w := by omega
    subst hin
    rw [hgl]
    rcases L with _ | ⟨b0, L0⟩
    · refine Wk.on ?_
      rw [hmul]
      refine Wk.on ?_
      rw [decide_eq_false (show ¬ ((h * w : Nat) : Int) < ((h * w : Nat) : Int) by omega)]
      refine Wk.on ?_
      intro _
      refine Wk.on ?_
      rw [hmul]
      refine Wk.on ?_
      exact AH.Fin.nil2 ⟨rfl, rfl, rfl⟩
    · refine Wk.on ?_
      rw [hmul]
      refine Wk.on ?_
      rw [decide_eq_false (show ¬ ((h * w : Nat) : Int) < ((h * w : Nat) : Int) by omega)]
      refine Wk.on ?_
      intro _
      refine Wk.on ?_
      rw [hmul]
      refine Wk.on ?_
      exact AH.Fin.new [1] _ _ ⟨rfl, rfl, rfl⟩ rfl ⟨by show some (ABlk.row 38 2 _) = some (ABlk.row 38 2 ((ints _).map _)); rw [ints_ren], trivial⟩ rfl (by simp [tupA, hpLt, tmLt, AV.lt, AE.lt, AC.lt, LL_cons, LL_nil, idOk, ABlk.lt, ints_LL, GB, tab64_LL, pC, castL, prs, gdS2, gW, gH, gK, grSt]) (by simp [tupA, hpLt, tmLt, AV.lt, AE.lt, AC.lt, LL_cons, LL_nil, idOk, ABlk.lt, ints_LL, GB, tab64_LL, pC, castL, prs, gdS2, gW, gH, gK, grSt])

theorem grid_bad {r c : Int} (h : r < 1 ∨ c < 1 ∨ 16 < r ∨ 16 < c ∨ 16 < r * c) : FDet Tryd.prog 23 [.c (.int .i64 r), .c (.int .i64 c)] [] 0 (.t [.c (.int .i64 0), .c .nils, .c (.int .i64 1)]) [] 0 := by
  by_cases c1 : min r c < 1
  · skip
    refine FSpec.body2 tok true Tryd.func23 ?_
    refine Wk.on ?_
    rw [decide_eq_true c1]
    refine Wk.on ?_
    exact AH.Fin.nil2 ⟨rfl, rfl, rfl⟩
  by_cases c2 : 16 < max r c
  · skip
    refine FSpec.body2 tok true Tryd.func23 ?_
    refine Wk.on ?_
    rw [decide_eq_false c1]
    refine Wk.on ?_
    rw [decide_eq_true c2]
    refine Wk.on ?_
    exact AH.Fin.nil2 ⟨rfl, rfl, rfl⟩
  have h3 : 16 < r * c := by omega
  obtain ⟨a, rfl⟩ : ∃ a : Nat, r = a := ⟨r.toNat, by omega⟩
  obtain ⟨b, rfl⟩ : ∃ b : Nat, c = b := ⟨c.toNat, by omega⟩
  have hm : ((a : Nat) : Int) * ((b : Nat) : Int) = ((a * b : Nat) : Int) := (Int.natCast_mul a b).symm
  have hab : a * b ≤ 16 * 16 := Nat.mul_le_mul (by omega) (by omega)
  rw [hm] at h3
  refine FSpec.body2 tok true Tryd.func23 ?_
  refine Wk.on ?_
  rw [decide_eq_false c1]
  refine Wk.on ?_
  rw [decide_eq_false c2]
  refine Wk.on ?_
  rw [hm]
  refine Wk.on ?_
  rw [decide_eq_true h3]
  refine Wk.on ?_
  exact AH.Fin.nil2 ⟨rfl, rfl, rfl⟩
def grB (n : Nat) (L : List (Nat × Nat)) : Bool := decide (1 ≤ n ∧ n ≤ 16) && (L.all fun p => decide (p.1 < p.2 ∧ p.2 < n)) && ((List.range (L.length - 1)).all fun i => decide (16 * (L.getD i (0, 0)).1 + (L.getD i (0, 0)).2 < 16 * (L.getD (i + 1) (0, 0)).1 + (L.getD (i + 1) (0, 0)).2))
theorem grB_ok {n : Nat} {L : List (Nat × Nat)} (h : grB n L = true) : Gr n L := by
  rw [grB, Bool.and_eq_true, Bool.and_eq_true, decide_eq_true_eq, List.all_eq_true, List.all_eq_true] at h
  obtain ⟨⟨h1, h2⟩, h3⟩ := h
  refine ⟨h1.1, h1.2, fun i hi => ?_, fun i hi => ?_⟩
  · rw [List.getD_eq_getElem?_getD, List.getElem?_eq_getElem hi]
    exact of_decide_eq_true (h2 _ (List.getElem_mem hi))
  · exact of_decide_eq_true (h3 i (List.mem_range.2 (by omega)))
theorem grids_gr : ∀ h, h < 17 → ∀ w, w < 17 → (decide (1 ≤ h) && decide (1 ≤ w) && decide (h * w ≤ 16)) = true → grB (h * w) (gridL h w (h * w)) = true := by decide +kernel
theorem grid_gr {h w : Nat} (h1 : 1 ≤ h) (w1 : 1 ≤ w) (hw : h * w ≤ 16) : Gr (h * w) (gridL h w (h * w)) := by
  have h16 : h ≤ 16 := Nat.le_trans (Nat.le_mul_of_pos_right h w1) hw
  have w16 : w ≤ 16 := Nat.le_trans (Nat.le_mul_of_pos_left w h1) hw
  exact grB_ok (grids_gr h (by omega) w (by omega) (by rw [decide_eq_true h1, decide_eq_true w1, decide_eq_true hw]; rfl))
theorem um4 (v : Int) : IntKind.i64.wrap (IntKind.u64.wrap v % 4) = ((um v 4 : Nat) : Int) := um_wrap v (n := 4) (by decide) (by decide)
theorem grids_all (r0 c0 : Int) : FDet Tryd.prog 4 [.c (.int .i64 r0), .c (.int .i64 c0)] [(100001, .ro tab64)] 0 (.c (.bool true)) [] 0 := by
  refine FSpec.body2 tok true Tryd.func4 ?_
  refine Wk.on ?_
  refine Tr.loop (md := true) (X := Nat × Int × Int) (st := grSt) (inv := fun q => q.1 ≤ 2) (μ := fun q => 2 - q.1) (x0 := (0, r0, c0)) (l := []) tok (by show 0 ≤ 2; omega) ?_ ?_
  · exact Sub.nil ⟨rfl, rfl, (by simp [tab64_LL, pC, castL, prs, gdS2, gW, gH, gK, grSt]), rfl, (by simp [tupA, hpLt, tmLt, AV.lt, AE.lt, AC.lt, LL_cons, LL_nil, idOk, ABlk.lt, ints_LL, GB, tab64_LL, pC, castL, prs, gdS2, gW, gH, gK, grSt]), (by simp [tupA, hpLt, tmLt, AV.lt, AE.lt, AC.lt, LL_cons, LL_nil, idOk, ABlk.lt, ints_LL, GB, tab64_LL, pC, castL, prs, gdS2, gW, gH, gK, grSt])⟩ (by (repeat (first | exact trivial | refine ⟨trivial, ?_⟩ | refine ⟨rfl, ?_⟩))) (by (repeat (first | exact trivial | refine ⟨trivial, ?_⟩ | refine ⟨rfl, ?_⟩)))
  rintro ⟨k, r, c⟩ hk
  dsimp only at hk
  have hr4 := um4 r
  have hc4 := um4 c
  have hr5 := um_lt r (n := 4) (by decide)
  have hc5 := um_lt c (n := 4) (by decide)
  have hwr := wrap_nn r
  have hwc := wrap_nn c
  by_cases hk2 : k < 2
  · by_cases h1 : r < 1
    · refine Wk.on ?_
      rw [decide_eq_true (show ((k : Nat) : Int) < 2 by omega)]
      refine Wk.on ?_
      refine CallA.ro2 [] (.t [.c (.int .i64 0), .c .nils, .c (.int .i64 1)]) (grid_bad (.inl h1)) ?_
      refine Wk.on ?_
      rw [decide_eq_true h1]
      refine Wk.on ?_
      rw [hr4, hc4]
      exact Again.mk (k + 1, 1 + ((um r 4 : Nat) : Int), 1 + ((um c 4 : Nat) : Int)) (Sub.nil ⟨rfl, rfl, (by simp [tab64_LL, pC, castL, prs, gdS2, gW, gH, gK, grSt]), rfl, (by simp [tupA, hpLt, tmLt, AV.lt, AE.lt, AC.lt, LL_cons, LL_nil, idOk, ABlk.lt, ints_LL, GB, tab64_LL, pC, castL, prs, gdS2, gW, gH, gK, grSt]), (by simp [tupA, hpLt, tmLt, AV.lt, AE.lt, AC.lt, LL_cons, LL_nil, idOk, ABlk.lt, ints_LL, GB, tab64_LL, pC, castL, prs, gdS2, gW, gH, gK, grSt])⟩ (by (repeat (first | exact trivial | refine ⟨trivial, ?_⟩ | refine ⟨rfl, ?_⟩))) (by (repeat (first | exact trivial | refine ⟨trivial, ?_⟩ | refine ⟨rfl, ?_⟩)))) (by show k + 1 ≤ 2; omega) (by show 2 - (k + 1) < 2 - k; omega)
    by_cases h2 : c < 1
    · refine Wk.on ?_
      rw [decide_eq_true (show ((k : Nat) : Int) < 2 by omega)]
      refine Wk.on ?_
      refine CallA.ro2 [] (.t [.c (.int .i64 0), .c .nils, .c (.int .i64 1)]) (grid_bad (.inr (.inl h2))) ?_
      refine Wk.on ?_
      rw [decide_eq_false h1]
      refine Wk.on ?_
      rw [decide_eq_true h2]
      refine Wk.on ?_
      rw [hr4, hc4]
      exact Again.mk (k + 1, 1 + ((um r 4 : Nat) : Int), 1 + ((um c 4 : Nat) : Int)) (Sub.nil ⟨rfl, rfl, (by simp [tab64_LL, pC, castL, prs, gdS2, gW, gH, gK, grSt]), rfl, (by simp [tupA, hpLt, tmLt, AV.lt, AE.lt, AC.lt, LL_cons, LL_nil, idOk, ABlk.lt, ints_LL, GB, tab64_LL, pC, castL, prs, gdS2, gW, gH, gK, grSt]), (by simp [tupA, hpLt, tmLt, AV.lt, AE.lt, AC.lt, LL_cons, LL_nil, idOk, ABlk.lt, ints_LL, GB, tab64_LL, pC, castL, prs, gdS2, gW, gH, gK, grSt])⟩ (by (repeat (first | exact trivial | refine ⟨trivial, ?_⟩ | refine ⟨rfl, ?_⟩))) (by (repeat (first | exact trivial | refine ⟨trivial, ?_⟩ | refine ⟨rfl, ?_⟩)))) (by show k + 1 ≤ 2; omega) (by show 2 - (k + 1) < 2 - k; omega)
    by_cases h3 : 16 < r
    · refine Wk.on ?_
      rw [decide_eq_true (show ((k : Nat) : Int) < 2 by omega)]
      refine Wk.on ?_
      refine CallA.ro2 [] (.t [.c (.int .i64 0), .c .nils, .c (.int .i64 1)]) (grid_bad (.inr (.inr (.inl h3)))) ?_
      refine Wk.on ?_
      rw [decide_eq_false h1]
      refine Wk.on ?_
      rw [decide_eq_false h2]
      refine Wk.on ?_
      rw [decide_eq_true h3]
      refine Wk.on ?_
      rw [hr4, hc4]
      exact Again.mk (k + 1, 1 + ((um r 4 : Nat) : Int), 1 + ((um c 4 : Nat) : Int)) (Sub.nil ⟨rfl, rfl, (by simp [tab64_LL, pC, castL, prs, gdS2, gW, gH, gK, grSt]), rfl, (by simp [tupA, hpLt, tmLt, AV.lt, AE.lt, AC.lt, LL_cons, LL_nil, idOk, ABlk.lt, ints_LL, GB, tab64_LL, pC, castL, prs, gdS2, gW, gH, gK, grSt]), (by simp [tupA, hpLt, tmLt, AV.lt, AE.lt, AC.lt, LL_cons, LL_nil, idOk, ABlk.lt, ints_LL, GB, tab64_LL, pC, castL, prs, gdS2, gW, gH, gK, grSt])⟩ (by (repeat (first | exact trivial | refine ⟨trivial, ?_⟩ | refine ⟨rfl, ?_⟩))) (by (repeat (first | exact trivial | refine ⟨trivial, ?_⟩ | refine ⟨rfl, ?_⟩)))) (by show k + 1 ≤ 2; omega) (by show 2 - (k + 1) < 2 - k; omega)
    by_cases h4 : 16 < c
    · refine Wk.on ?_
      rw [decide_eq_true (show ((k : Nat) : Int) < 2 by omega)]
      refine Wk.on ?_
      refine CallA.ro2 [] (.t [.c (.int .i64 0), .c .nils, .c (.int .i64 1)]) (grid_bad (.inr (.inr (.inr (.inl h4))))) ?_
      refine Wk.on ?_
      rw [decide_eq_false h1]
      refine Wk.on ?_
      rw [decide_eq_false h2]
      refine Wk.on ?_
      rw [decide_eq_false h3]
      refine Wk.on ?_
      rw [decide_eq_true h4]
      refine Wk.on ?_
      rw [hr4, hc4]
      exact Again.mk (k + 1, 1 + ((um r 4 : Nat) : Int), 1 + ((um c 4 : Nat) : Int)) (Sub.nil ⟨rfl, rfl, (by simp [tab64_LL, pC, castL, prs, gdS2, gW, gH, gK, grSt]), rfl, (by simp [tupA, hpLt, tmLt, AV.lt, AE.lt, AC.lt, LL_cons, LL_nil, idOk, ABlk.lt, ints_LL, GB, tab64_LL, pC, castL, prs, gdS2, gW, gH, gK, grSt]), (by simp [tupA, hpLt, tmLt, AV.lt, AE.lt, AC.lt, LL_cons, LL_nil, idOk, ABlk.lt, ints_LL, GB, tab64_LL, pC, castL, prs, gdS2, gW, gH, gK, grSt])⟩ (by (repeat (first | exact trivial | refine ⟨trivial, ?_⟩ | refine ⟨rfl, ?_⟩))) (by (repeat (first | exact trivial | refine ⟨trivial, ?_⟩ | refine ⟨rfl, ?_⟩)))) (by show k + 1 ≤ 2; omega) (by show 2 - (k + 1) < 2 - k; omega)
    obtain ⟨a, rfl⟩ : ∃ a : Nat, r = a := ⟨r.toNat, by omega⟩
    obtain ⟨b, rfl⟩ : ∃ b : Nat, c = b := ⟨c.toNat, by omega⟩
    have hm : ((a : Nat) : Int) * ((b : Nat) : Int) = ((a * b : Nat) : Int) := (Int.natCast_mul a b).symm
    have hab : a * b ≤ 16 * 16 := Nat.mul_le_mul (by omega) (by omega)
    by_cases h5 : 16 < a * b
    · refine Wk.on ?_
      rw [decide_eq_true (show ((k : Nat) : Int) < 2 by omega)]
      refine Wk.on ?_
      refine CallA.ro2 [] (.t [.c (.int .i64 0), .c .nils, .c (.int .i64 1)]) (grid_bad (.inr (.inr (.inr (.inr (by rw [hm]; omega)))))) ?_
      refine Wk.on ?_
      rw [decide_eq_false h1]
      refine Wk.on ?_
      rw [decide_eq_false h2]
      refine Wk.on ?_
      rw [decide_eq_false h3]
      refine Wk.on ?_
      rw [decide_eq_false h4]
      refine Wk.on ?_
      rw [hm]
      refine Wk.on ?_
      rw [decide_eq_true (show (16 : Int) < ((a * b : Nat) : Int) by omega)]
      refine Wk.on ?_
      rw [hr4, hc4]
      exact Again.mk (k + 1, 1 + ((um (a : Int) 4 : Nat) : Int), 1 + ((um (b : Int) 4 : Nat) : Int)) (Sub.nil ⟨rfl, rfl, (by simp [tab64_LL, pC, castL, prs, gdS2, gW, gH, gK, grSt]), rfl, (by simp [tupA, hpLt, tmLt, AV.lt, AE.lt, AC.lt, LL_cons, LL_nil, idOk, ABlk.lt, ints_LL, GB, tab64_LL, pC, castL, prs, gdS2, gW, gH, gK, grSt]), (by simp [tupA, hpLt, tmLt, AV.lt, AE.lt, AC.lt, LL_cons, LL_nil, idOk, ABlk.lt, ints_LL, GB, tab64_LL, pC, castL, prs, gdS2, gW, gH, gK, grSt])⟩ (by (repeat (first | exact trivial | refine ⟨trivial, ?_⟩ | refine ⟨rfl, ?_⟩))) (by (repeat (first | exact trivial | refine ⟨trivial, ?_⟩ | refine ⟨rfl, ?_⟩)))) (by show k + 1 ≤ 2; omega) (by show 2 - (k + 1) < 2 - k; omega)
    have hg := Grid_spec (h := a) (w := b) (by omega) (by omega) (by omega)
    have hf := refGrid_spec (h := a) (w := b) (by omega) (by omega) (by omega)
    have hG := grid_gr (h := a) (w := b) (by omega) (by omega) (by omega)
    have hLl : (gridL a b (a * b)).length ≤ 1000 := by have := gridL_len a b (a * b); omega
    have hck := Check_spec hG hLl
    have hlen : (ints (prs (gridL a b (a * b)))).length = (gridL a b (a * b)).length * 2 := by rw [ints_len, prs_len]
    have hgt := prs_rdn (gridL a b (a * b))
    generalize gridL a b (a * b) = L at *
    rcases L with _ | ⟨e, E⟩
    · have hck2 := FDet.wk hck (args' := [.c (.int .i64 (a * b : Nat)), .c .nils]) (hp' := [(0, .ro (ints (prs [])))]) ⟨rfl, rfl, trivial⟩ ⟨.inl rfl, trivial⟩
      refine Wk.on ?_
      rw [decide_eq_true (show ((k : Nat) : Int) < 2 by omega)]
      refine Wk.on ?_
      refine CallA.ro2 [] (.t [.c (.int .i64 (a * b : Nat)), .c .nils, .c (.int .i64 0)]) (hg) ?_
      refine Wk.on ?_
      rw [decide_eq_false h1]
      refine Wk.on ?_
      rw [decide_eq_false h2]
      refine Wk.on ?_
      rw [decide_eq_false h3]
      refine Wk.on ?_
      rw [decide_eq_false h4]
      refine Wk.on ?_
      rw [hm]
      refine Wk.on ?_
      rw [decide_eq_false (show ¬ (16 : Int) < ((a * b : Nat) : Int) by omega)]
      refine Wk.on ?_
      refine CallA.ro2 [] (.t [.c (.int .i64 (a * b : Nat)), .c .nils]) (hf) ?_
      refine Wk.on ?_
      rw [decide_eq_false (show ¬ ((a * b : Nat) : Int) ≠ ((a * b : Nat) : Int) by omega)]
      refine Wk.on ?_
      refine CallA.ro2 [100001] (.c (.int .i64 0)) (hck2) ?_
      refine Wk.on ?_
      refine Tr.loop (md := true) (X := Unit) (st := fun _ => ⟨[(0, .c (.int .i64 a)), (1, .c (.int .i64 b)), (5, .c (.int .i64 k)), (7, .c .nils), (10, .c .nils), (11, .c (.int .i64 0))], [(100001, .ro tab64)], 0, 106, 0⟩) (inv := fun _ => True) (μ := fun _ => 0) (x0 := ()) (l := []) tok trivial ?_ ?_
      · exact Sub.nil ⟨rfl, rfl, (by simp [tab64_LL, pC, castL, prs, gdS2, gW, gH, gK, grSt]), rfl, (by simp [tupA, hpLt, tmLt, AV.lt, AE.lt, AC.lt, LL_cons, LL_nil, idOk, ABlk.lt, ints_LL, GB, tab64_LL, pC, castL, prs, gdS2, gW, gH, gK, grSt]), (by simp [tupA, hpLt, tmLt, AV.lt, AE.lt, AC.lt, LL_cons, LL_nil, idOk, ABlk.lt, ints_LL, GB, tab64_LL, pC, castL, prs, gdS2, gW, gH, gK, grSt])⟩ (by (repeat (first | exact trivial | refine ⟨trivial, ?_⟩ | refine ⟨rfl, ?_⟩))) (by (repeat (first | exact trivial | refine ⟨trivial, ?_⟩ | refine ⟨rfl, ?_⟩)))
      intro _ _
      refine Wk.on ?_
      rw [hr4, hc4]
      exact Again.mk (k + 1, 1 + ((um (a : Int) 4 : Nat) : Int), 1 + ((um (b : Int) 4 : Nat) : Int)) (Sub.nil ⟨rfl, rfl, (by simp [tab64_LL, pC, castL, prs, gdS2, gW, gH, gK, grSt]), rfl, (by simp [tupA, hpLt, tmLt, AV.lt, AE.lt, AC.lt, LL_cons, LL_nil, idOk, ABlk.lt, ints_LL, GB, tab64_LL, pC, castL, prs, gdS2, gW, gH, gK, grSt]), (by simp [tupA, hpLt, tmLt, AV.lt, AE.lt, AC.lt, LL_cons, LL_nil, idOk, ABlk.lt, ints_LL, GB, tab64_LL, pC, castL, prs, gdS2, gW, gH, gK, grSt])⟩ (by (repeat (first | exact trivial | refine ⟨trivial, ?_⟩ | refine ⟨rfl, ?_⟩))) (by (repeat (first | exact trivial | refine ⟨trivial, ?_⟩ | refine ⟨rfl, ?_⟩)))) (by show k + 1 ≤ 2; omega) (by show 2 - (k + 1) < 2 - k; omega)
    · change FDet Tryd.prog 23 _ _ _ (.t [.c (.int .i64 (a * b : Nat)), .c (.row 0 (e :: E).length), .c (.int .i64 0)]) [(0, .row 38 2 (ints (prs (e :: E))))] 1 at hg
      change FDet Tryd.prog 24 _ _ _ (.t [.c (.int .i64 (a * b : Nat)), .c (.row 0 (e :: E).length)]) [(0, .row 38 2 (ints (prs (e :: E))))] 1 at hf
      have hg2 := FDet.post hg (.t [.c (.int .i64 (a * b : Nat)), .c (.rs 0 0 (e :: E).length), .c (.int .i64 0)]) [(0, .row 38 2 (ints (prs (e :: E))))] ⟨rfl, ⟨⟨rfl, rfl, rfl⟩, trivial⟩, rfl, trivial⟩ ⟨⟨⟨rfl, rfl⟩, .inl rfl⟩, trivial⟩ (by simp [tupA, hpLt, tmLt, AV.lt, AE.lt, AC.lt, LL_cons, LL_nil, idOk, ABlk.lt, ints_LL, GB, tab64_LL, pC, castL, prs, gdS2, gW, gH, gK, grSt]) (by simp [tupA, hpLt, tmLt, AV.lt, AE.lt, AC.lt, LL_cons, LL_nil, idOk, ABlk.lt, ints_LL, GB, tab64_LL, pC, castL, prs, gdS2, gW, gH, gK, grSt]) rfl
      have hf2 := FDet.post hf (.t [.c (.int .i64 (a * b : Nat)), .c (.rs 0 0 (e :: E).length)]) [(0, .row 38 2 (ints (prs (e :: E))))] ⟨rfl, ⟨⟨rfl, rfl, rfl⟩, trivial⟩, trivial⟩ ⟨⟨⟨rfl, rfl⟩, .inl rfl⟩, trivial⟩ (by simp [tupA, hpLt, tmLt, AV.lt, AE.lt, AC.lt, LL_cons, LL_nil, idOk, ABlk.lt, ints_LL, GB, tab64_LL, pC, castL, prs, gdS2, gW, gH, gK, grSt]) (by simp [tupA, hpLt, tmLt, AV.lt, AE.lt, AC.lt, LL_cons, LL_nil, idOk, ABlk.lt, ints_LL, GB, tab64_LL, pC, castL, prs, gdS2, gW, gH, gK, grSt]) rfl
      clear hg hf
      generalize hLL : e :: E = L at *
      refine Wk.on ?_
      rw [decide_eq_true (show ((k : Nat) : Int) < 2 by omega)]
      refine Wk.on ?_
      refine CallA.det2 [] (.t [.c (.int .i64 (a * b : Nat)), .c (.rs 0 0 L.length), .c (.int .i64 0)]) ([(100001, .ro tab64), (0, .row 38 2 (ints (prs L)))]) (hg2) ?_
      refine Wk.on ?_
      rw [decide_eq_false h1]
      refine Wk.on ?_
      rw [decide_eq_false h2]
      refine Wk.on ?_
      rw [decide_eq_false h3]
      refine Wk.on ?_
      rw [decide_eq_false h4]
      refine Wk.on ?_
      rw [hm]
      refine Wk.on ?_
      rw [decide_eq_false (show ¬ (16 : Int) < ((a * b : Nat) : Int) by omega)]
      refine Wk.on ?_
      refine CallA.det2 [] (.t [.c (.int .i64 (a * b : Nat)), .c (.rs 1 0 L.length)]) ([(100001, .ro tab64), (0, .row 38 2 (ints (prs L))), (1, .row 38 2 (ints (prs L)))]) (hf2) ?_
      refine Wk.on ?_
      rw [decide_eq_false (show ¬ ((a * b : Nat) : Int) ≠ ((a * b : Nat) : Int) by omega)]
      refine Wk.on ?_
      rw [decide_eq_false (show ¬ ((L.length : Nat) : Int) ≠ ((L.length : Nat) : Int) by omega)]
      refine Wk.on ?_
      refine CallA.ro2 [0] (.c (.int .i64 0)) (hck) ?_
      refine Wk.on ?_
      refine Tr.loop (md := true) (X := Nat) (st := fun i => ⟨[(0, .c (.int .i64 a)), (1, .c (.int .i64 b)), (5, .c (.int .i64 k)), (7, .c (.rs 0 0 L.length)), (10, .c (.rs 1 0 L.length)), (11, .c (.int .i64 i))], [(100001, .ro tab64), (0, .row 38 2 (ints (prs L))), (1, .row 38 2 (ints (prs L)))], 2, 106, 0⟩) (inv := fun i => i ≤ L.length) (μ := fun i => L.length - i) (x0 := 0) (l := []) tok (by omega) ?_ ?_
      · exact Sub.nil ⟨rfl, rfl, (by simp [tab64_LL, pC, castL, prs, gdS2, gW, gH, gK, grSt]), rfl, (by simp [tupA, hpLt, tmLt, AV.lt, AE.lt, AC.lt, LL_cons, LL_nil, idOk, ABlk.lt, ints_LL, GB, tab64_LL, pC, castL, prs, gdS2, gW, gH, gK, grSt]), (by simp [tupA, hpLt, tmLt, AV.lt, AE.lt, AC.lt, LL_cons, LL_nil, idOk, ABlk.lt, ints_LL, GB, tab64_LL, pC, castL, prs, gdS2, gW, gH, gK, grSt])⟩ (by (repeat (first | exact trivial | refine ⟨trivial, ?_⟩ | refine ⟨rfl, ?_⟩))) (by (repeat (first | exact trivial | refine ⟨trivial, ?_⟩ | refine ⟨rfl, ?_⟩)))
      intro i hi
      by_cases hil : i < L.length
      · obtain ⟨⟨x, y⟩, hxy⟩ : ∃ p, p = L.getD i (0, 0) := ⟨_, rfl⟩
        have hgi := hgt i
        rw [← hxy] at hgi
        have hb := hG.ok i hil
        rw [← hxy] at hb
        have hb : x < y ∧ y < a * b := hb
        have ok : okL (pC (x, y)) [.int .i64 0, .int .i64 0] := ⟨⟨rfl, by show (-9223372036854775808 : Int) ≤ (x : Int); omega, by show (x : Int) ≤ 9223372036854775807; omega⟩, ⟨rfl, by show (-9223372036854775808 : Int) ≤ (y : Int); omega, by show (y : Int) ≤ 9223372036854775807; omega⟩, trivial⟩
        refine Wk.on ?_
        rw [decide_eq_true (show ((i : Nat) : Int) < ((L.length : Nat) : Int) by omega)]
        refine Wk.on ?_
        refine Tr.draw (md := true) [⟨[], [87, 90, 91, 92, 93], [], [], []⟩, ⟨[], [86, 90, 91, 92, 93], [0], [], []⟩, ⟨[0, 1], [90, 91, 92, 93], [], [], []⟩, ⟨[0, 1, 2], [90, 91, 92, 93], [], [], []⟩, ⟨[], [86, 87, 88, 89, 91], [0, 1, 2, 3], [], []⟩, ⟨[], [86, 87, 88, 89, 90], [0, 1, 2, 3, 4], [], []⟩, ⟨[4, 5], [86, 87, 88, 89], [0, 1, 2, 3], [], []⟩, ⟨[4, 5, 6], [86, 87, 88, 89], [0, 1, 2, 3], [], []⟩] tok (by kernel_rfl) (by kernel_rfl) ?_
        refine Wk.on ?_
        refine ⟨⟨by rw [hlen, Int.toNat_natCast]; show 0 + i * 2 + 2 ≤ _; omega, rfl⟩, ?_⟩
        rw [Int.toNat_natCast, Nat.zero_add, hgi]
        refine Wk.on ?_
        refine ⟨⟨by rw [hlen, Int.toNat_natCast]; show 0 + i * 2 + 2 ≤ _; omega, rfl⟩, ?_⟩
        rw [Int.toNat_natCast, Nat.zero_add, hgi]
        refine Wk.on ?_
        refine ⟨⟨ok, ok⟩, ?_⟩
        rw [show eqL (pC (x, y)) (pC (x, y)) = some true by simp [pC, eqL, eqC]]
        refine Wk.on ?_
        refine Again.mk (i + 1) (Sub.nil ⟨rfl, rfl, (by simp [tab64_LL, pC, castL, prs, gdS2, gW, gH, gK, grSt]), rfl, (by simp [tupA, hpLt, tmLt, AV.lt, AE.lt, AC.lt, LL_cons, LL_nil, idOk, ABlk.lt, ints_LL, GB, tab64_LL, pC, castL, prs, gdS2, gW, gH, gK, grSt]), (by simp [tupA, hpLt, tmLt, AV.lt, AE.lt, AC.lt, LL_cons, LL_nil, idOk, ABlk.lt, ints_LL, GB, tab64_LL, pC, castL, prs, gdS2, gW, gH, gK, grSt])⟩ (by (repeat (first | exact trivial | refine ⟨trivial, ?_⟩ | refine ⟨rfl, ?_⟩))) (by (repeat (first | exact trivial | refine ⟨trivial, ?_⟩ | refine ⟨rfl, ?_⟩)))) (by omega) (by omega)
      obtain rfl : i = L.length := by omega
      refine Wk.on ?_
      rw [decide_eq_false (show ¬ ((L.length : Nat) : Int) < ((L.length : Nat) : Int) by omega)]
      refine Wk.on ?_
      intro _
      refine Wk.on ?_
      rw [hr4, hc4]
      exact Again.mk (k + 1, 1 + ((um (a : Int) 4 : Nat) : Int), 1 + ((um (b : Int) 4 : Nat) : Int)) (Sub.nil ⟨rfl, rfl, (by simp [tab64_LL, pC, castL, prs, gdS2, gW, gH, gK, grSt]), rfl, (by simp [tupA, hpLt, tmLt, AV.lt, AE.lt, AC.lt, LL_cons, LL_nil, idOk, ABlk.lt, ints_LL, GB, tab64_LL, pC, castL, prs, gdS2, gW, gH, gK, grSt]), (by simp [tupA, hpLt, tmLt, AV.lt, AE.lt, AC.lt, LL_cons, LL_nil, idOk, ABlk.lt, ints_LL, GB, tab64_LL, pC, castL, prs, gdS2, gW, gH, gK, grSt])⟩ (by (repeat (first | exact trivial | refine ⟨trivial, ?_⟩ | refine ⟨rfl, ?_⟩))) (by (repeat (first | exact trivial | refine ⟨trivial, ?_⟩ | refine ⟨rfl, ?_⟩)))) (by show k + 1 ≤ 2; omega) (by show 2 - (k + 1) < 2 - k; omega)
  · obtain rfl : k = 2 := by omega
    refine Wk.on ?_
    refine CallA.ro2 [] (.c (.bool true)) (awake_spec) ?_
    refine Wk.on ?_
    exact AH.Fin.nil2 ⟨rfl, rfl, rfl⟩
end Go.Proofs.YtimknijehaamlaaDoor
