/-
  Contract: LightGridQuiets.
-/
import Derived.Test.YtimknijehaamlaaDoorSwS15
import Derived.Test.YtimknijehaamlaaDoorSwS141
import Derived.Test.YtimknijehaamlaaDoorSwS142
import Derived.Test.YtimknijehaamlaaDoorSwS143
import Derived.Test.YtimknijehaamlaaDoorSwS144
import Derived.Test.YtimknijehaamlaaDoorSwS10
import Derived.Test.YtimknijehaamlaaDoorSwE7
import Derived.Test.YtimknijehaamlaaDoorSwE12
set_option linter.unusedSimpArgs false
set_option linter.unusedVariables false
namespace Go.Proofs.YtimknijehaamlaaDoor
open Go Go.AH Go.Lin
set_option maxRecDepth 100000
set_option maxHeartbeats 1000000

theorem okR_get {own : Bool} {lo n : Nat} (h : okR own lo n = true) {c r : Nat} (h1 : lo < c) (h2 : c ≤ lo + n) (r1 : 1 ≤ r) (r60 : r ≤ 60) : okG own c r = true := by
  have h3 := List.all_eq_true.1 h (c - lo - 1) (List.mem_range.2 (by omega))
  have h4 := List.all_eq_true.1 h3 (r - 1) (List.mem_range.2 (by omega))
  rw [show lo + (c - lo - 1) + 1 = c by omega, show r - 1 + 1 = r by omega] at h4
  exact h4
theorem okG_all (own : Bool) {c r : Nat} (c1 : 1 ≤ c) (c60 : c ≤ 60) (r1 : 1 ≤ r) (r60 : r ≤ 60) : prk c c 0 (pW own c r).2 0 + gN own r c = c + 1 := by
  have h : okG own c r = true := by
    cases own
    · rcases Nat.lt_or_ge 30 c with k | k
      · rcases Nat.lt_or_ge 45 c with k2 | k2
        · exact okR_get kG4 k2 (by omega) r1 r60
        · exact okR_get kG2 k (by omega) r1 r60
      · exact okR_get kG0.2 (by omega) (by omega) r1 r60
    · rcases Nat.lt_or_ge 30 c with k | k
      · rcases Nat.lt_or_ge 45 c with k2 | k2
        · exact okR_get kG3 k2 (by omega) r1 r60
        · exact okR_get kG1 k (by omega) r1 r60
      · exact okR_get kG0.1 (by omega) (by omega) r1 r60
  exact Nat.eq_of_beq_eq_true h
theorem refGQ_gN (own : Bool) {r c : Nat} (r1 : 1 ≤ r) (c1 : 1 ≤ c) (r60 : r ≤ 60) (c60 : c ≤ 60) : FDet Tryd.prog 27 [.c (.int .i64 r), .c (.int .i64 c), .c (.bool own)] [] 0 (.c (.int .i64 ((gN own r c : Int) - 1))) [] 0 := by
  have h := refGQ_spec r1 c1 r60 c60 own
  rw [ways_rank own c60] at h
  have k := okG_all own c1 c60 r1 r60
  rw [show (c : Int) - ((prk c c 0 (pW own c r).2 0 : Nat) : Int) = (gN own r c : Int) - 1 by omega] at h
  exact h
theorem gq_bad {r c : Int} (own : Bool) (h : r < 1 ∨ c < 1 ∨ 60 < r ∨ 60 < c) : FDet Tryd.prog 26 [.c (.int .i64 r), .c (.int .i64 c), .c (.bool own)] [] 0 (.t [.c (.int .i64 0), .c (.int .i64 1)]) [] 0 := by
  by_cases c1 : min r c < 1
  · skip
    refine FSpec.body2 tok true Tryd.func26 ?_
    refine Wk.on ?_
    rw [decide_eq_true c1]
    refine Wk.on ?_
    exact AH.Fin.nil2 ⟨rfl, rfl, rfl⟩
  have c2 : 60 < max r c := by omega
  refine FSpec.body2 tok true Tryd.func26 ?_
  refine Wk.on ?_
  rw [decide_eq_false c1]
  refine Wk.on ?_
  rw [decide_eq_true c2]
  refine Wk.on ?_
  exact AH.Fin.nil2 ⟨rfl, rfl, rfl⟩
theorem quiet4 : ∀ r, r < 5 → ∀ c, c < 5 → (decide (1 ≤ r) && decide (1 ≤ c)) = true → (decide (qlen (r * c) (gridL r c (r * c)) true + 1 = gN true r c) && decide (qlen (r * c) (gridL r c (r * c)) false + 1 = gN false r c) && decide (gN true r c < 10) && decide (gN false r c < 10)) = true := by decide +kernel
theorem quiet4_eq (own : Bool) {r c : Nat} (r1 : 1 ≤ r) (c1 : 1 ≤ c) (r4 : r ≤ 4) (c4 : c ≤ 4) : qlen (r * c) (gridL r c (r * c)) own + 1 = gN own r c ∧ gN own r c < 10 := by
  have h := quiet4 r (by omega) c (by omega) (by rw [decide_eq_true r1, decide_eq_true c1]; rfl)
  simp only [Bool.and_eq_true, decide_eq_true_eq] at h
  cases own
  · exact ⟨h.1.1.2, h.2⟩
  · exact ⟨h.1.1.1, h.1.2⟩
theorem det_less {f : FuncId} {args : List AV} {hp : List (Nat × ABlk)} {k : Nat} {r : AV} {hq : List (Nat × ABlk)} {k1 : Nat} (h : FDet Tryd.prog f args hp k r hq k1) (j : Nat) (hj : j ≤ k) : FDet Tryd.prog f args hp j r hq k1 where
  call := h.call
  run := fun w R vs hok hsz hcon H => by
    refine (h.run w R vs hok hsz hcon H).mono ?_
    rintro e w' ⟨u, r0, hq0, k0, R', h1, h2, h3, h4, h5, h6⟩
    exact ⟨u, r0, hq0, k0, R', h1, h2, h3, h4.mono hj, Nat.le_trans hj h5, h6⟩
theorem quiet_nil {own : Bool} {m : Nat} {r : AV} (h : FDet Tryd.prog 18 [.c (.int .i64 m), .c (.rs 0 0 0), .c (.bool own)] [(0, .ro [])] 1 r [] 2) (hr : r.all (· ≠ 0)) : FDet Tryd.prog 18 [.c (.int .i64 m), .c .nils, .c (.bool own)] [(100001, .ro tab64)] 1 r [] 2 :=
  FDet.nil0b (FDet.wk h (args' := [.c (.int .i64 m), .c (.rs 0 0 0), .c (.bool own)]) (hp' := [(0, .ro []), (100001, .ro tab64)]) ⟨rfl, rfl, rfl, trivial⟩ ⟨.inl rfl, trivial⟩) _ 100001 tab64 rfl ⟨rfl, rfl, rfl, trivial⟩ (by simp [AV.all, AC.all]) (fun p hp => by
    have : p = (100001, .ro tab64) := by simpa using hp
    subst this
    exact ⟨by decide, tab_all _⟩) hr (fun p hp => by cases hp)
def sqSt (own : Bool) : Nat × Int × Int → AS
  | (k, r, c) => ⟨[(0, .c (.int .i64 r)), (1, .c (.int .i64 c)), (2, .c (.bool own)), (7, .c (.int .i64 k))], [(100001, .ro tab64)], 0, 103, 0⟩
theorem gridQuiets_all (r0 c0 : Int) (own : Bool) : FDet Tryd.prog 5 [.c (.int .i64 r0), .c (.int .i64 c0), .c (.bool own)] [(100001, .ro tab64)] 0 (.c (.bool true)) [] 0 := by
  refine FSpec.body2 tok true Tryd.func5 ?_
  refine Wk.on ?_
  refine Tr.loop (md := true) (X := Nat × Int × Int) (st := sqSt own) (inv := fun q => q.1 ≤ 3 ∧ (1 ≤ q.1 → 1 ≤ q.2.1 ∧ q.2.1 ≤ 60 ∧ 1 ≤ q.2.2 ∧ q.2.2 ≤ 60) ∧ (2 ≤ q.1 → q.2.1 ≤ 4 ∧ q.2.2 ≤ 4)) (μ := fun q => 3 - q.1) (x0 := (0, r0, c0)) (l := []) tok ⟨by show 0 ≤ 3; omega, fun h => absurd h (by show ¬ 1 ≤ 0; omega), fun h => absurd h (by show ¬ 2 ≤ 0; omega)⟩ ?_ ?_
  · exact Sub.nil ⟨rfl, rfl, (by simp [tab64_LL, pC, castL, prs, sqSt, gV, gH, gK]), rfl, (by simp [tupA, hpLt, tmLt, AV.lt, AE.lt, AC.lt, LL_cons, LL_nil, idOk, ABlk.lt, ints_LL, GB, tab64_LL, pC, castL, prs, sqSt, gV, gH, gK]), (by simp [tupA, hpLt, tmLt, AV.lt, AE.lt, AC.lt, LL_cons, LL_nil, idOk, ABlk.lt, ints_LL, GB, tab64_LL, pC, castL, prs, sqSt, gV, gH, gK])⟩ (by (repeat (first | exact trivial | refine ⟨trivial, ?_⟩ | refine ⟨rfl, ?_⟩))) (by (repeat (first | exact trivial | refine ⟨trivial, ?_⟩ | refine ⟨rfl, ?_⟩)))
  rintro ⟨k, r, c⟩ ⟨hk, hk1, hk2⟩
  dsimp only at hk hk1 hk2
  by_cases h3 : k = 3
  · subst h3
    refine Wk.on ?_
    refine CallA.ro2 [] (.c (.bool true)) (awake_spec) ?_
    refine Wk.on ?_
    exact AH.Fin.nil2 ⟨rfl, rfl, rfl⟩
  by_cases hbad : r < 1 ∨ c < 1 ∨ 60 < r ∨ 60 < c
  · have h0 : k = 0 := by
      rcases Nat.eq_zero_or_pos k with h | h
      · exact h
      · have := hk1 h; omega
    subst h0
    have hb := gq_bad own hbad
    have hu := um_lt r (n := 60) (by decide)
    have hv := um_lt c (n := 60) (by decide)
    have hwx := wrap_nn r
    have hwy := wrap_nn c
    by_cases d0 : r < 1
    · refine Wk.on ?_
      refine CallA.ro2 [] (.t [.c (.int .i64 0), .c (.int .i64 1)]) (hb) ?_
      refine Wk.on ?_
      rw [decide_eq_true d0]
      refine Wk.on ?_
      rw [um60]
      refine ⟨by unfold I64; omega, ?_⟩
      refine Wk.on ?_
      rw [um60]
      refine ⟨by unfold I64; omega, ?_⟩
      refine Wk.on ?_
      exact Again.mk (0 + 1, 1 + ((um r 60 : Nat) : Int), 1 + ((um c 60 : Nat) : Int)) (Sub.nil ⟨rfl, rfl, (by simp [tab64_LL, pC, castL, prs, sqSt, gV, gH, gK]), rfl, (by simp [tupA, hpLt, tmLt, AV.lt, AE.lt, AC.lt, LL_cons, LL_nil, idOk, ABlk.lt, ints_LL, GB, tab64_LL, pC, castL, prs, sqSt, gV, gH, gK]), (by simp [tupA, hpLt, tmLt, AV.lt, AE.lt, AC.lt, LL_cons, LL_nil, idOk, ABlk.lt, ints_LL, GB, tab64_LL, pC, castL, prs, sqSt, gV, gH, gK])⟩ (by (repeat (first | exact trivial | refine ⟨trivial, ?_⟩ | refine ⟨rfl, ?_⟩))) (by (repeat (first | exact trivial | refine ⟨trivial, ?_⟩ | refine ⟨rfl, ?_⟩)))) ⟨by show 0 + 1 ≤ 3; omega, fun _ => ⟨by show 1 ≤ 1 + ((um r 60 : Nat) : Int); omega, by show 1 + ((um r 60 : Nat) : Int) ≤ 60; omega, by show 1 ≤ 1 + ((um c 60 : Nat) : Int); omega, by show 1 + ((um c 60 : Nat) : Int) ≤ 60; omega⟩, fun h => absurd h (by show ¬ 2 ≤ 0 + 1; omega)⟩ (by show 3 - (0 + 1) < 3 - 0; omega)
    by_cases d1 : c < 1
    · refine Wk.on ?_
      refine CallA.ro2 [] (.t [.c (.int .i64 0), .c (.int .i64 1)]) (hb) ?_
      refine Wk.on ?_
      rw [decide_eq_false d0]
      refine Wk.on ?_
      rw [decide_eq_true d1]
      refine Wk.on ?_
      rw [um60]
      refine ⟨by unfold I64; omega, ?_⟩
      refine Wk.on ?_
      rw [um60]
      refine ⟨by unfold I64; omega, ?_⟩
      refine Wk.on ?_
      exact Again.mk (0 + 1, 1 + ((um r 60 : Nat) : Int), 1 + ((um c 60 : Nat) : Int)) (Sub.nil ⟨rfl, rfl, (by simp [tab64_LL, pC, castL, prs, sqSt, gV, gH, gK]), rfl, (by simp [tupA, hpLt, tmLt, AV.lt, AE.lt, AC.lt, LL_cons, LL_nil, idOk, ABlk.lt, ints_LL, GB, tab64_LL, pC, castL, prs, sqSt, gV, gH, gK]), (by simp [tupA, hpLt, tmLt, AV.lt, AE.lt, AC.lt, LL_cons, LL_nil, idOk, ABlk.lt, ints_LL, GB, tab64_LL, pC, castL, prs, sqSt, gV, gH, gK])⟩ (by (repeat (first | exact trivial | refine ⟨trivial, ?_⟩ | refine ⟨rfl, ?_⟩))) (by (repeat (first | exact trivial | refine ⟨trivial, ?_⟩ | refine ⟨rfl, ?_⟩)))) ⟨by show 0 + 1 ≤ 3; omega, fun _ => ⟨by show 1 ≤ 1 + ((um r 60 : Nat) : Int); omega, by show 1 + ((um r 60 : Nat) : Int) ≤ 60; omega, by show 1 ≤ 1 + ((um c 60 : Nat) : Int); omega, by show 1 + ((um c 60 : Nat) : Int) ≤ 60; omega⟩, fun h => absurd h (by show ¬ 2 ≤ 0 + 1; omega)⟩ (by show 3 - (0 + 1) < 3 - 0; omega)
    by_cases d2 : (60 : Int) < r
    · refine Wk.on ?_
      refine CallA.ro2 [] (.t [.c (.int .i64 0), .c (.int .i64 1)]) (hb) ?_
      refine Wk.on ?_
      rw [decide_eq_false d0]
      refine Wk.on ?_
      rw [decide_eq_false d1]
      refine Wk.on ?_
      rw [decide_eq_true d2]
      refine Wk.on ?_
      rw [um60]
      refine ⟨by unfold I64; omega, ?_⟩
      refine Wk.on ?_
      rw [um60]
      refine ⟨by unfold I64; omega, ?_⟩
      refine Wk.on ?_
      exact Again.mk (0 + 1, 1 + ((um r 60 : Nat) : Int), 1 + ((um c 60 : Nat) : Int)) (Sub.nil ⟨rfl, rfl, (by simp [tab64_LL, pC, castL, prs, sqSt, gV, gH, gK]), rfl, (by simp [tupA, hpLt, tmLt, AV.lt, AE.lt, AC.lt, LL_cons, LL_nil, idOk, ABlk.lt, ints_LL, GB, tab64_LL, pC, castL, prs, sqSt, gV, gH, gK]), (by simp [tupA, hpLt, tmLt, AV.lt, AE.lt, AC.lt, LL_cons, LL_nil, idOk, ABlk.lt, ints_LL, GB, tab64_LL, pC, castL, prs, sqSt, gV, gH, gK])⟩ (by (repeat (first | exact trivial | refine ⟨trivial, ?_⟩ | refine ⟨rfl, ?_⟩))) (by (repeat (first | exact trivial | refine ⟨trivial, ?_⟩ | refine ⟨rfl, ?_⟩)))) ⟨by show 0 + 1 ≤ 3; omega, fun _ => ⟨by show 1 ≤ 1 + ((um r 60 : Nat) : Int); omega, by show 1 + ((um r 60 : Nat) : Int) ≤ 60; omega, by show 1 ≤ 1 + ((um c 60 : Nat) : Int); omega, by show 1 + ((um c 60 : Nat) : Int) ≤ 60; omega⟩, fun h => absurd h (by show ¬ 2 ≤ 0 + 1; omega)⟩ (by show 3 - (0 + 1) < 3 - 0; omega)
    have d3 : (60 : Int) < c := by omega
    refine Wk.on ?_
    refine CallA.ro2 [] (.t [.c (.int .i64 0), .c (.int .i64 1)]) (hb) ?_
    refine Wk.on ?_
    rw [decide_eq_false d0]
    refine Wk.on ?_
    rw [decide_eq_false d1]
    refine Wk.on ?_
    rw [decide_eq_false d2]
    refine Wk.on ?_
    rw [decide_eq_true d3]
    refine Wk.on ?_
    rw [um60]
    refine ⟨by unfold I64; omega, ?_⟩
    refine Wk.on ?_
    rw [um60]
    refine ⟨by unfold I64; omega, ?_⟩
    refine Wk.on ?_
    exact Again.mk (0 + 1, 1 + ((um r 60 : Nat) : Int), 1 + ((um c 60 : Nat) : Int)) (Sub.nil ⟨rfl, rfl, (by simp [tab64_LL, pC, castL, prs, sqSt, gV, gH, gK]), rfl, (by simp [tupA, hpLt, tmLt, AV.lt, AE.lt, AC.lt, LL_cons, LL_nil, idOk, ABlk.lt, ints_LL, GB, tab64_LL, pC, castL, prs, sqSt, gV, gH, gK]), (by simp [tupA, hpLt, tmLt, AV.lt, AE.lt, AC.lt, LL_cons, LL_nil, idOk, ABlk.lt, ints_LL, GB, tab64_LL, pC, castL, prs, sqSt, gV, gH, gK])⟩ (by (repeat (first | exact trivial | refine ⟨trivial, ?_⟩ | refine ⟨rfl, ?_⟩))) (by (repeat (first | exact trivial | refine ⟨trivial, ?_⟩ | refine ⟨rfl, ?_⟩)))) ⟨by show 0 + 1 ≤ 3; omega, fun _ => ⟨by show 1 ≤ 1 + ((um r 60 : Nat) : Int); omega, by show 1 + ((um r 60 : Nat) : Int) ≤ 60; omega, by show 1 ≤ 1 + ((um c 60 : Nat) : Int); omega, by show 1 + ((um c 60 : Nat) : Int) ≤ 60; omega⟩, fun h => absurd h (by show ¬ 2 ≤ 0 + 1; omega)⟩ (by show 3 - (0 + 1) < 3 - 0; omega)
  obtain ⟨a, rfl⟩ : ∃ a : Nat, r = a := ⟨r.toNat, by omega⟩
  obtain ⟨b, rfl⟩ : ∃ b : Nat, c = b := ⟨c.toNat, by omega⟩
  have hu := um_lt (a : Int) (n := 60) (by decide)
  have hv := um_lt (b : Int) (n := 60) (by decide)
  have hwx := wrap_nn (a : Int)
  have hwy := wrap_nn (b : Int)
  have g1 := Grid_gN own (r := a) (c := b) (by omega) (by omega) (by omega) (by omega)
  have g2 := refGQ_gN own (r := a) (c := b) (by omega) (by omega) (by omega) (by omega)
  have q4 := quiet4_eq own (r := a) (c := b) (by omega) (by omega)
  obtain ⟨g, hg⟩ : ∃ g : Int, g = (gN own a b : Int) - 1 := ⟨_, rfl⟩
  rw [← hg] at g1 g2
  have ha4 : ((a : Nat) : Int).tmod 4 = ((a % 4 : Nat) : Int) := rfl
  have hb4 : ((b : Nat) : Int).tmod 4 = ((b % 4 : Nat) : Int) := rfl
  by_cases h0 : k = 0
  · subst h0
    refine Wk.on ?_
    refine CallA.ro2 [] (.t [.c (.int .i64 g), .c (.int .i64 0)]) (g1) ?_
    refine Wk.on ?_
    rw [decide_eq_false (show ¬ ((a : Nat) : Int) < 1 by omega)]
    refine Wk.on ?_
    rw [decide_eq_false (show ¬ ((b : Nat) : Int) < 1 by omega)]
    refine Wk.on ?_
    rw [decide_eq_false (show ¬ (60 : Int) < ((a : Nat) : Int) by omega)]
    refine Wk.on ?_
    rw [decide_eq_false (show ¬ (60 : Int) < ((b : Nat) : Int) by omega)]
    refine Wk.on ?_
    refine CallA.ro2 [] (.c (.int .i64 g)) (g2) ?_
    refine Wk.on ?_
    rw [decide_eq_false (fun h : g ≠ g => h rfl)]
    refine Wk.on ?_
    intro _
    refine Wk.on ?_
    rw [um60]
    refine ⟨by unfold I64; omega, ?_⟩
    refine Wk.on ?_
    rw [um60]
    refine ⟨by unfold I64; omega, ?_⟩
    refine Wk.on ?_
    exact Again.mk (0 + 1, 1 + ((um (a : Int) 60 : Nat) : Int), 1 + ((um (b : Int) 60 : Nat) : Int)) (Sub.nil ⟨rfl, rfl, (by simp [tab64_LL, pC, castL, prs, sqSt, gV, gH, gK]), rfl, (by simp [tupA, hpLt, tmLt, AV.lt, AE.lt, AC.lt, LL_cons, LL_nil, idOk, ABlk.lt, ints_LL, GB, tab64_LL, pC, castL, prs, sqSt, gV, gH, gK]), (by simp [tupA, hpLt, tmLt, AV.lt, AE.lt, AC.lt, LL_cons, LL_nil, idOk, ABlk.lt, ints_LL, GB, tab64_LL, pC, castL, prs, sqSt, gV, gH, gK])⟩ (by (repeat (first | exact trivial | refine ⟨trivial, ?_⟩ | refine ⟨rfl, ?_⟩))) (by (repeat (first | exact trivial | refine ⟨trivial, ?_⟩ | refine ⟨rfl, ?_⟩)))) ⟨by show 0 + 1 ≤ 3; omega, fun _ => ⟨by show 1 ≤ 1 + ((um (a : Int) 60 : Nat) : Int); omega, by show 1 + ((um (a : Int) 60 : Nat) : Int) ≤ 60; omega, by show 1 ≤ 1 + ((um (b : Int) 60 : Nat) : Int); omega, by show 1 + ((um (b : Int) 60 : Nat) : Int) ≤ 60; omega⟩, fun h => absurd h (by show ¬ 2 ≤ 0 + 1; omega)⟩ (by show 3 - (0 + 1) < 3 - 0; omega)
  by_cases h1 : k = 1
  · subst h1
    refine Wk.on ?_
    refine CallA.ro2 [] (.t [.c (.int .i64 g), .c (.int .i64 0)]) (g1) ?_
    refine Wk.on ?_
    rw [decide_eq_false (show ¬ ((a : Nat) : Int) < 1 by omega)]
    refine Wk.on ?_
    rw [decide_eq_false (show ¬ ((b : Nat) : Int) < 1 by omega)]
    refine Wk.on ?_
    rw [decide_eq_false (show ¬ (60 : Int) < ((a : Nat) : Int) by omega)]
    refine Wk.on ?_
    rw [decide_eq_false (show ¬ (60 : Int) < ((b : Nat) : Int) by omega)]
    refine Wk.on ?_
    refine CallA.ro2 [] (.c (.int .i64 g)) (g2) ?_
    refine Wk.on ?_
    rw [decide_eq_false (fun h : g ≠ g => h rfl)]
    refine Wk.on ?_
    intro _
    refine Wk.on ?_
    exact Again.mk (1 + 1, 1 + ((a % 4 : Nat) : Int), 1 + ((b % 4 : Nat) : Int)) (Sub.nil ⟨rfl, rfl, (by simp [tab64_LL, pC, castL, prs, sqSt, gV, gH, gK]), rfl, (by simp [tupA, hpLt, tmLt, AV.lt, AE.lt, AC.lt, LL_cons, LL_nil, idOk, ABlk.lt, ints_LL, GB, tab64_LL, pC, castL, prs, sqSt, gV, gH, gK]), (by simp [tupA, hpLt, tmLt, AV.lt, AE.lt, AC.lt, LL_cons, LL_nil, idOk, ABlk.lt, ints_LL, GB, tab64_LL, pC, castL, prs, sqSt, gV, gH, gK])⟩ (by (repeat (first | exact trivial | refine ⟨trivial, ?_⟩ | refine ⟨rfl, ?_⟩))) (by (repeat (first | exact trivial | refine ⟨trivial, ?_⟩ | refine ⟨rfl, ?_⟩)))) ⟨by show 1 + 1 ≤ 3; omega, fun _ => ⟨by show 1 ≤ 1 + ((a % 4 : Nat) : Int); omega, by show 1 + ((a % 4 : Nat) : Int) ≤ 60; omega, by show 1 ≤ 1 + ((b % 4 : Nat) : Int); omega, by show 1 + ((b % 4 : Nat) : Int) ≤ 60; omega⟩, fun _ => ⟨by show 1 + ((a % 4 : Nat) : Int) ≤ 4; omega, by show 1 + ((b % 4 : Nat) : Int) ≤ 4; omega⟩⟩ (by show 3 - (1 + 1) < 3 - 1; omega)
  obtain rfl : k = 2 := by omega
  obtain ⟨a4, b4⟩ := hk2 (Nat.le_refl 2)
  obtain ⟨q1, q2⟩ := q4 (by omega) (by omega)
  have hab16 : a * b ≤ 16 := Nat.mul_le_mul (show a ≤ 4 by omega) (show b ≤ 4 by omega)
  have hgr := Grid_spec (h := a) (w := b) (by omega) (by omega) hab16
  have hG := grid_gr (h := a) (w := b) (by omega) (by omega) hab16
  have hLl : (gridL a b (a * b)).length ≤ 1000 := by have := gridL_len a b (a * b); omega
  obtain ⟨c, hc⟩ : ∃ c, c = qlen (a * b) (gridL a b (a * b)) own := ⟨_, rfl⟩
  have hql := quiet_len hG own hLl hc.symm (by omega)
  have hcg : ((c : Nat) : Int) = g := by omega
  generalize gridL a b (a * b) = L at *
  clear q1 hc q4
  generalize a * b = m at *
  rcases L with _ | ⟨e, E⟩
  · have hq2 := det_less (quiet_nil (own := own) hql (by simp [AV.all, AC.all, AE.all])) 0 (by omega)
    refine Wk.on ?_
    refine CallA.ro2 [] (.t [.c (.int .i64 g), .c (.int .i64 0)]) (g1) ?_
    refine Wk.on ?_
    rw [decide_eq_false (show ¬ ((a : Nat) : Int) < 1 by omega)]
    refine Wk.on ?_
    rw [decide_eq_false (show ¬ ((b : Nat) : Int) < 1 by omega)]
    refine Wk.on ?_
    rw [decide_eq_false (show ¬ (60 : Int) < ((a : Nat) : Int) by omega)]
    refine Wk.on ?_
    rw [decide_eq_false (show ¬ (60 : Int) < ((b : Nat) : Int) by omega)]
    refine Wk.on ?_
    refine CallA.ro2 [] (.c (.int .i64 g)) (g2) ?_
    refine Wk.on ?_
    rw [decide_eq_false (fun h : g ≠ g => h rfl)]
    refine Wk.on ?_
    intro _
    refine Wk.on ?_
    refine CallA.ro2 [] (.t [.c (.int .i64 (m : Nat)), .c .nils, .c (.int .i64 0)]) (hgr) ?_
    refine Wk.on ?_
    refine CallA.det2 [] (.t [.c (.rs 1 0 c), .c (.int .i64 0)]) ([(100001, .ro tab64)]) (hq2) ?_
    refine Wk.on ?_
    rw [decide_eq_false (show ¬ ((c : Nat) : Int) ≠ g from fun h => h hcg)]
    refine Wk.on ?_
    exact Again.mk (2 + 1, 1 + ((a % 4 : Nat) : Int), 1 + ((b % 4 : Nat) : Int)) (Sub.nil ⟨rfl, rfl, (by simp [tab64_LL, pC, castL, prs, sqSt, gV, gH, gK]), rfl, (by simp [tupA, hpLt, tmLt, AV.lt, AE.lt, AC.lt, LL_cons, LL_nil, idOk, ABlk.lt, ints_LL, GB, tab64_LL, pC, castL, prs, sqSt, gV, gH, gK]), (by simp [tupA, hpLt, tmLt, AV.lt, AE.lt, AC.lt, LL_cons, LL_nil, idOk, ABlk.lt, ints_LL, GB, tab64_LL, pC, castL, prs, sqSt, gV, gH, gK])⟩ (by (repeat (first | exact trivial | refine ⟨trivial, ?_⟩ | refine ⟨rfl, ?_⟩))) (by (repeat (first | exact trivial | refine ⟨trivial, ?_⟩ | refine ⟨rfl, ?_⟩)))) ⟨by show 2 + 1 ≤ 3; omega, fun _ => ⟨by show 1 ≤ 1 + ((a % 4 : Nat) : Int); omega, by show 1 + ((a % 4 : Nat) : Int) ≤ 60; omega, by show 1 ≤ 1 + ((b % 4 : Nat) : Int); omega, by show 1 + ((b % 4 : Nat) : Int) ≤ 60; omega⟩, fun _ => ⟨by show 1 + ((a % 4 : Nat) : Int) ≤ 4; omega, by show 1 + ((b % 4 : Nat) : Int) ≤ 4; omega⟩⟩ (by show 3 - (2 + 1) < 3 - 2; omega)
  · change FDet Tryd.prog 23 _ _ _ (.t [.c (.int .i64 (m : Nat)), .c (.row 0 (e :: E).length), .c (.int .i64 0)]) [(0, .row 38 2 (ints (prs (e :: E))))] 1 at hgr
    have hg2 := FDet.post hgr (.t [.c (.int .i64 (m : Nat)), .c (.rs 0 0 (e :: E).length), .c (.int .i64 0)]) [(0, .row 38 2 (ints (prs (e :: E))))] ⟨rfl, ⟨⟨rfl, rfl, rfl⟩, trivial⟩, rfl, trivial⟩ ⟨⟨⟨rfl, rfl⟩, .inl rfl⟩, trivial⟩ (by simp [tupA, hpLt, tmLt, AV.lt, AE.lt, AC.lt, LL_cons, LL_nil, idOk, ABlk.lt, ints_LL, GB, tab64_LL, pC, castL, prs, sqSt, gV, gH, gK]) (by simp [tupA, hpLt, tmLt, AV.lt, AE.lt, AC.lt, LL_cons, LL_nil, idOk, ABlk.lt, ints_LL, GB, tab64_LL, pC, castL, prs, sqSt, gV, gH, gK]) rfl
    clear hgr
    generalize hLL : e :: E = L at *
    refine Wk.on ?_
    refine CallA.ro2 [] (.t [.c (.int .i64 g), .c (.int .i64 0)]) (g1) ?_
    refine Wk.on ?_
    rw [decide_eq_false (show ¬ ((a : Nat) : Int) < 1 by omega)]
    refine Wk.on ?_
    rw [decide_eq_false (show ¬ ((b : Nat) : Int) < 1 by omega)]
    refine Wk.on ?_
    rw [decide_eq_false (show ¬ (60 : Int) < ((a : Nat) : Int) by omega)]
    refine Wk.on ?_
    rw [decide_eq_false (show ¬ (60 : Int) < ((b : Nat) : Int) by omega)]
    refine Wk.on ?_
    refine CallA.ro2 [] (.c (.int .i64 g)) (g2) ?_
    refine Wk.on ?_
    rw [decide_eq_false (fun h : g ≠ g => h rfl)]
    refine Wk.on ?_
    intro _
    refine Wk.on ?_
    refine CallA.det2 [] (.t [.c (.int .i64 (m : Nat)), .c (.rs 0 0 L.length), .c (.int .i64 0)]) ([(100001, .ro tab64), (0, .row 38 2 (ints (prs L)))]) (hg2) ?_
    refine Wk.on ?_
    refine CallA.det2 [0] (.t [.c (.rs 1 0 c), .c (.int .i64 0)]) ([(100001, .ro tab64), (0, .row 38 2 (ints (prs L)))]) (hql) ?_
    refine Wk.on ?_
    rw [decide_eq_false (show ¬ ((c : Nat) : Int) ≠ g from fun h => h hcg)]
    refine Wk.on ?_
    exact Again.mk (2 + 1, 1 + ((a % 4 : Nat) : Int), 1 + ((b % 4 : Nat) : Int)) (Sub.nil ⟨rfl, rfl, (by simp [tab64_LL, pC, castL, prs, sqSt, gV, gH, gK]), rfl, (by simp [tupA, hpLt, tmLt, AV.lt, AE.lt, AC.lt, LL_cons, LL_nil, idOk, ABlk.lt, ints_LL, GB, tab64_LL, pC, castL, prs, sqSt, gV, gH, gK]), (by simp [tupA, hpLt, tmLt, AV.lt, AE.lt, AC.lt, LL_cons, LL_nil, idOk, ABlk.lt, ints_LL, GB, tab64_LL, pC, castL, prs, sqSt, gV, gH, gK])⟩ (by (repeat (first | exact trivial | refine ⟨trivial, ?_⟩ | refine ⟨rfl, ?_⟩))) (by (repeat (first | exact trivial | refine ⟨trivial, ?_⟩ | refine ⟨rfl, ?_⟩)))) ⟨by show 2 + 1 ≤ 3; omega, fun _ => ⟨by show 1 ≤ 1 + ((a % 4 : Nat) : Int); omega, by show 1 + ((a % 4 : Nat) : Int) ≤ 60; omega, by show 1 ≤ 1 + ((b % 4 : Nat) : Int); omega, by show 1 + ((b % 4 : Nat) : Int) ≤ 60; omega⟩, fun _ => ⟨by show 1 + ((a % 4 : Nat) : Int) ≤ 4; omega, by show 1 + ((b % 4 : Nat) : Int) ≤ 4; omega⟩⟩ (by show 3 - (2 + 1) < 3 - 2; omega)
end Go.Proofs.YtimknijehaamlaaDoor
