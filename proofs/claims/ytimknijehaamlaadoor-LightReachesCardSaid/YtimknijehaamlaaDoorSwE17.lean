/-
  Contracts: the reference's Hardest and Reachable; the greatest of a list, and where it stands.
-/
import Derived.Test.YtimknijehaamlaaDoorSwE16
import Derived.Test.YtimknijehaamlaaDoorSwE60
set_option linter.unusedSimpArgs false
set_option linter.unusedVariables false
namespace Go.Proofs.YtimknijehaamlaaDoor
open Go Go.AH Go.Lin
set_option maxRecDepth 100000
set_option maxHeartbeats 1000000

def cntT (T : List Int) (i : Nat) : Nat := ((List.range i).filter fun t => decide (0 ≤ T.getD t 0)).length
theorem cntT_succ (T : List Int) (i : Nat) : cntT T (i + 1) = cntT T i + if 0 ≤ T.getD i 0 then 1 else 0 := by
  rw [cntT, cntT, List.range_succ, List.filter_append, List.length_append, List.filter_cons, List.filter_nil]
  by_cases h : 0 ≤ T.getD i 0
  · rw [if_pos (decide_eq_true h), if_pos h]; rfl
  · rw [if_neg (by simpa using h), if_neg h]; rfl
theorem cntT_le (T : List Int) (i : Nat) : cntT T i ≤ i := by
  have := List.length_filter_le (fun t => decide (0 ≤ T.getD t 0)) (List.range i)
  rw [List.length_range] at this; exact this
theorem refReach_spec {T : List Int} {q : Nat} (hl : T.length = q) (hq : q ≤ 65536) : FDet Tryd.prog 48 [.c (.rs 0 0 q)] [(0, .ro (ints T))] 1 (.c (.int .i64 (cntT T q : Nat))) [] 1 := by
  have hTl : (ints T).length = q := by rw [ints_len, hl]
  refine FSpec.body2 tok true Tryd.func48 ?_
  refine Wk.on ?_
  refine Tr.loop (md := true) (X := Nat) (st := fun i => ⟨[(0, .c (.rs 0 0 q)), (3, .c (.int .i64 (cntT T i : Nat))), (4, .c (.int .i64 i))], [(0, .ro (ints T))], 1, 19, 1⟩) (inv := fun i => i ≤ q) (μ := fun i => q - i) (x0 := 0) (l := []) tok (by omega) ?_ ?_
  · exact Sub.nil ⟨rfl, rfl, (by simp [tab64_LL, pC, castL, prs]), rfl, (by simp [tupA, hpLt, tmLt, AV.lt, AE.lt, AC.lt, LL_cons, LL_nil, idOk, ABlk.lt, ints_LL, GB, tab64_LL, pC, castL, prs]), (by simp [tupA, hpLt, tmLt, AV.lt, AE.lt, AC.lt, LL_cons, LL_nil, idOk, ABlk.lt, ints_LL, GB, tab64_LL, pC, castL, prs])⟩ (by (repeat (first | exact trivial | refine ⟨trivial, ?_⟩ | refine ⟨rfl, ?_⟩))) (by (repeat (first | exact trivial | refine ⟨trivial, ?_⟩ | refine ⟨rfl, ?_⟩)))
  intro i hi
  have hs := cntT_succ T i
  have hle := cntT_le T i
  by_cases hil : i < q
  · obtain ⟨v, hv⟩ : ∃ v, v = T.getD i 0 := ⟨_, rfl⟩
    rw [← hv] at hs
    generalize cntT T i = c at *
    refine Wk.on ?_
    rw [decide_eq_true (show ((i : Nat) : Int) < ((q : Nat) : Int) by omega)]
    refine Wk.on ?_
    rw [iget, ← hv]
    refine Wk.on ?_
    by_cases h0 : 0 ≤ v
    · rw [decide_eq_true h0]
      rw [if_pos h0] at hs
      refine Wk.on ?_
      refine Again.mk (i + 1) (Sub.nil ⟨rfl, rfl, (by simp [tab64_LL, pC, castL, prs]), rfl, (by simp [tupA, hpLt, tmLt, AV.lt, AE.lt, AC.lt, LL_cons, LL_nil, idOk, ABlk.lt, ints_LL, GB, tab64_LL, pC, castL, prs]), (by simp [tupA, hpLt, tmLt, AV.lt, AE.lt, AC.lt, LL_cons, LL_nil, idOk, ABlk.lt, ints_LL, GB, tab64_LL, pC, castL, prs])⟩ ⟨rfl, by show AV.c (.int .i64 ((c : Int) + 1)) = .c (.int .i64 (cntT T (i + 1) : Nat)); rw [hs]; rfl, rfl, trivial⟩ (by (repeat (first | exact trivial | refine ⟨trivial, ?_⟩ | refine ⟨rfl, ?_⟩)))) (by omega) (by omega)
    · rw [decide_eq_false h0]
      rw [if_neg h0] at hs
      refine Wk.on ?_
      refine Again.mk (i + 1) (Sub.nil ⟨rfl, rfl, (by simp [tab64_LL, pC, castL, prs]), rfl, (by simp [tupA, hpLt, tmLt, AV.lt, AE.lt, AC.lt, LL_cons, LL_nil, idOk, ABlk.lt, ints_LL, GB, tab64_LL, pC, castL, prs]), (by simp [tupA, hpLt, tmLt, AV.lt, AE.lt, AC.lt, LL_cons, LL_nil, idOk, ABlk.lt, ints_LL, GB, tab64_LL, pC, castL, prs])⟩ ⟨rfl, by show AV.c (.int .i64 (c : Int)) = .c (.int .i64 (cntT T (i + 1) : Nat)); rw [hs]; rfl, rfl, trivial⟩ (by (repeat (first | exact trivial | refine ⟨trivial, ?_⟩ | refine ⟨rfl, ?_⟩)))) (by omega) (by omega)
  · obtain rfl : i = q := by omega
    generalize cntT T i = c at *
    refine Wk.on ?_
    rw [decide_eq_false (show ¬ ((i : Nat) : Int) < ((i : Nat) : Int) by omega)]
    refine Wk.on ?_
    intro _
    refine Wk.on ?_
    exact AH.Fin.nil2 ⟨rfl, rfl, rfl⟩
theorem refHard_spec {T : List Int} {q : Nat} (hl : T.length = q) (hq : q ≤ 65536) (h0 : 0 < q) (hT : ∀ t, t < q → -1 ≤ T.getD t 0 ∧ (T.getD t 0).toNat < 65536) (hz : 0 ≤ T.getD 0 0) : FDet Tryd.prog 47 [.c (.rs 0 0 q)] [(0, .ro (ints T))] 1 (.t [.c (.int .i64 (amax (gT T) q : Nat)), .c (.int .i64 (gT T (amax (gT T) q) : Nat))]) [] 1 := by
  have hTl : (ints T).length = q := by rw [ints_len, hl]
  refine FSpec.body2 tok true Tryd.func47 ?_
  refine Wk.on ?_
  refine Tr.loop (md := true) (X := Nat) (st := fun t => ⟨[(0, .c (.rs 0 0 q)), (4, .c (.int .i64 (amax (gT T) t : Nat))), (5, .c (.int .i64 t))], [(0, .ro (ints T))], 1, 37, 1⟩) (inv := fun t => t ≤ q ∧ 0 ≤ T.getD (amax (gT T) t) 0) (μ := fun t => q - t) (x0 := 0) (l := []) tok ⟨by omega, hz⟩ ?_ ?_
  · exact Sub.nil ⟨rfl, rfl, (by simp [tab64_LL, pC, castL, prs]), rfl, (by simp [tupA, hpLt, tmLt, AV.lt, AE.lt, AC.lt, LL_cons, LL_nil, idOk, ABlk.lt, ints_LL, GB, tab64_LL, pC, castL, prs]), (by simp [tupA, hpLt, tmLt, AV.lt, AE.lt, AC.lt, LL_cons, LL_nil, idOk, ABlk.lt, ints_LL, GB, tab64_LL, pC, castL, prs])⟩ (by (repeat (first | exact trivial | refine ⟨trivial, ?_⟩ | refine ⟨rfl, ?_⟩))) (by (repeat (first | exact trivial | refine ⟨trivial, ?_⟩ | refine ⟨rfl, ?_⟩)))
  rintro t ⟨ht, hb0⟩
  have hs := amax_succ (gT T) t
  have hlt : amax (gT T) t < q := by have := (amax_spec (gT T) t).1; omega
  obtain ⟨w, hw⟩ : ∃ w, w = T.getD (amax (gT T) t) 0 := ⟨_, rfl⟩
  have hgb : gT T (amax (gT T) t) = pop w.toNat := by rw [gT, ← hw, if_neg (by omega)]
  have hwr := hT _ hlt
  rw [← hw] at hwr hb0
  obtain ⟨mw, rfl⟩ : ∃ m : Nat, w = m := ⟨w.toNat, by omega⟩
  rw [Int.toNat_natCast] at hgb hwr
  have sb := Size_spec hwr.2
  by_cases htq : t < q
  · obtain ⟨v, hv⟩ : ∃ v, v = T.getD t 0 := ⟨_, rfl⟩
    have hvr := hT t htq
    have hgt : gT T t = if v < 0 then 0 else pop v.toNat := by rw [gT, ← hv]
    rw [← hv] at hvr
    rw [hgb, hgt] at hs
    generalize amax (gT T) t = b at *
    by_cases c0 : 0 ≤ v
    · obtain ⟨mv, rfl⟩ : ∃ m : Nat, v = m := ⟨v.toNat, by omega⟩
      rw [Int.toNat_natCast] at hvr hs
      rw [if_neg (show ¬ ((mv : Nat) : Int) < 0 by omega)] at hs
      have sv := Size_spec hvr.2
      refine Wk.on ?_
      rw [decide_eq_true (show ((t : Nat) : Int) < ((q : Nat) : Int) by omega)]
      refine Wk.on ?_
      refine Tr.draw (md := true) [⟨[], [13], [], [], []⟩, ⟨[], [12], [0], [], []⟩, ⟨[0, 1], [], [], [], []⟩, ⟨[0, 1, 2], [], [], [], []⟩, ⟨[0, 1, 2, 3], [], [], [], []⟩, ⟨[0, 1, 2, 3, 4], [], [], [], []⟩, ⟨[0, 1, 2, 3, 4, 5], [19, 23, 24, 25, 26], [], [], []⟩, ⟨[0, 1, 2, 3, 4, 5], [18, 23, 24, 25, 26], [6], [], []⟩, ⟨[0, 1, 2, 3, 4, 5, 6, 7], [23, 24, 25, 26], [], [], []⟩, ⟨[0, 1, 2, 3, 4, 5, 6, 7, 8], [23, 24, 25, 26], [], [], []⟩, ⟨[0, 1, 2, 3, 4, 5, 6, 7, 8, 9], [23, 24, 25, 26], [], [], []⟩, ⟨[0, 1, 2, 3, 4, 5], [18, 19, 20, 21, 22, 24], [6, 7, 8, 9, 10], [], []⟩, ⟨[0, 1, 2, 3, 4, 5], [18, 19, 20, 21, 22, 23], [6, 7, 8, 9, 10, 11], [], []⟩, ⟨[0, 1, 2, 3, 4, 5, 11, 12], [18, 19, 20, 21, 22], [6, 7, 8, 9, 10], [], []⟩, ⟨[0, 1, 2, 3, 4, 5, 11, 12, 13], [18, 19, 20, 21, 22], [6, 7, 8, 9, 10], [], []⟩] tok (by kernel_rfl) (by kernel_rfl) ?_
      refine Wk.on ?_
      rw [iget, ← hv]
      refine Wk.on ?_
      rw [decide_eq_true (show (0 : Int) ≤ ((mv : Nat) : Int) by omega)]
      refine Wk.on ?_
      rw [iget, ← hv]
      refine Wk.on ?_
      refine CallQ.ro2 [] (.c (.int .i64 (pop mv : Nat))) (sv) ?_
      refine Wk.on ?_
      rw [iget, ← hw]
      refine Wk.on ?_
      refine CallA.ro2 [] (.c (.int .i64 (pop mw : Nat))) (sb) ?_
      refine Wk.on ?_
      generalize pop mv = pv at *
      generalize pop mw = pw at *
      by_cases c1 : pw < pv
      · rw [decide_eq_true (show ((pw : Nat) : Int) < ((pv : Nat) : Int) by omega)]
        rw [if_pos c1] at hs
        refine Wk.on ?_
        refine Again.mk (t + 1) (Sub.nil ⟨rfl, rfl, (by simp [tab64_LL, pC, castL, prs]), rfl, (by simp [tupA, hpLt, tmLt, AV.lt, AE.lt, AC.lt, LL_cons, LL_nil, idOk, ABlk.lt, ints_LL, GB, tab64_LL, pC, castL, prs]), (by simp [tupA, hpLt, tmLt, AV.lt, AE.lt, AC.lt, LL_cons, LL_nil, idOk, ABlk.lt, ints_LL, GB, tab64_LL, pC, castL, prs])⟩ ⟨rfl, by show AV.c (.int .i64 (t : Int)) = .c (.int .i64 (amax (gT T) (t + 1) : Nat)); rw [hs], rfl, trivial⟩ (by (repeat (first | exact trivial | refine ⟨trivial, ?_⟩ | refine ⟨rfl, ?_⟩)))) (⟨by omega, by rw [hs, ← hv]; omega⟩) (by omega)
      · rw [decide_eq_false (show ¬ ((pw : Nat) : Int) < ((pv : Nat) : Int) by omega)]
        rw [if_neg c1] at hs
        refine Wk.on ?_
        refine Again.mk (t + 1) (Sub.nil ⟨rfl, rfl, (by simp [tab64_LL, pC, castL, prs]), rfl, (by simp [tupA, hpLt, tmLt, AV.lt, AE.lt, AC.lt, LL_cons, LL_nil, idOk, ABlk.lt, ints_LL, GB, tab64_LL, pC, castL, prs]), (by simp [tupA, hpLt, tmLt, AV.lt, AE.lt, AC.lt, LL_cons, LL_nil, idOk, ABlk.lt, ints_LL, GB, tab64_LL, pC, castL, prs])⟩ ⟨rfl, by show AV.c (.int .i64 (b : Int)) = .c (.int .i64 (amax (gT T) (t + 1) : Nat)); rw [hs], rfl, trivial⟩ (by (repeat (first | exact trivial | refine ⟨trivial, ?_⟩ | refine ⟨rfl, ?_⟩)))) (⟨by omega, by rw [hs, ← hw]; omega⟩) (by omega)
    · rw [if_pos (show v < 0 by omega), if_neg (Nat.not_lt_zero _)] at hs
      refine Wk.on ?_
      rw [decide_eq_true (show ((t : Nat) : Int) < ((q : Nat) : Int) by omega)]
      refine Wk.on ?_
      refine Tr.draw (md := true) [⟨[], [13], [], [], []⟩, ⟨[], [12], [0], [], []⟩, ⟨[0, 1], [], [], [], []⟩, ⟨[0, 1, 2], [], [], [], []⟩, ⟨[0, 1, 2, 3], [], [], [], []⟩, ⟨[0, 1, 2, 3, 4], [], [], [], []⟩, ⟨[0, 1, 2, 3, 4, 5], [19, 23, 24, 25, 26], [], [], []⟩, ⟨[0, 1, 2, 3, 4, 5], [18, 23, 24, 25, 26], [6], [], []⟩, ⟨[0, 1, 2, 3, 4, 5, 6, 7], [23, 24, 25, 26], [], [], []⟩, ⟨[0, 1, 2, 3, 4, 5, 6, 7, 8], [23, 24, 25, 26], [], [], []⟩, ⟨[0, 1, 2, 3, 4, 5, 6, 7, 8, 9], [23, 24, 25, 26], [], [], []⟩, ⟨[0, 1, 2, 3, 4, 5], [18, 19, 20, 21, 22, 24], [6, 7, 8, 9, 10], [], []⟩, ⟨[0, 1, 2, 3, 4, 5], [18, 19, 20, 21, 22, 23], [6, 7, 8, 9, 10, 11], [], []⟩, ⟨[0, 1, 2, 3, 4, 5, 11, 12], [18, 19, 20, 21, 22], [6, 7, 8, 9, 10], [], []⟩, ⟨[0, 1, 2, 3, 4, 5, 11, 12, 13], [18, 19, 20, 21, 22], [6, 7, 8, 9, 10], [], []⟩] tok (by kernel_rfl) (by kernel_rfl) ?_
      refine Wk.on ?_
      rw [iget, ← hv]
      refine Wk.on ?_
      rw [decide_eq_false c0]
      refine Wk.on ?_
      refine Again.mk (t + 1) (Sub.nil ⟨rfl, rfl, (by simp [tab64_LL, pC, castL, prs]), rfl, (by simp [tupA, hpLt, tmLt, AV.lt, AE.lt, AC.lt, LL_cons, LL_nil, idOk, ABlk.lt, ints_LL, GB, tab64_LL, pC, castL, prs]), (by simp [tupA, hpLt, tmLt, AV.lt, AE.lt, AC.lt, LL_cons, LL_nil, idOk, ABlk.lt, ints_LL, GB, tab64_LL, pC, castL, prs])⟩ ⟨rfl, by show AV.c (.int .i64 (b : Int)) = .c (.int .i64 (amax (gT T) (t + 1) : Nat)); rw [hs], rfl, trivial⟩ (by (repeat (first | exact trivial | refine ⟨trivial, ?_⟩ | refine ⟨rfl, ?_⟩)))) (⟨by omega, by rw [hs, ← hw]; omega⟩) (by omega)
  · obtain rfl : t = q := by omega
    rw [hgb]
    generalize amax (gT T) t = b at *
    refine Wk.on ?_
    rw [decide_eq_false (show ¬ ((t : Nat) : Int) < ((t : Nat) : Int) by omega)]
    refine Wk.on ?_
    intro _
    refine Wk.on ?_
    rw [iget, ← hw]
    refine Wk.on ?_
    refine CallA.ro2 [] (.c (.int .i64 (pop mw : Nat))) (sb) ?_
    refine Wk.on ?_
    exact AH.Fin.nil2 ⟨rfl, rfl, rfl⟩
theorem max_spec {F : List Nat} {m : Nat} (hl : F.length = m) (h0 : 0 < m) (hm : m ≤ 1000000) : FDet Tryd.prog 62 [.c (.rs 0 0 m)] [(0, .ro (ints (castL F)))] 1 (.c (.int .i64 (mxL F m : Nat))) [] 1 := by
  have hFl : (ints (castL F)).length = m := by rw [ints_len, castL_len, hl]
  have h1 : mxL F 1 = F.getD 0 0 := by rw [mxL_succ]; show max 0 _ = _; omega
  refine FSpec.body2 tok true Tryd.func62 ?_
  refine Wk.on ?_
  rw [decide_eq_false (show ¬ ((m : Nat) : Int) < 1 by omega)]
  refine Wk.on ?_
  rw [show (ints (castL F)).getD (0 + Int.toNat 0 * 1) (.int .i64 0) = .int .i64 ((F.getD 0 0 : Nat) : Int) from cget F 0, ← h1]
  refine Wk.on ?_
  refine Tr.loop (md := true) (X := Nat) (st := fun i => ⟨[(0, .c (.rs 0 0 m)), (3, .c (.int .i64 (mxL F (i + 1) : Nat))), (4, .c (.int .i64 (i + 1 : Nat)))], [(0, .ro (ints (castL F)))], 1, 25, 1⟩) (inv := fun i => i + 1 ≤ m) (μ := fun i => m - i) (x0 := 0) (l := []) tok (by omega) ?_ ?_
  · exact Sub.nil ⟨rfl, rfl, (by simp [tab64_LL, pC, castL, prs]), rfl, (by simp [tupA, hpLt, tmLt, AV.lt, AE.lt, AC.lt, LL_cons, LL_nil, idOk, ABlk.lt, ints_LL, GB, tab64_LL, pC, castL, prs]), (by simp [tupA, hpLt, tmLt, AV.lt, AE.lt, AC.lt, LL_cons, LL_nil, idOk, ABlk.lt, ints_LL, GB, tab64_LL, pC, castL, prs])⟩ (by (repeat (first | exact trivial | refine ⟨trivial, ?_⟩ | refine ⟨rfl, ?_⟩))) (by (repeat (first | exact trivial | refine ⟨trivial, ?_⟩ | refine ⟨rfl, ?_⟩)))
  intro i hi
  have hs := mxL_succ F (i + 1)
  by_cases hil : i + 1 < m
  · obtain ⟨v, hv⟩ : ∃ v, v = F.getD (i + 1) 0 := ⟨_, rfl⟩
    rw [← hv] at hs
    generalize mxL F (i + 1) = M at *
    refine Wk.on ?_
    rw [decide_eq_true (show ((i + 1 : Nat) : Int) < ((m : Nat) : Int) by omega)]
    refine Wk.on ?_
    rw [cget, ← hv]
    refine Wk.on ?_
    refine Again.mk (i + 1) (Sub.nil ⟨rfl, rfl, (by simp [tab64_LL, pC, castL, prs]), rfl, (by simp [tupA, hpLt, tmLt, AV.lt, AE.lt, AC.lt, LL_cons, LL_nil, idOk, ABlk.lt, ints_LL, GB, tab64_LL, pC, castL, prs]), (by simp [tupA, hpLt, tmLt, AV.lt, AE.lt, AC.lt, LL_cons, LL_nil, idOk, ABlk.lt, ints_LL, GB, tab64_LL, pC, castL, prs])⟩ ⟨rfl, by show AV.c (.int .i64 (max (M : Int) (v : Int))) = .c (.int .i64 (mxL F (i + 1 + 1) : Nat)); rw [hs, ← max_cast], rfl, trivial⟩ (by (repeat (first | exact trivial | refine ⟨trivial, ?_⟩ | refine ⟨rfl, ?_⟩)))) (by omega) (by omega)
  · obtain rfl : m = i + 1 := by omega
    generalize mxL F (i + 1) = M at *
    refine Wk.on ?_
    rw [decide_eq_false (show ¬ ((i + 1 : Nat) : Int) < ((i + 1 : Nat) : Int) by omega)]
    refine Wk.on ?_
    intro _
    refine Wk.on ?_
    exact AH.Fin.nil2 ⟨rfl, rfl, rfl⟩
theorem hardIx_spec {F : List Nat} {m x v : Nat} (hl : F.length = m) (hm : m ≤ 1000000) (hx : x < m) (h1 : F.getD x 0 = v) (h2 : ∀ j, j < x → F.getD j 0 ≠ v) : FDet Tryd.prog 63 [.c (.rs 0 0 m), .c (.int .i64 v)] [(0, .ro (ints (castL F)))] 1 (.c (.int .i64 x)) [] 1 := by
  have hFl : (ints (castL F)).length = m := by rw [ints_len, castL_len, hl]
  refine FSpec.body2 tok true Tryd.func63 ?_
  refine Wk.on ?_
  refine Tr.loop (md := true) (X := Nat) (st := fun i => ⟨[(0, .c (.rs 0 0 m)), (1, .c (.int .i64 v)), (7, .c (.int .i64 m)), (8, .c (.int .i64 i))], [(0, .ro (ints (castL F)))], 1, 19, 1⟩) (inv := fun i => i ≤ x) (μ := fun i => x - i) (x0 := 0) (l := []) tok (by omega) ?_ ?_
  · exact Sub.nil ⟨rfl, rfl, (by simp [tab64_LL, pC, castL, prs]), rfl, (by simp [tupA, hpLt, tmLt, AV.lt, AE.lt, AC.lt, LL_cons, LL_nil, idOk, ABlk.lt, ints_LL, GB, tab64_LL, pC, castL, prs]), (by simp [tupA, hpLt, tmLt, AV.lt, AE.lt, AC.lt, LL_cons, LL_nil, idOk, ABlk.lt, ints_LL, GB, tab64_LL, pC, castL, prs])⟩ (by (repeat (first | exact trivial | refine ⟨trivial, ?_⟩ | refine ⟨rfl, ?_⟩))) (by (repeat (first | exact trivial | refine ⟨trivial, ?_⟩ | refine ⟨rfl, ?_⟩)))
  intro i hi
  obtain ⟨u, hu⟩ : ∃ u, u = F.getD i 0 := ⟨_, rfl⟩
  by_cases hix : i < x
  · have hne : u ≠ v := by rw [hu]; exact h2 i hix
    refine Wk.on ?_
    rw [decide_eq_true (show ((i : Nat) : Int) < ((m : Nat) : Int) by omega)]
    refine Wk.on ?_
    rw [cget, ← hu]
    refine Wk.on ?_
    rw [decide_eq_false (show ¬ ((v : Nat) : Int) = ((u : Nat) : Int) by omega)]
    refine Wk.on ?_
    refine Again.mk (i + 1) (Sub.nil ⟨rfl, rfl, (by simp [tab64_LL, pC, castL, prs]), rfl, (by simp [tupA, hpLt, tmLt, AV.lt, AE.lt, AC.lt, LL_cons, LL_nil, idOk, ABlk.lt, ints_LL, GB, tab64_LL, pC, castL, prs]), (by simp [tupA, hpLt, tmLt, AV.lt, AE.lt, AC.lt, LL_cons, LL_nil, idOk, ABlk.lt, ints_LL, GB, tab64_LL, pC, castL, prs])⟩ (by (repeat (first | exact trivial | refine ⟨trivial, ?_⟩ | refine ⟨rfl, ?_⟩))) (by (repeat (first | exact trivial | refine ⟨trivial, ?_⟩ | refine ⟨rfl, ?_⟩)))) (by omega) (by omega)
  · obtain rfl : i = x := by omega
    have he : u = v := by rw [hu, h1]
    refine Wk.on ?_
    rw [decide_eq_true (show ((i : Nat) : Int) < ((m : Nat) : Int) by omega)]
    refine Wk.on ?_
    rw [cget, ← hu]
    refine Wk.on ?_
    rw [decide_eq_true (show ((v : Nat) : Int) = ((u : Nat) : Int) by omega)]
    refine Wk.on ?_
    exact AH.Fin.nil2 ⟨rfl, rfl, rfl⟩
end Go.Proofs.YtimknijehaamlaaDoor
