/-
  Contract: LightPaths.
-/
import Derived.Test.YtimknijehaamlaaDoorSwE20
set_option linter.unusedSimpArgs false
set_option linter.unusedVariables false
namespace Go.Proofs.YtimknijehaamlaaDoor
open Go Go.AH Go.Lin
set_option maxRecDepth 100000
set_option maxHeartbeats 1000000

theorem det_more {f : FuncId} {args : List AV} {hp : List (Nat × ABlk)} {k : Nat} {r : AV} {hq : List (Nat × ABlk)} {k1 : Nat} (h : FDet Tryd.prog f args hp k r hq k1) (k2 : Nat) (hk : k1 ≤ k2) : FDet Tryd.prog f args hp k r hq k2 where
  call := h.call
  run := fun w R vs hok hsz hcon H => by
    refine (h.run w R vs hok hsz hcon H).mono ?_
    rintro e w' ⟨u, r0, hq0, k0, R', h1, ⟨e1, e2, e3⟩, h3, h4, h5, h6, h7, h8, h9, h10, h11, h12⟩
    subst e1; subst e2; subst e3
    exact ⟨u, _, _, k2, R', h1, ⟨rfl, rfl, rfl⟩, h3, h4, Nat.le_trans h5 hk, h6, h7.mono hk, h8, h9, fun i b hb => ⟨by
      rcases (h10 i b hb).1 with g | g
      · exact .inl (Nat.lt_of_lt_of_le g hk)
      · exact .inr g, (h10 i b hb).2.mono hk⟩, h11, h12⟩
def ptL (k : Nat) : List (Nat × Nat) := (List.range k).map fun i => (i, i + 1)
def rgL (N k : Nat) : List (Nat × Nat) := (0, 1) :: (0, N - 1) :: (List.range k).map fun i => (i + 1, i + 2)
theorem ptL_len (k : Nat) : (ptL k).length = k := by simp [ptL]
theorem rgL_len (N k : Nat) : (rgL N k).length = k + 2 := by simp [rgL]
theorem ptL_succ (k : Nat) : ptL (k + 1) = ptL k ++ [(k, k + 1)] := by rw [ptL, List.range_succ, List.map_append]; rfl
theorem rgL_succ (N k : Nat) : rgL N (k + 1) = rgL N k ++ [(k + 1, k + 2)] := by rw [rgL, List.range_succ, List.map_append]; rfl
def ptSt (N : Nat) : Option Nat → AS
  | some 0 => ⟨[(0, .c (.int .i64 N)), (3, .c .nils), (4, .c (.int .i64 0))], [(100001, .ro tab64)], 2, 130, 0⟩
  | some (k + 1) => ⟨[(0, .c (.int .i64 N)), (3, .c (.row 1 (k + 1))), (4, .c (.int .i64 (k + 1 : Nat)))], [(1, .row 38 2 (ints (prs (ptL (k + 1))))), (100001, .ro tab64)], 2, 130, 0⟩
  | none => ⟨[(0, .c (.int .i64 N)), (3, .c (.rs 1 0 (N - 1))), (4, .c (.int .i64 (N - 1 : Nat)))], [(1, .ro (ints (prs (ptL (N - 1))))), (100001, .ro tab64)], 2, 130, 0⟩
def rgSt (N : Nat) : Option Nat → AS
  | some 0 => ⟨[(0, .c (.int .i64 N)), (11, .c (.sl 1 0 2 (some 2))), (12, .c (.int .i64 1))], [(1, .own (ints (prs (rgL N 0)))), (100001, .ro tab64)], 2, 130, 0⟩
  | some (k + 1) => ⟨[(0, .c (.int .i64 N)), (11, .c (.row 1 (k + 3))), (12, .c (.int .i64 (k + 2 : Nat)))], [(1, .row 38 2 (ints (prs (rgL N (k + 1))))), (100001, .ro tab64)], 2, 130, 0⟩
  | none => ⟨[(0, .c (.int .i64 N)), (11, .c (.rs 1 0 N)), (12, .c (.int .i64 (N - 1 : Nat)))], [(1, .ro (ints (prs (rgL N (N - 2))))), (100001, .ro tab64)], 2, 130, 0⟩
def grC (n : Nat) (L : List (Nat × Nat)) : Bool := decide (1 ≤ n ∧ n ≤ 16) && (L.all fun p => decide (p.1 < p.2 ∧ p.2 < n)) && ((List.range (L.length - 1)).all fun i => decide (16 * (L.getD i (0, 0)).1 + (L.getD i (0, 0)).2 < 16 * (L.getD (i + 1) (0, 0)).1 + (L.getD (i + 1) (0, 0)).2))
theorem grC_ok {n : Nat} {L : List (Nat × Nat)} (h : grC n L = true) : Gr n L := by
  rw [grC, Bool.and_eq_true, Bool.and_eq_true, decide_eq_true_eq, List.all_eq_true, List.all_eq_true] at h
  obtain ⟨⟨h1, h2⟩, h3⟩ := h
  refine ⟨h1.1, h1.2, fun i hi => ?_, fun i hi => ?_⟩
  · rw [List.getD_eq_getElem?_getD, List.getElem?_eq_getElem hi]
    exact of_decide_eq_true (h2 _ (List.getElem_mem hi))
  · exact of_decide_eq_true (h3 i (List.mem_range.2 (by omega)))
def qlen (n : Nat) (L : List (Nat × Nat)) (own : Bool) : Nat := (qsR n (openR n L own)).length
theorem paths_ok : ∀ N, N < 17 → decide (1 ≤ N) = true → (grC N (ptL (N - 1)) && decide (qlen N (ptL (N - 1)) true = if N % 3 = 2 then 1 else 0) && decide (qlen N (ptL (N - 1)) false = N % 2)) = true := by decide +kernel
theorem rings_ok : ∀ N, N < 17 → decide (3 ≤ N) = true → (grC N (rgL N (N - 2)) && decide (qlen N (rgL N (N - 2)) true = if N % 3 = 0 then 2 else 0) && decide (qlen N (rgL N (N - 2)) false = 2 - N % 2)) = true := by decide +kernel
/-- Of the quiet basis the number of sets alone. -/
theorem quiet_len {n : Nat} {ws : List (Nat × Nat)} (h : Gr n ws) (own : Bool) (hw : ws.length ≤ 1000) {c : Nat} (hc : qlen n ws own = c) (c12 : c ≤ 12) : FDet Tryd.prog 18 [.c (.int .i64 n), .c (.rs 0 0 ws.length), .c (.bool own)] [(0, .ro (ints (prs ws)))] 1 (.t [.c (.rs 1 0 c), .c (.int .i64 0)]) [] 2 := by
  have hq := Quiet_gen h own hw (by show qlen n ws own ≤ 12; omega)
  have hI := inv_all (openR n ws own) n (openR_Sym h own).len
  have tl := tidy_len hI
  have tl2 : (tidyD (qsR n (openR n ws own))).reverse.length = c := by rw [List.length_reverse, ← hc]; exact tl
  generalize (tidyD (qsR n (openR n ws own))).reverse = T at *
  cases T with
  | nil =>
    have hc0 : c = 0 := by rw [← tl2]; rfl
    subst hc0
    exact FDet.post (det_more (show FDet Tryd.prog 18 _ _ 1 (.t [.c .nils, .c (.int .i64 0)]) [] 1 from hq) 2 (by omega)) _ _ ⟨rfl, rfl, trivial⟩ trivial (by simp [tupA, hpLt, tmLt, AV.lt, AE.lt, AC.lt, LL_cons, LL_nil, idOk, ABlk.lt, ints_LL, GB, tab64_LL, pC, castL, prs, ptSt, rgSt]) (by simp [tupA, hpLt, tmLt, AV.lt, AE.lt, AC.lt, LL_cons, LL_nil, idOk, ABlk.lt, ints_LL, GB, tab64_LL, pC, castL, prs, ptSt, rgSt]) rfl
  | cons b L =>
    have hq : FDet Tryd.prog 18 _ _ 1 (.t [.c (.row 1 (b :: L).length), .c (.int .i64 0)]) [(1, .row 3 1 (ints (castL (b :: L))))] 2 := hq
    rw [tl2] at hq
    exact FDet.post hq _ _ ⟨⟨⟨rfl, rfl, rfl⟩, trivial⟩, rfl, trivial⟩ trivial (by simp [tupA, hpLt, tmLt, AV.lt, AE.lt, AC.lt, LL_cons, LL_nil, idOk, ABlk.lt, ints_LL, GB, tab64_LL, pC, castL, prs, ptSt, rgSt]) (by simp [tupA, hpLt, tmLt, AV.lt, AE.lt, AC.lt, LL_cons, LL_nil, idOk, ABlk.lt, ints_LL, GB, tab64_LL, pC, castL, prs, ptSt, rgSt]) rfl
theorem tab_all (p : Nat → Prop) : ABlk.all p (.ro tab64) := fun x hx => by
  obtain ⟨y, _, rfl⟩ := List.mem_map.1 hx
  trivial
theorem quiet_one {own : Bool} {r : AV} (h : FDet Tryd.prog 18 [.c (.int .i64 (1 : Nat)), .c (.rs 0 0 0), .c (.bool own)] [(0, .ro [])] 1 r [] 2) (hr : r.all (· ≠ 0)) : FDet Tryd.prog 18 [.c (.int .i64 (1 : Nat)), .c .nils, .c (.bool own)] [(100001, .ro tab64)] 1 r [] 2 :=
  FDet.nil0b (FDet.wk h (args' := [.c (.int .i64 (1 : Nat)), .c (.rs 0 0 0), .c (.bool own)]) (hp' := [(0, .ro []), (100001, .ro tab64)]) ⟨rfl, rfl, rfl, trivial⟩ ⟨.inl rfl, trivial⟩) _ 100001 tab64 rfl ⟨rfl, rfl, rfl, trivial⟩ (by simp [AV.all, AC.all]) (fun p hp => by
    have : p = (100001, .ro tab64) := by simpa using hp
    subst this
    exact ⟨by decide, tab_all _⟩) hr (fun p hp => by cases hp)
theorem um16 (v : Int) : IntKind.i64.wrap (IntKind.u64.wrap v % 16) = ((um v 16 : Nat) : Int) := um_wrap v (n := 16) (by decide) (by decide)
theorem paths_all (v : Int) : FDet Tryd.prog 7 [.c (.int .i64 v)] [(100001, .ro tab64)] 0 (.c (.bool true)) [] 0 := by
  have hu := um_lt v (n := 16) (by decide)
  have hwv := wrap_nn v
  obtain ⟨N, hN⟩ : ∃ N, N = 1 + um v 16 := ⟨_, rfl⟩
  have pk := paths_ok N (by omega) (decide_eq_true (by omega))
  rw [Bool.and_eq_true, Bool.and_eq_true, decide_eq_true_eq, decide_eq_true_eq] at pk
  obtain ⟨⟨p1, p2⟩, p3⟩ := pk
  have hG := grC_ok p1
  have hpl := ptL_len (N - 1)
  have qa := quiet_len hG true (by omega) p2 (by split <;> omega)
  have qb := quiet_len hG false (by omega) p3 (by omega)
  rw [hpl] at qa qb
  refine FSpec.body2 tok true Tryd.func7 ?_
  refine Wk.on ?_
  rw [um16]
  refine ⟨by unfold I64; omega, ?_⟩
  rw [show (1 : Int) + (um v 16 : Nat) = (N : Int) by omega]
  refine Wk.on ?_
  refine Tr.loopU (md := true) (X := Option Nat) (ptSt N) (fun x => (∀ k, x = some k → k < N - 1 ∨ k = 0) ∧ (x = none → 2 ≤ N)) (fun x => match x with | some k => N - k | none => 0) (some 0) tok ⟨by intro k hk; cases hk; omega, fun h => by cases h⟩ ?_ ?_
  · exact Under.wk [] ⟨rfl, rfl, Nat.le_of_ble_eq_true rfl, Nat.le_of_ble_eq_true rfl⟩ rfl ⟨.inl rfl, .inl rfl, .inl rfl, trivial⟩ ⟨.inl (congrArg ABlk.ro (tab64_ren _).symm), trivial⟩ rfl (by simp [tupA, hpLt, tmLt, AV.lt, AE.lt, AC.lt, LL_cons, LL_nil, idOk, ABlk.lt, ints_LL, GB, tab64_LL, pC, castL, prs, ptSt, rgSt]) (by simp [tupA, hpLt, tmLt, AV.lt, AE.lt, AC.lt, LL_cons, LL_nil, idOk, ABlk.lt, ints_LL, GB, tab64_LL, pC, castL, prs, ptSt, rgSt])
  rintro x ⟨hx, hx2⟩
  obtain ⟨ca, hca⟩ : ∃ c, c = if N % 3 = 2 then 1 else 0 := ⟨_, rfl⟩
  rw [← hca] at qa
  have hrem2 : ((N : Nat) : Int) % 2 = ((N % 2 : Nat) : Int) := rfl
  have hrem3 : ((N : Nat) : Int) % 3 = ((N % 3 : Nat) : Int) := rfl
  rcases x with _ | k
  · have hN2 := hx2 rfl
    clear hx hx2
    obtain ⟨M, hM⟩ : ∃ m, m = N - 1 := ⟨_, rfl⟩
    have hst : ptSt N none = ⟨[(0, .c (.int .i64 N)), (3, .c (.rs 1 0 M)), (4, .c (.int .i64 M))], [(1, .ro (ints (prs (ptL M)))), (100001, .ro tab64)], 2, 130, 0⟩ := by rw [hM]; rfl
    rw [hst]
    rw [← hM] at qa qb
    refine Wk.on ?_
    rw [decide_eq_false (show ¬ ((M : Nat) : Int) + 1 < ((N : Nat) : Int) by omega)]
    refine Wk.on ?_
    refine CallA.det2 [1] (.t [.c (.rs 2 0 ca), .c (.int .i64 0)]) ([(1, .ro (ints (prs (ptL M)))), (100001, .ro tab64)]) (qa) ?_
    refine Wk.on ?_
    refine CallA.det2 [1] (.t [.c (.rs 3 0 (N % 2)), .c (.int .i64 0)]) ([(1, .ro (ints (prs (ptL M)))), (100001, .ro tab64)]) (qb) ?_
    refine Wk.on ?_
    rw [hrem2]
    refine Wk.on ?_
    rw [hrem3]
    have hN1c : ((N : Nat) : Int) - 1 = ((N - 1 : Nat) : Int) := by omega
    by_cases h3 : N % 3 = 2
    · skip
      have hca2 : ca = 1 := by rw [hca, if_pos h3]
      rw [decide_eq_true (show ((N % 3 : Nat) : Int) = 2 by omega)]
      refine Wk.on ?_
      rw [decide_eq_false (show ¬ ((ca : Nat) : Int) ≠ 1 by omega)]
      refine Wk.on ?_
      rw [decide_eq_false (show ¬ ((N % 2 : Nat) : Int) ≠ ((N % 2 : Nat) : Int) by omega)]
      refine Wk.on ?_
      intro _
      refine Wk.on ?_
      by_cases hN3 : N < 3
      · rw [decide_eq_true (show ((N : Nat) : Int) < 3 by omega)]
        refine Wk.on ?_
        refine CallA.ro2 [] (.c (.bool true)) (awake_spec) ?_
        refine Wk.on ?_
        exact AH.Fin.nil2 ⟨rfl, rfl, rfl⟩
      rw [decide_eq_false (show ¬ ((N : Nat) : Int) < 3 by omega)]
      refine Wk.on ?_
      rw [hN1c]
      refine Wk.on ?_
      have rk := rings_ok N (by omega) (decide_eq_true (by omega))
      rw [Bool.and_eq_true, Bool.and_eq_true, decide_eq_true_eq, decide_eq_true_eq] at rk
      obtain ⟨⟨r1, r2⟩, r3⟩ := rk
      have hR := grC_ok r1
      have hrl := rgL_len N (N - 2)
      have hrl2 : N - 2 + 2 = N := by omega
      rw [hrl2] at hrl
      have qc := quiet_len hR true (by omega) r2 (by split <;> omega)
      have qd := quiet_len hR false (by omega) r3 (by omega)
      rw [hrl] at qc qd
      refine Tr.loopU (md := true) (X := Option Nat) (rgSt N) (fun x => ∀ k, x = some k → k < N - 2) (fun x => match x with | some k => N - k | none => 0) (some 0) tok (by intro k hk; cases hk; omega) ?_ ?_
      · exact Under.wk [(1, 4)] ⟨rfl, rfl, Nat.le_of_ble_eq_true rfl, Nat.le_of_ble_eq_true rfl⟩ rfl ⟨.inl rfl, .inl rfl, .inl rfl, trivial⟩ ⟨.inl (by show ABlk.own _ = ABlk.own ((ints _).map _); rw [ints_ren]; rfl), .inl (congrArg ABlk.ro (tab64_ren _).symm), trivial⟩ rfl (by simp [tupA, hpLt, tmLt, AV.lt, AE.lt, AC.lt, LL_cons, LL_nil, idOk, ABlk.lt, ints_LL, GB, tab64_LL, pC, castL, prs, ptSt, rgSt]) (by simp [tupA, hpLt, tmLt, AV.lt, AE.lt, AC.lt, LL_cons, LL_nil, idOk, ABlk.lt, ints_LL, GB, tab64_LL, pC, castL, prs, ptSt, rgSt])
      intro x hx
      rcases x with _ | k
      · clear hx
        have hst : rgSt N none = ⟨[(0, .c (.int .i64 N)), (11, .c (.rs 1 0 N)), (12, .c (.int .i64 M))], [(1, .ro (ints (prs (rgL N (N - 2))))), (100001, .ro tab64)], 2, 130, 0⟩ := by rw [hM]; rfl
        rw [hst]
        generalize rgL N (N - 2) = RL at *
        obtain ⟨cc, hcc⟩ : ∃ c, c = if N % 3 = 0 then 2 else 0 := ⟨_, rfl⟩
        rw [← hcc] at qc
        have hs2 : (2 : Int) - ((N % 2 : Nat) : Int) = ((2 - N % 2 : Nat) : Int) := by omega
        refine Wk.on ?_
        rw [decide_eq_false (show ¬ ((M : Nat) : Int) + 1 < ((N : Nat) : Int) by omega)]
        refine Wk.on ?_
        refine CallA.det2 [1] (.t [.c (.rs 2 0 cc), .c (.int .i64 0)]) ([(1, .ro (ints (prs RL))), (100001, .ro tab64)]) (qc) ?_
        refine Wk.on ?_
        refine CallA.det2 [1] (.t [.c (.rs 3 0 (2 - N % 2)), .c (.int .i64 0)]) ([(1, .ro (ints (prs RL))), (100001, .ro tab64)]) (qd) ?_
        refine Wk.on ?_
        rw [hrem2]
        refine Wk.on ?_
        rw [hs2]
        refine Wk.on ?_
        rw [hrem3]
        by_cases h0 : N % 3 = 0
        · exact absurd h3 (by omega)
        · skip
          have hcc2 : cc = 0 := by rw [hcc, if_neg h0]
          rw [decide_eq_false (show ¬ ((N % 3 : Nat) : Int) = 0 by omega)]
          refine Wk.on ?_
          rw [decide_eq_true (show ((cc : Nat) : Int) = 0 by omega)]
          refine Wk.on ?_
          rw [decide_eq_true (show ((2 - N % 2 : Nat) : Int) = ((2 - N % 2 : Nat) : Int) from rfl)]
          refine Wk.on ?_
          refine CallA.ro2 [] (.c (.bool true)) (awake_spec) ?_
          refine Wk.on ?_
          exact AH.Fin.nil2 ⟨rfl, rfl, rfl⟩
      have hk := hx k rfl
      clear hx
      have hsu := rgL_succ N k
      rcases k with _ | k
      · have hml : (ints (prs (rgL N 0))).length = 4 := by rw [ints_len, prs_len, rgL_len]
        have hst : rgSt N (some 0) = ⟨[(0, .c (.int .i64 N)), (11, .c (.sl 1 0 2 (some 2))), (12, .c (.int .i64 1))], [(1, .own (ints (prs (rgL N 0)))), (100001, .ro tab64)], 2, 130, 0⟩ := rfl
        have hst3 : 0 + 1 = N - 2 → rgSt N none = ⟨[(0, .c (.int .i64 N)), (11, .c (.rs 1 0 3)), (12, .c (.int .i64 2))], [(1, .ro (ints (prs (rgL N (0 + 1))))), (100001, .ro tab64)], 2, 130, 0⟩ := fun e => by
          have : N = 3 := by omega
          subst this; rfl
        have hst2 : rgSt N (some (0 + 1)) = ⟨[(0, .c (.int .i64 N)), (11, .c (.row 1 3)), (12, .c (.int .i64 2))], [(1, .row 38 2 (ints (prs (rgL N (0 + 1))))), (100001, .ro tab64)], 2, 130, 0⟩ := rfl
        have htk : (ints (prs (rgL N 0))).take 4 = ints (prs (rgL N 0)) := List.take_of_length_le (by omega)
        rw [hst]
        generalize rgL N 0 = R0 at *
        refine Wk.on ?_
        rw [decide_eq_true (show (1 : Int) + 1 < ((N : Nat) : Int) by omega)]
        refine Wk.on ?_
        refine ⟨⟨Nat.le_of_ble_eq_true rfl, by decide, by rw [hml]; exact Nat.le_of_ble_eq_true rfl, by decide, by decide⟩, ?_⟩
        refine Wk.on ?_
        have hrow : ABlk.row 38 2 (((ints (prs R0)).drop 0).take (2 * 2) ++ [AC.int .i64 1, AC.int .i64 2]) = ABlk.row 38 2 (ints (prs (rgL N (0 + 1)))) := by
          rw [List.drop_zero, show 2 * 2 = 4 from rfl, htk, hsu]
          exact congrArg (ABlk.row 38 2) ((prs_lie R0 1 2 id).trans (ints_ren _ _))
        by_cases hl : 0 + 1 = N - 2
        · refine Again.under none ?_ (fun k hk => by cases hk) (by show 0 < N - 0; omega)
          rw [hst3 hl]
          exact Under.wk [(1, 3)] ⟨rfl, rfl, Nat.le_of_ble_eq_true rfl, Nat.le_of_ble_eq_true rfl⟩ rfl ⟨.inl rfl, .inr ⟨⟨rfl, rfl, rfl⟩, trivial⟩, .inl rfl, trivial⟩ ⟨.inr (.inl (.inl ((ABlk.row.inj hrow).2.2.trans (ints_ren _ _).symm))), .inl (congrArg ABlk.ro (tab64_ren _).symm), trivial⟩ rfl (by simp [tupA, hpLt, tmLt, AV.lt, AE.lt, AC.lt, LL_cons, LL_nil, idOk, ABlk.lt, ints_LL, GB, tab64_LL, pC, castL, prs, ptSt, rgSt]) (by simp [tupA, hpLt, tmLt, AV.lt, AE.lt, AC.lt, LL_cons, LL_nil, idOk, ABlk.lt, ints_LL, GB, tab64_LL, pC, castL, prs, ptSt, rgSt])
        · refine Again.under (some (0 + 1)) ?_ (fun k hk => by cases hk; omega) (by show N - (0 + 1) < N - 0; omega)
          rw [hst2]
          exact Under.wk [(1, 3)] ⟨rfl, rfl, Nat.le_of_ble_eq_true rfl, Nat.le_of_ble_eq_true rfl⟩ rfl ⟨.inl rfl, .inl rfl, .inl rfl, trivial⟩ ⟨.inl (hrow.trans (congrArg (ABlk.row 38 2) (ints_ren _ _).symm)), .inl (congrArg ABlk.ro (tab64_ren _).symm), trivial⟩ rfl (by simp [tupA, hpLt, tmLt, AV.lt, AE.lt, AC.lt, LL_cons, LL_nil, idOk, ABlk.lt, ints_LL, GB, tab64_LL, pC, castL, prs, ptSt, rgSt]) (by simp [tupA, hpLt, tmLt, AV.lt, AE.lt, AC.lt, LL_cons, LL_nil, idOk, ABlk.lt, ints_LL, GB, tab64_LL, pC, castL, prs, ptSt, rgSt])
      · have hml : (ints (prs (rgL N (k + 1)))).length = (k + 3) * 2 := by rw [ints_len, prs_len, rgL_len]
        have hst : rgSt N (some (k + 1)) = ⟨[(0, .c (.int .i64 N)), (11, .c (.row 1 (k + 3))), (12, .c (.int .i64 (k + 2 : Nat)))], [(1, .row 38 2 (ints (prs (rgL N (k + 1))))), (100001, .ro tab64)], 2, 130, 0⟩ := rfl
        have hst2 : rgSt N (some (k + 1 + 1)) = ⟨[(0, .c (.int .i64 N)), (11, .c (.row 1 (k + 3 + 1))), (12, .c (.int .i64 (k + 2 + 1 : Nat)))], [(1, .row 38 2 (ints (prs (rgL N (k + 1 + 1))))), (100001, .ro tab64)], 2, 130, 0⟩ := rfl
        have hst3 : k + 1 + 1 = N - 2 → rgSt N none = ⟨[(0, .c (.int .i64 N)), (11, .c (.rs 1 0 (k + 3 + 1))), (12, .c (.int .i64 (k + 2 + 1 : Nat)))], [(1, .ro (ints (prs (rgL N (k + 1 + 1))))), (100001, .ro tab64)], 2, 130, 0⟩ := fun e => by
          have : N = k + 4 := by omega
          subst this; rfl
        rw [hst]
        generalize rgL N (k + 1) = L at *
        refine Wk.on ?_
        rw [decide_eq_true (show ((k + 2 : Nat) : Int) + 1 < ((N : Nat) : Int) by omega)]
        refine Wk.on ?_
        refine ⟨⟨Nat.le_of_ble_eq_true rfl, rfl, rfl, by rw [hml], by show ((k + 3 + 1 : Nat) : Int) * 16 ≤ _; omega, by omega⟩, ?_⟩
        refine Wk.on ?_
        by_cases hl : k + 1 + 1 = N - 2
        · refine Again.under none ?_ (fun k hk => by cases hk) (by show 0 < N - (k + 1); omega)
          rw [hst3 hl, hsu]
          exact Under.wk [(1, 3)] ⟨rfl, rfl, Nat.le_of_ble_eq_true rfl, Nat.le_of_ble_eq_true rfl⟩ rfl ⟨.inl rfl, .inr ⟨⟨rfl, rfl, rfl⟩, trivial⟩, .inl rfl, trivial⟩ ⟨.inr (.inl (.inl (prs_lie _ _ _ _))), .inl (congrArg ABlk.ro (tab64_ren _).symm), trivial⟩ rfl (by simp [tupA, hpLt, tmLt, AV.lt, AE.lt, AC.lt, LL_cons, LL_nil, idOk, ABlk.lt, ints_LL, GB, tab64_LL, pC, castL, prs, ptSt, rgSt]) (by simp [tupA, hpLt, tmLt, AV.lt, AE.lt, AC.lt, LL_cons, LL_nil, idOk, ABlk.lt, ints_LL, GB, tab64_LL, pC, castL, prs, ptSt, rgSt])
        · refine Again.under (some (k + 1 + 1)) ?_ (fun k hk => by cases hk; omega) (by show N - (k + 1 + 1) < N - (k + 1); omega)
          rw [hst2, hsu]
          exact Under.wk [(1, 3)] ⟨rfl, rfl, Nat.le_of_ble_eq_true rfl, Nat.le_of_ble_eq_true rfl⟩ rfl ⟨.inl rfl, .inl rfl, .inl rfl, trivial⟩ ⟨.inl (congrArg (ABlk.row _ _) (prs_lie _ _ _ _)), .inl (congrArg ABlk.ro (tab64_ren _).symm), trivial⟩ rfl (by simp [tupA, hpLt, tmLt, AV.lt, AE.lt, AC.lt, LL_cons, LL_nil, idOk, ABlk.lt, ints_LL, GB, tab64_LL, pC, castL, prs, ptSt, rgSt]) (by simp [tupA, hpLt, tmLt, AV.lt, AE.lt, AC.lt, LL_cons, LL_nil, idOk, ABlk.lt, ints_LL, GB, tab64_LL, pC, castL, prs, ptSt, rgSt])
    · skip
      have hca2 : ca = 0 := by rw [hca, if_neg h3]
      rw [decide_eq_false (show ¬ ((N % 3 : Nat) : Int) = 2 by omega)]
      refine Wk.on ?_
      rw [decide_eq_false (show ¬ ((ca : Nat) : Int) ≠ 0 by omega)]
      refine Wk.on ?_
      rw [decide_eq_false (show ¬ ((N % 2 : Nat) : Int) ≠ ((N % 2 : Nat) : Int) by omega)]
      refine Wk.on ?_
      intro _
      refine Wk.on ?_
      by_cases hN3 : N < 3
      · rw [decide_eq_true (show ((N : Nat) : Int) < 3 by omega)]
        refine Wk.on ?_
        refine CallA.ro2 [] (.c (.bool true)) (awake_spec) ?_
        refine Wk.on ?_
        exact AH.Fin.nil2 ⟨rfl, rfl, rfl⟩
      rw [decide_eq_false (show ¬ ((N : Nat) : Int) < 3 by omega)]
      refine Wk.on ?_
      rw [hN1c]
      refine Wk.on ?_
      have rk := rings_ok N (by omega) (decide_eq_true (by omega))
      rw [Bool.and_eq_true, Bool.and_eq_true, decide_eq_true_eq, decide_eq_true_eq] at rk
      obtain ⟨⟨r1, r2⟩, r3⟩ := rk
      have hR := grC_ok r1
      have hrl := rgL_len N (N - 2)
      have hrl2 : N - 2 + 2 = N := by omega
      rw [hrl2] at hrl
      have qc := quiet_len hR true (by omega) r2 (by split <;> omega)
      have qd := quiet_len hR false (by omega) r3 (by omega)
      rw [hrl] at qc qd
      refine Tr.loopU (md := true) (X := Option Nat) (rgSt N) (fun x => ∀ k, x = some k → k < N - 2) (fun x => match x with | some k => N - k | none => 0) (some 0) tok (by intro k hk; cases hk; omega) ?_ ?_
      · exact Under.wk [(1, 4)] ⟨rfl, rfl, Nat.le_of_ble_eq_true rfl, Nat.le_of_ble_eq_true rfl⟩ rfl ⟨.inl rfl, .inl rfl, .inl rfl, trivial⟩ ⟨.inl (by show ABlk.own _ = ABlk.own ((ints _).map _); rw [ints_ren]; rfl), .inl (congrArg ABlk.ro (tab64_ren _).symm), trivial⟩ rfl (by simp [tupA, hpLt, tmLt, AV.lt, AE.lt, AC.lt, LL_cons, LL_nil, idOk, ABlk.lt, ints_LL, GB, tab64_LL, pC, castL, prs, ptSt, rgSt]) (by simp [tupA, hpLt, tmLt, AV.lt, AE.lt, AC.lt, LL_cons, LL_nil, idOk, ABlk.lt, ints_LL, GB, tab64_LL, pC, castL, prs, ptSt, rgSt])
      intro x hx
      rcases x with _ | k
      · clear hx
        have hst : rgSt N none = ⟨[(0, .c (.int .i64 N)), (11, .c (.rs 1 0 N)), (12, .c (.int .i64 M))], [(1, .ro (ints (prs (rgL N (N - 2))))), (100001, .ro tab64)], 2, 130, 0⟩ := by rw [hM]; rfl
        rw [hst]
        generalize rgL N (N - 2) = RL at *
        obtain ⟨cc, hcc⟩ : ∃ c, c = if N % 3 = 0 then 2 else 0 := ⟨_, rfl⟩
        rw [← hcc] at qc
        have hs2 : (2 : Int) - ((N % 2 : Nat) : Int) = ((2 - N % 2 : Nat) : Int) := by omega
        refine Wk.on ?_
        rw [decide_eq_false (show ¬ ((M : Nat) : Int) + 1 < ((N : Nat) : Int) by omega)]
        refine Wk.on ?_
        refine CallA.det2 [1] (.t [.c (.rs 2 0 cc), .c (.int .i64 0)]) ([(1, .ro (ints (prs RL))), (100001, .ro tab64)]) (qc) ?_
        refine Wk.on ?_
        refine CallA.det2 [1] (.t [.c (.rs 3 0 (2 - N % 2)), .c (.int .i64 0)]) ([(1, .ro (ints (prs RL))), (100001, .ro tab64)]) (qd) ?_
        refine Wk.on ?_
        rw [hrem2]
        refine Wk.on ?_
        rw [hs2]
        refine Wk.on ?_
        rw [hrem3]
        by_cases h0 : N % 3 = 0
        · skip
          have hcc2 : cc = 2 := by rw [hcc, if_pos h0]
          rw [decide_eq_true (show ((N % 3 : Nat) : Int) = 0 by omega)]
          refine Wk.on ?_
          rw [decide_eq_true (show ((cc : Nat) : Int) = 2 by omega)]
          refine Wk.on ?_
          rw [decide_eq_true (show ((2 - N % 2 : Nat) : Int) = ((2 - N % 2 : Nat) : Int) from rfl)]
          refine Wk.on ?_
          refine CallA.ro2 [] (.c (.bool true)) (awake_spec) ?_
          refine Wk.on ?_
          exact AH.Fin.nil2 ⟨rfl, rfl, rfl⟩
        · skip
          have hcc2 : cc = 0 := by rw [hcc, if_neg h0]
          rw [decide_eq_false (show ¬ ((N % 3 : Nat) : Int) = 0 by omega)]
          refine Wk.on ?_
          rw [decide_eq_true (show ((cc : Nat) : Int) = 0 by omega)]
          refine Wk.on ?_
          rw [decide_eq_true (show ((2 - N % 2 : Nat) : Int) = ((2 - N % 2 : Nat) : Int) from rfl)]
          refine Wk.on ?_
          refine CallA.ro2 [] (.c (.bool true)) (awake_spec) ?_
          refine Wk.on ?_
          exact AH.Fin.nil2 ⟨rfl, rfl, rfl⟩
      have hk := hx k rfl
      clear hx
      have hsu := rgL_succ N k
      rcases k with _ | k
      · have hml : (ints (prs (rgL N 0))).length = 4 := by rw [ints_len, prs_len, rgL_len]
        have hst : rgSt N (some 0) = ⟨[(0, .c (.int .i64 N)), (11, .c (.sl 1 0 2 (some 2))), (12, .c (.int .i64 1))], [(1, .own (ints (prs (rgL N 0)))), (100001, .ro tab64)], 2, 130, 0⟩ := rfl
        have hst3 : 0 + 1 = N - 2 → rgSt N none = ⟨[(0, .c (.int .i64 N)), (11, .c (.rs 1 0 3)), (12, .c (.int .i64 2))], [(1, .ro (ints (prs (rgL N (0 + 1))))), (100001, .ro tab64)], 2, 130, 0⟩ := fun e => by
          have : N = 3 := by omega
          subst this; rfl
        have hst2 : rgSt N (some (0 + 1)) = ⟨[(0, .c (.int .i64 N)), (11, .c (.row 1 3)), (12, .c (.int .i64 2))], [(1, .row 38 2 (ints (prs (rgL N (0 + 1))))), (100001, .ro tab64)], 2, 130, 0⟩ := rfl
        have htk : (ints (prs (rgL N 0))).take 4 = ints (prs (rgL N 0)) := List.take_of_length_le (by omega)
        rw [hst]
        generalize rgL N 0 = R0 at *
        refine Wk.on ?_
        rw [decide_eq_true (show (1 : Int) + 1 < ((N : Nat) : Int) by omega)]
        refine Wk.on ?_
        refine ⟨⟨Nat.le_of_ble_eq_true rfl, by decide, by rw [hml]; exact Nat.le_of_ble_eq_true rfl, by decide, by decide⟩, ?_⟩
        refine Wk.on ?_
        have hrow : ABlk.row 38 2 (((ints (prs R0)).drop 0).take (2 * 2) ++ [AC.int .i64 1, AC.int .i64 2]) = ABlk.row 38 2 (ints (prs (rgL N (0 + 1)))) := by
          rw [List.drop_zero, show 2 * 2 = 4 from rfl, htk, hsu]
          exact congrArg (ABlk.row 38 2) ((prs_lie R0 1 2 id).trans (ints_ren _ _))
        by_cases hl : 0 + 1 = N - 2
        · refine Again.under none ?_ (fun k hk => by cases hk) (by show 0 < N - 0; omega)
          rw [hst3 hl]
          exact Under.wk [(1, 3)] ⟨rfl, rfl, Nat.le_of_ble_eq_true rfl, Nat.le_of_ble_eq_true rfl⟩ rfl ⟨.inl rfl, .inr ⟨⟨rfl, rfl, rfl⟩, trivial⟩, .inl rfl, trivial⟩ ⟨.inr (.inl (.inl ((ABlk.row.inj hrow).2.2.trans (ints_ren _ _).symm))), .inl (congrArg ABlk.ro (tab64_ren _).symm), trivial⟩ rfl (by simp [tupA, hpLt, tmLt, AV.lt, AE.lt, AC.lt, LL_cons, LL_nil, idOk, ABlk.lt, ints_LL, GB, tab64_LL, pC, castL, prs, ptSt, rgSt]) (by simp [tupA, hpLt, tmLt, AV.lt, AE.lt, AC.lt, LL_cons, LL_nil, idOk, ABlk.lt, ints_LL, GB, tab64_LL, pC, castL, prs, ptSt, rgSt])
        · refine Again.under (some (0 + 1)) ?_ (fun k hk => by cases hk; omega) (by show N - (0 + 1) < N - 0; omega)
          rw [hst2]
          exact Under.wk [(1, 3)] ⟨rfl, rfl, Nat.le_of_ble_eq_true rfl, Nat.le_of_ble_eq_true rfl⟩ rfl ⟨.inl rfl, .inl rfl, .inl rfl, trivial⟩ ⟨.inl (hrow.trans (congrArg (ABlk.row 38 2) (ints_ren _ _).symm)), .inl (congrArg ABlk.ro (tab64_ren _).symm), trivial⟩ rfl (by simp [tupA, hpLt, tmLt, AV.lt, AE.lt, AC.lt, LL_cons, LL_nil, idOk, ABlk.lt, ints_LL, GB, tab64_LL, pC, castL, prs, ptSt, rgSt]) (by simp [tupA, hpLt, tmLt, AV.lt, AE.lt, AC.lt, LL_cons, LL_nil, idOk, ABlk.lt, ints_LL, GB, tab64_LL, pC, castL, prs, ptSt, rgSt])
      · have hml : (ints (prs (rgL N (k + 1)))).length = (k + 3) * 2 := by rw [ints_len, prs_len, rgL_len]
        have hst : rgSt N (some (k + 1)) = ⟨[(0, .c (.int .i64 N)), (11, .c (.row 1 (k + 3))), (12, .c (.int .i64 (k + 2 : Nat)))], [(1, .row 38 2 (ints (prs (rgL N (k + 1))))), (100001, .ro tab64)], 2, 130, 0⟩ := rfl
        have hst2 : rgSt N (some (k + 1 + 1)) = ⟨[(0, .c (.int .i64 N)), (11, .c (.row 1 (k + 3 + 1))), (12, .c (.int .i64 (k + 2 + 1 : Nat)))], [(1, .row 38 2 (ints (prs (rgL N (k + 1 + 1))))), (100001, .ro tab64)], 2, 130, 0⟩ := rfl
        have hst3 : k + 1 + 1 = N - 2 → rgSt N none = ⟨[(0, .c (.int .i64 N)), (11, .c (.rs 1 0 (k + 3 + 1))), (12, .c (.int .i64 (k + 2 + 1 : Nat)))], [(1, .ro (ints (prs (rgL N (k + 1 + 1))))), (100001, .ro tab64)], 2, 130, 0⟩ := fun e => by
          have : N = k + 4 := by omega
          subst this; rfl
        rw [hst]
        generalize rgL N (k + 1) = L at *
        refine Wk.on ?_
        rw [decide_eq_true (show ((k + 2 : Nat) : Int) + 1 < ((N : Nat) : Int) by omega)]
        refine Wk.on ?_
        refine ⟨⟨Nat.le_of_ble_eq_true rfl, rfl, rfl, by rw [hml], by show ((k + 3 + 1 : Nat) : Int) * 16 ≤ _; omega, by omega⟩, ?_⟩
        refine Wk.on ?_
        by_cases hl : k + 1 + 1 = N - 2
        · refine Again.under none ?_ (fun k hk => by cases hk) (by show 0 < N - (k + 1); omega)
          rw [hst3 hl, hsu]
          exact Under.wk [(1, 3)] ⟨rfl, rfl, Nat.le_of_ble_eq_true rfl, Nat.le_of_ble_eq_true rfl⟩ rfl ⟨.inl rfl, .inr ⟨⟨rfl, rfl, rfl⟩, trivial⟩, .inl rfl, trivial⟩ ⟨.inr (.inl (.inl (prs_lie _ _ _ _))), .inl (congrArg ABlk.ro (tab64_ren _).symm), trivial⟩ rfl (by simp [tupA, hpLt, tmLt, AV.lt, AE.lt, AC.lt, LL_cons, LL_nil, idOk, ABlk.lt, ints_LL, GB, tab64_LL, pC, castL, prs, ptSt, rgSt]) (by simp [tupA, hpLt, tmLt, AV.lt, AE.lt, AC.lt, LL_cons, LL_nil, idOk, ABlk.lt, ints_LL, GB, tab64_LL, pC, castL, prs, ptSt, rgSt])
        · refine Again.under (some (k + 1 + 1)) ?_ (fun k hk => by cases hk; omega) (by show N - (k + 1 + 1) < N - (k + 1); omega)
          rw [hst2, hsu]
          exact Under.wk [(1, 3)] ⟨rfl, rfl, Nat.le_of_ble_eq_true rfl, Nat.le_of_ble_eq_true rfl⟩ rfl ⟨.inl rfl, .inl rfl, .inl rfl, trivial⟩ ⟨.inl (congrArg (ABlk.row _ _) (prs_lie _ _ _ _)), .inl (congrArg ABlk.ro (tab64_ren _).symm), trivial⟩ rfl (by simp [tupA, hpLt, tmLt, AV.lt, AE.lt, AC.lt, LL_cons, LL_nil, idOk, ABlk.lt, ints_LL, GB, tab64_LL, pC, castL, prs, ptSt, rgSt]) (by simp [tupA, hpLt, tmLt, AV.lt, AE.lt, AC.lt, LL_cons, LL_nil, idOk, ABlk.lt, ints_LL, GB, tab64_LL, pC, castL, prs, ptSt, rgSt])
  have hk := hx k rfl
  clear hx hx2
  have hsu := ptL_succ k
  rcases k with _ | k
  · by_cases hN1 : N = 1
    · subst hN1
      have hca0 : ca = 0 := by rw [hca]; rfl
      subst hca0
      have qa2 := quiet_one (own := true) qa (by simp [AV.all, AC.all, AE.all])
      have qb2 := quiet_one (own := false) qb (by simp [AV.all, AC.all, AE.all])
      refine Wk.on ?_
      refine CallA.det2 [0] (.t [.c (.rs 2 0 0), .c (.int .i64 0)]) ([(100001, .ro tab64)]) (qa2) ?_
      refine Wk.on ?_
      refine CallA.det2 [0] (.t [.c (.rs 3 0 1), .c (.int .i64 0)]) ([(100001, .ro tab64)]) (qb2) ?_
      refine Wk.on ?_
      refine CallA.ro2 [] (.c (.bool true)) (awake_spec) ?_
      refine Wk.on ?_
      exact AH.Fin.nil2 ⟨rfl, rfl, rfl⟩
    refine Wk.on ?_
    rw [decide_eq_true (show (0 : Int) + 1 < ((N : Nat) : Int) by omega)]
    refine Wk.on ?_
    by_cases hl : 0 + 1 = N - 1
    · refine Again.under none ?_ ⟨fun k hk => (by cases hk), fun _ => by omega⟩ (by show 0 < N - 0; omega)
      have hN2 : N = 2 := by omega
      subst hN2
      exact Under.wk [(1, 3)] ⟨rfl, rfl, Nat.le_of_ble_eq_true rfl, Nat.le_of_ble_eq_true rfl⟩ rfl ⟨.inl rfl, .inr ⟨⟨rfl, rfl, rfl⟩, trivial⟩, .inl rfl, trivial⟩ ⟨.inr (.inl (.inl (by rw [ints_ren]; rfl))), .inl (congrArg ABlk.ro (tab64_ren _).symm), trivial⟩ rfl (by simp [tupA, hpLt, tmLt, AV.lt, AE.lt, AC.lt, LL_cons, LL_nil, idOk, ABlk.lt, ints_LL, GB, tab64_LL, pC, castL, prs, ptSt, rgSt]) (by simp [tupA, hpLt, tmLt, AV.lt, AE.lt, AC.lt, LL_cons, LL_nil, idOk, ABlk.lt, ints_LL, GB, tab64_LL, pC, castL, prs, ptSt, rgSt])
    · refine Again.under (some 1) ?_ ⟨fun k hk => (by cases hk; omega), fun h => (by cases h)⟩ (by show N - 1 < N - 0; omega)
      exact Under.wk [(1, 3)] ⟨rfl, rfl, Nat.le_of_ble_eq_true rfl, Nat.le_of_ble_eq_true rfl⟩ rfl ⟨.inl rfl, .inl rfl, .inl rfl, trivial⟩ ⟨.inl (by show ABlk.row 38 2 _ = ABlk.row 38 2 ((ints _).map _); rw [ints_ren]; rfl), .inl (congrArg ABlk.ro (tab64_ren _).symm), trivial⟩ rfl (by simp [tupA, hpLt, tmLt, AV.lt, AE.lt, AC.lt, LL_cons, LL_nil, idOk, ABlk.lt, ints_LL, GB, tab64_LL, pC, castL, prs, ptSt, rgSt]) (by simp [tupA, hpLt, tmLt, AV.lt, AE.lt, AC.lt, LL_cons, LL_nil, idOk, ABlk.lt, ints_LL, GB, tab64_LL, pC, castL, prs, ptSt, rgSt])
  · have hml : (ints (prs (ptL (k + 1)))).length = (k + 1) * 2 := by rw [ints_len, prs_len, ptL_len]
    have hst : ptSt N (some (k + 1)) = ⟨[(0, .c (.int .i64 N)), (3, .c (.row 1 (k + 1))), (4, .c (.int .i64 (k + 1 : Nat)))], [(1, .row 38 2 (ints (prs (ptL (k + 1))))), (100001, .ro tab64)], 2, 130, 0⟩ := rfl
    have hst2 : ptSt N (some (k + 1 + 1)) = ⟨[(0, .c (.int .i64 N)), (3, .c (.row 1 (k + 1 + 1))), (4, .c (.int .i64 (k + 1 + 1 : Nat)))], [(1, .row 38 2 (ints (prs (ptL (k + 1 + 1))))), (100001, .ro tab64)], 2, 130, 0⟩ := rfl
    have hst3 : k + 1 + 1 = N - 1 → ptSt N none = ⟨[(0, .c (.int .i64 N)), (3, .c (.rs 1 0 (k + 1 + 1))), (4, .c (.int .i64 (k + 1 + 1 : Nat)))], [(1, .ro (ints (prs (ptL (k + 1 + 1))))), (100001, .ro tab64)], 2, 130, 0⟩ := fun e => by rw [e]; rfl
    rw [hst]
    generalize ptL (k + 1) = L at *
    refine Wk.on ?_
    rw [decide_eq_true (show ((k + 1 : Nat) : Int) + 1 < ((N : Nat) : Int) by omega)]
    refine Wk.on ?_
    refine ⟨⟨Nat.le_of_ble_eq_true rfl, rfl, rfl, by rw [hml], by show ((k + 1 + 1 : Nat) : Int) * 16 ≤ _; omega, by omega⟩, ?_⟩
    refine Wk.on ?_
    by_cases hl : k + 1 + 1 = N - 1
    · refine Again.under none ?_ ⟨fun k hk => (by cases hk), fun _ => by omega⟩ (by show 0 < N - (k + 1); omega)
      rw [hst3 hl, hsu]
      exact Under.wk [(1, 3)] ⟨rfl, rfl, Nat.le_of_ble_eq_true rfl, Nat.le_of_ble_eq_true rfl⟩ rfl ⟨.inl rfl, .inr ⟨⟨rfl, rfl, rfl⟩, trivial⟩, .inl rfl, trivial⟩ ⟨.inr (.inl (.inl (prs_lie _ _ _ _))), .inl (congrArg ABlk.ro (tab64_ren _).symm), trivial⟩ rfl (by simp [tupA, hpLt, tmLt, AV.lt, AE.lt, AC.lt, LL_cons, LL_nil, idOk, ABlk.lt, ints_LL, GB, tab64_LL, pC, castL, prs, ptSt, rgSt]) (by simp [tupA, hpLt, tmLt, AV.lt, AE.lt, AC.lt, LL_cons, LL_nil, idOk, ABlk.lt, ints_LL, GB, tab64_LL, pC, castL, prs, ptSt, rgSt])
    · refine Again.under (some (k + 1 + 1)) ?_ ⟨fun k hk => (by cases hk; omega), fun h => (by cases h)⟩ (by show N - (k + 1 + 1) < N - (k + 1); omega)
      rw [hst2, hsu]
      exact Under.wk [(1, 3)] ⟨rfl, rfl, Nat.le_of_ble_eq_true rfl, Nat.le_of_ble_eq_true rfl⟩ rfl ⟨.inl rfl, .inl rfl, .inl rfl, trivial⟩ ⟨.inl (congrArg (ABlk.row _ _) (prs_lie _ _ _ _)), .inl (congrArg ABlk.ro (tab64_ren _).symm), trivial⟩ rfl (by simp [tupA, hpLt, tmLt, AV.lt, AE.lt, AC.lt, LL_cons, LL_nil, idOk, ABlk.lt, ints_LL, GB, tab64_LL, pC, castL, prs, ptSt, rgSt]) (by simp [tupA, hpLt, tmLt, AV.lt, AE.lt, AC.lt, LL_cons, LL_nil, idOk, ABlk.lt, ints_LL, GB, tab64_LL, pC, castL, prs, ptSt, rgSt])
end Go.Proofs.YtimknijehaamlaaDoor
