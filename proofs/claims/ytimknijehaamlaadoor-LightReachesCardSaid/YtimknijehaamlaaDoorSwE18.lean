/-
  Contract: Hardest.
-/
import Derived.Test.YtimknijehaamlaaDoorSw1
import Derived.Test.YtimknijehaamlaaDoorSwE17
set_option linter.unusedSimpArgs false
set_option linter.unusedVariables false
namespace Go.Proofs.YtimknijehaamlaaDoor
open Go Go.AH Go.Lin
set_option maxRecDepth 100000
set_option maxHeartbeats 1000000

theorem rep_castL (m : Nat) : (List.replicate m (AC.int .i64 0)) = ints (castL (List.replicate m 0)) := by
  simp [ints, castL]
theorem max_sl {F : List Nat} {m : Nat} (hl : F.length = m) (h0 : 0 < m) (hm : m ≤ 1000000) : FDet Tryd.prog 62 [.c (.sl 0 0 m (some m))] [(0, .ro (ints (castL F)))] 1 (.c (.int .i64 (mxL F m : Nat))) [] 1 :=
  FDet.wk (max_spec hl h0 hm) ⟨⟨rfl, rfl, rfl⟩, trivial⟩ ⟨.inl rfl, trivial⟩
theorem hardIx_sl {F : List Nat} {m x v : Nat} (hl : F.length = m) (hm : m ≤ 1000000) (hx : x < m) (h1 : F.getD x 0 = v) (h2 : ∀ j, j < x → F.getD j 0 ≠ v) : FDet Tryd.prog 63 [.c (.sl 0 0 m (some m)), .c (.int .i64 v)] [(0, .ro (ints (castL F)))] 1 (.c (.int .i64 x)) [] 1 :=
  FDet.wk (hardIx_spec hl hm hx h1 h2) ⟨⟨rfl, rfl, rfl⟩, rfl, trivial⟩ ⟨.inl rfl, trivial⟩
theorem Hardest_spec {n : Nat} {ws : List (Nat × Nat)} (h : Gr n ws) (own : Bool) (hw : ws.length ≤ 1000) {x v : Nat} (hx : x < 65536) (h1 : mxL ((hdT (openR n ws own) 65536 (2 ^ n)).set 0 0) 65536 = v) (h2 : ((hdT (openR n ws own) 65536 (2 ^ n)).set 0 0).getD x 0 = v) (h3 : ∀ j, j < x → ((hdT (openR n ws own) 65536 (2 ^ n)).set 0 0).getD j 0 ≠ v) : FDet Tryd.prog 46 [.c (.int .i64 n), .c (.rs 0 0 ws.length), .c (.bool own)] [(0, .ro (ints (prs ws))), (100001, .ro tab64)] 1 (.t [.c (.int .i64 x), .c (.int .i64 v), .c (.int .i64 0)]) [] 1 := by
  have hn1 := h.n1
  have hn := h.n16
  have ho := open_rn h own hw
  have hL := openR_lm h own
  have hp := hL.pow
  generalize openR n ws own = rows at *
  obtain ⟨q, hq⟩ : ∃ q, q = 2 ^ n := ⟨_, rfl⟩
  have hsh : (1 : Int) * 2 ^ (Int.toNat ((n : Nat) : Int)) = (q : Int) := by simp [hq]
  have hwn : IntKind.u64.wrap ((n : Nat) : Int) = n := wrapU (by omega)
  have hfl : ((hdT rows 65536 (2 ^ n)).set 0 0).length = 65536 := by rw [List.length_set, hdT_len]
  have hmx := max_sl hfl (by omega) (by omega)
  have hix := hardIx_sl hfl (by omega) hx h2 h3
  rw [h1] at hmx
  rw [← hq] at hp hfl hmx hix
  clear h1 h2 h3
  refine FSpec.body2 tok2 true Tryd.func46 ?_
  refine Wk.on ?_
  refine CallA.det2 [0] (.t [.c (.ptr 1 0), .c (.int .i64 0)]) ([(0, .ro (ints (prs ws))), (100001, .ro tab64), (1, .own (lC n rows))]) (ho) ?_
  refine Wk.on ?_
  rw [hwn]
  refine ⟨⟨by omega, by omega, by rw [hsh]; unfold I64; omega⟩, ?_⟩
  rw [hsh]
  refine Wk.on ?_
  rw [rep_castL]
  refine Tr.loop (md := true) (X := Nat) (st := fun s => ⟨[(9, .c (.ptr 1 0)), (11, .c (.ptr 2 0)), (27, .c (.int .i64 q)), (28, .c (.int .i64 s))], [(2, .own (ints (castL (hdT rows 65536 s)))), (1, .own (lC n rows)), (100001, .ro tab64)], 3, 64, 1⟩) (inv := fun s => s ≤ q) (μ := fun s => q - s) (x0 := 0) (l := []) tok2 (by omega) ?_ ?_
  · exact Sub.nil ⟨rfl, rfl, (by simp [tab64_LL, pC, castL, prs, lC]), rfl, (by simp [tupA, hpLt, tmLt, AV.lt, AE.lt, AC.lt, LL_cons, LL_nil, idOk, ABlk.lt, ints_LL, GB, tab64_LL, pC, castL, prs, lC]), (by simp [tupA, hpLt, tmLt, AV.lt, AE.lt, AC.lt, LL_cons, LL_nil, idOk, ABlk.lt, ints_LL, GB, tab64_LL, pC, castL, prs, lC])⟩ (by (repeat (first | exact trivial | refine ⟨trivial, ?_⟩ | refine ⟨rfl, ?_⟩))) (by (repeat (first | exact trivial | refine ⟨trivial, ?_⟩ | refine ⟨rfl, ?_⟩)))
  intro s hs
  have hdl : (ints (castL (hdT rows 65536 s))).length = 65536 := by rw [ints_len, castL_len, hdT_len]
  by_cases hsq : s < q
  · have hsu := hdT_succ rows 65536 s
    have he := hL.eff s
    rw [← hq] at he
    have ef := effect_spec hL (x := s) (by rw [← hq]; exact hsq)
    have os := ones_spec (n := s) (by omega)
    have hws : IntKind.u64.wrap ((s : Nat) : Int) = s := wrapU (by omega)
    rw [hdS] at hsu
    generalize hdT rows 65536 s = F at *
    generalize eff rows s = e at *
    obtain ⟨f, hf⟩ : ∃ f, f = F.getD e 0 := ⟨_, rfl⟩
    rw [← hf] at hsu
    refine Wk.on ?_
    rw [decide_eq_true (show ((s : Nat) : Int) < ((q : Nat) : Int) by omega)]
    refine Wk.on ?_
    refine CallA.ro2 [1] (.c (.int .i64 e)) (ef) ?_
    refine Wk.on ?_
    refine Tr.draw (md := true) [⟨[], [], [], [], []⟩, ⟨[0], [], [], [], []⟩, ⟨[0, 1], [], [], [], []⟩, ⟨[0, 1, 2], [], [], [], []⟩, ⟨[0, 1, 2, 3], [], [], [], []⟩, ⟨[0, 1, 2, 3, 4], [], [], [], []⟩, ⟨[0, 1, 2, 3, 4, 5], [], [], [], []⟩, ⟨[0, 1, 2, 3, 4, 5, 6], [], [], [], []⟩, ⟨[0, 1, 2, 3, 4, 5, 6, 7], [45, 46, 47], [], [], []⟩, ⟨[0, 1, 2, 3, 4, 5, 6, 7, 8], [45, 46, 47], [], [], []⟩, ⟨[0, 1, 2, 3, 4, 5, 6, 7, 8, 9], [45, 46, 47], [], [], []⟩, ⟨[0, 1, 2, 3, 4, 5, 6, 7], [42, 43, 44], [8, 9, 10], [], []⟩, ⟨[0, 1, 2, 3, 4, 5, 6, 7, 11], [42, 43, 44], [8, 9, 10], [], []⟩, ⟨[0, 1, 2, 3, 4, 5, 6, 7, 11, 12], [42, 43, 44], [8, 9, 10], [], []⟩] tok2 (by kernel_rfl) (by kernel_rfl) ?_
    refine Wk.on ?_
    by_cases s0 : s = 0
    · rw [decide_eq_false (show ¬ ((s : Nat) : Int) ≠ 0 by omega)]
      rw [if_neg (fun h => h.1 s0)] at hsu
      refine Wk.on ?_
      refine Again.mk (s + 1) (Sub.nil ⟨rfl, rfl, (by simp [tab64_LL, pC, castL, prs, lC]), rfl, (by simp [tupA, hpLt, tmLt, AV.lt, AE.lt, AC.lt, LL_cons, LL_nil, idOk, ABlk.lt, ints_LL, GB, tab64_LL, pC, castL, prs, lC]), (by simp [tupA, hpLt, tmLt, AV.lt, AE.lt, AC.lt, LL_cons, LL_nil, idOk, ABlk.lt, ints_LL, GB, tab64_LL, pC, castL, prs, lC])⟩ (by (repeat (first | exact trivial | refine ⟨trivial, ?_⟩ | refine ⟨rfl, ?_⟩))) ⟨by show ABlk.own (ints (castL F)) = ABlk.own (ints (castL (hdT rows 65536 (s + 1)))); rw [hsu], rfl, rfl, trivial⟩) (by omega) (by omega)
    · rw [decide_eq_true (show ((s : Nat) : Int) ≠ 0 by omega)]
      refine Wk.on ?_
      rw [cget, ← hf]
      refine Wk.on ?_
      by_cases f0 : f = 0
      · rw [decide_eq_true (show ((f : Nat) : Int) = 0 by omega)]
        rw [if_pos ⟨s0, .inl f0⟩] at hsu
        refine Wk.on ?_
        rw [hws]
        refine CallA.ro2 [] (.c (.int .i64 (pop s : Nat))) (os) ?_
        refine Wk.on ?_
        refine Again.mk (s + 1) (Sub.nil ⟨rfl, rfl, (by simp [tab64_LL, pC, castL, prs, lC]), rfl, (by simp [tupA, hpLt, tmLt, AV.lt, AE.lt, AC.lt, LL_cons, LL_nil, idOk, ABlk.lt, ints_LL, GB, tab64_LL, pC, castL, prs, lC]), (by simp [tupA, hpLt, tmLt, AV.lt, AE.lt, AC.lt, LL_cons, LL_nil, idOk, ABlk.lt, ints_LL, GB, tab64_LL, pC, castL, prs, lC])⟩ (by (repeat (first | exact trivial | refine ⟨trivial, ?_⟩ | refine ⟨rfl, ?_⟩))) ⟨by show ABlk.own ((ints (castL F)).set (0 + Int.toNat ((e : Nat) : Int) * 1) (.int .i64 (pop s : Nat))) = ABlk.own (ints (castL (hdT rows 65536 (s + 1)))); rw [cset, hsu], rfl, rfl, trivial⟩) (by omega) (by omega)
      · rw [decide_eq_false (show ¬ ((f : Nat) : Int) = 0 by omega)]
        refine Wk.on ?_
        rw [hws]
        refine CallQ.ro2 [] (.c (.int .i64 (pop s : Nat))) (os) ?_
        refine Wk.on ?_
        rw [cget, ← hf]
        refine Wk.on ?_
        by_cases c1 : pop s < f
        · rw [decide_eq_true (show ((pop s : Nat) : Int) < ((f : Nat) : Int) by omega)]
          rw [if_pos ⟨s0, .inr c1⟩] at hsu
          refine Wk.on ?_
          rw [hws]
          refine CallA.ro2 [] (.c (.int .i64 (pop s : Nat))) (os) ?_
          refine Wk.on ?_
          refine Again.mk (s + 1) (Sub.nil ⟨rfl, rfl, (by simp [tab64_LL, pC, castL, prs, lC]), rfl, (by simp [tupA, hpLt, tmLt, AV.lt, AE.lt, AC.lt, LL_cons, LL_nil, idOk, ABlk.lt, ints_LL, GB, tab64_LL, pC, castL, prs, lC]), (by simp [tupA, hpLt, tmLt, AV.lt, AE.lt, AC.lt, LL_cons, LL_nil, idOk, ABlk.lt, ints_LL, GB, tab64_LL, pC, castL, prs, lC])⟩ (by (repeat (first | exact trivial | refine ⟨trivial, ?_⟩ | refine ⟨rfl, ?_⟩))) ⟨by show ABlk.own ((ints (castL F)).set (0 + Int.toNat ((e : Nat) : Int) * 1) (.int .i64 (pop s : Nat))) = ABlk.own (ints (castL (hdT rows 65536 (s + 1)))); rw [cset, hsu], rfl, rfl, trivial⟩) (by omega) (by omega)
        · rw [decide_eq_false (show ¬ ((pop s : Nat) : Int) < ((f : Nat) : Int) by omega)]
          rw [if_neg (by omega)] at hsu
          refine Wk.on ?_
          refine Again.mk (s + 1) (Sub.nil ⟨rfl, rfl, (by simp [tab64_LL, pC, castL, prs, lC]), rfl, (by simp [tupA, hpLt, tmLt, AV.lt, AE.lt, AC.lt, LL_cons, LL_nil, idOk, ABlk.lt, ints_LL, GB, tab64_LL, pC, castL, prs, lC]), (by simp [tupA, hpLt, tmLt, AV.lt, AE.lt, AC.lt, LL_cons, LL_nil, idOk, ABlk.lt, ints_LL, GB, tab64_LL, pC, castL, prs, lC])⟩ (by (repeat (first | exact trivial | refine ⟨trivial, ?_⟩ | refine ⟨rfl, ?_⟩))) ⟨by show ABlk.own (ints (castL F)) = ABlk.own (ints (castL (hdT rows 65536 (s + 1)))); rw [hsu], rfl, rfl, trivial⟩) (by omega) (by omega)
  obtain rfl : s = q := by omega
  clear hs hsq
  generalize hdT rows 65536 s = F at *
  refine Wk.on ?_
  rw [decide_eq_false (show ¬ ((s : Nat) : Int) < ((s : Nat) : Int) by omega)]
  refine Wk.on ?_
  intro _
  refine Wk.on ?_
  rw [show (ints (castL F)).set (0 + Int.toNat 0 * 1) (.int .i64 0) = ints (castL (F.set 0 0)) from cset F 0 0]
  have hdl2 : (ints (castL (F.set 0 0))).length = 65536 := by rw [ints_len, castL_len, hfl]
  generalize F.set 0 0 = G at *
  refine Wk.on ?_
  refine CallA.ro2 [2] (.c (.int .i64 v)) (hmx) ?_
  refine Wk.on ?_
  refine CallA.ro2 [2] (.c (.int .i64 x)) (hix) ?_
  refine Wk.on ?_
  exact AH.Fin.nil2 ⟨rfl, rfl, rfl⟩
end Go.Proofs.YtimknijehaamlaaDoor
