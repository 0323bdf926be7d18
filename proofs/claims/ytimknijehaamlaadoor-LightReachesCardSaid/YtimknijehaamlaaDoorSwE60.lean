/-
  Contract: the reference's Fewest.
-/
import Derived.Test.YtimknijehaamlaaDoorSwE5
import Derived.Test.YtimknijehaamlaaDoorSwE20
set_option linter.unusedSimpArgs false
set_option linter.unusedVariables false
namespace Go.Proofs.YtimknijehaamlaaDoor
open Go Go.AH Go.Lin
set_option maxRecDepth 100000
set_option maxHeartbeats 1000000

theorem refFewest_spec {n : Nat} {L : List Nat} (hL : ∀ j, L.getD j 0 < 2 ^ n) (hn : n ≤ 12) (hl : L.length = n) : FDet Tryd.prog 39 [.c (.sl 0 0 n (some n))] [(0, .ro (ints (castL L)))] 1 (.c (.sl 1 0 (2 ^ n) (some (2 ^ n)))) [(1, .own (ints (fewT L (2 ^ n) (2 ^ n))))] 2 := by
  obtain ⟨q, hq⟩ : ∃ q, q = 2 ^ n := ⟨_, rfl⟩
  have hsh : (1 : Int) * 2 ^ (Int.toNat ((n : Nat) : Int)) = (q : Int) := by simp [hq]
  have hq2 : q ≤ 4096 := by rw [hq]; exact (Nat.pow_le_pow_right (by omega) hn : 2 ^ n ≤ 2 ^ 12)
  have hq0 : 0 < q := by rw [hq]; exact Nat.two_pow_pos n
  have hcl : (ints (castL L)).length = n := by rw [ints_len, castL_len, hl]
  have hef : ∀ x, eff L x < q := fun x => by rw [hq]; exact effX_lt hL x _ 0 (Nat.two_pow_pos n)
  rw [← hq]
  refine FSpec.body2 tok true Tryd.func39 ?_
  refine Wk.on ?_
  rw [hsh]
  refine Wk.on ?_
  refine ⟨⟨Nat.le_of_ble_eq_true rfl, Nat.le_of_ble_eq_true rfl, rfl, by omega, rfl, by show (8 : Int) * (q : Int) ≤ _; omega, by omega⟩, ?_⟩
  rw [Int.toNat_natCast]
  refine Wk.on ?_
  refine Tr.loop (md := true) (X := Nat) (st := fun i => ⟨[(0, .c (.sl 0 0 n (some n))), (3, .c (.int .i64 n)), (4, .c (.sl 1 0 q (some q))), (5, .c (.int .i64 i))], [(1, .own (ints (tabL (fun _ => -1) q i))), (0, .ro (ints (castL L)))], 2, 51, 1⟩) (inv := fun i => i ≤ q) (μ := fun i => q - i) (x0 := 0) (l := []) tok (by omega) ?_ ?_
  · exact Sub.nil ⟨rfl, rfl, (by simp [tab64_LL, pC, castL, prs, tmV, tmH, tmK]), rfl, (by simp [tupA, hpLt, tmLt, AV.lt, AE.lt, AC.lt, LL_cons, LL_nil, idOk, ABlk.lt, ints_LL, GB, tab64_LL, pC, castL, prs, tmV, tmH, tmK]), (by simp [tupA, hpLt, tmLt, AV.lt, AE.lt, AC.lt, LL_cons, LL_nil, idOk, ABlk.lt, ints_LL, GB, tab64_LL, pC, castL, prs, tmV, tmH, tmK])⟩ (by (repeat (first | exact trivial | refine ⟨trivial, ?_⟩ | refine ⟨rfl, ?_⟩))) ⟨by show ABlk.own (rep q [.int .i64 0]) = _; rw [rep_ints, tabL_zero], rfl, trivial⟩
  intro i hi
  have htl : (ints (tabL (fun _ => -1) q i)).length = q := by rw [ints_len, tabL_len]
  by_cases hil : i < q
  · have hsu := tabL_succ (fun _ => -1) q i
    refine Wk.on ?_
    rw [hsh, decide_eq_true (show ((i : Nat) : Int) < ((q : Nat) : Int) by omega)]
    refine Wk.on ?_
    refine Again.mk (i + 1) (Sub.nil ⟨rfl, rfl, (by simp [tab64_LL, pC, castL, prs, tmV, tmH, tmK]), rfl, (by simp [tupA, hpLt, tmLt, AV.lt, AE.lt, AC.lt, LL_cons, LL_nil, idOk, ABlk.lt, ints_LL, GB, tab64_LL, pC, castL, prs, tmV, tmH, tmK]), (by simp [tupA, hpLt, tmLt, AV.lt, AE.lt, AC.lt, LL_cons, LL_nil, idOk, ABlk.lt, ints_LL, GB, tab64_LL, pC, castL, prs, tmV, tmH, tmK])⟩ (by (repeat (first | exact trivial | refine ⟨trivial, ?_⟩ | refine ⟨rfl, ?_⟩))) ⟨by show ABlk.own ((ints (tabL (fun _ => -1) q i)).set (0 + Int.toNat ((i : Nat) : Int) * 1) (.int .i64 (-1))) = ABlk.own (ints (tabL (fun _ => -1) q (i + 1))); rw [iset, hsu], rfl, trivial⟩) (by omega) (by omega)
  obtain rfl : i = q := by omega
  have h0 : tabL (fun _ => -1) i i = fewT L i 0 := tabL_all _ _
  rw [h0] at htl ⊢
  clear h0
  refine Wk.on ?_
  rw [hsh, decide_eq_false (show ¬ ((i : Nat) : Int) < ((i : Nat) : Int) by omega)]
  refine Wk.on ?_
  refine Tr.loop (md := true) (X := Nat) (st := fun s => ⟨[(0, .c (.sl 0 0 n (some n))), (3, .c (.int .i64 n)), (4, .c (.sl 1 0 i (some i))), (6, .c (.int .i64 s))], [(1, .own (ints (fewT L i s))), (0, .ro (ints (castL L)))], 2, 51, 1⟩) (inv := fun s => s ≤ i) (μ := fun s => i - s) (x0 := 0) (l := []) tok (by omega) ?_ ?_
  · exact Sub.nil ⟨rfl, rfl, (by simp [tab64_LL, pC, castL, prs, tmV, tmH, tmK]), rfl, (by simp [tupA, hpLt, tmLt, AV.lt, AE.lt, AC.lt, LL_cons, LL_nil, idOk, ABlk.lt, ints_LL, GB, tab64_LL, pC, castL, prs, tmV, tmH, tmK]), (by simp [tupA, hpLt, tmLt, AV.lt, AE.lt, AC.lt, LL_cons, LL_nil, idOk, ABlk.lt, ints_LL, GB, tab64_LL, pC, castL, prs, tmV, tmH, tmK])⟩ (by (repeat (first | exact trivial | refine ⟨trivial, ?_⟩ | refine ⟨rfl, ?_⟩))) (by (repeat (first | exact trivial | refine ⟨trivial, ?_⟩ | refine ⟨rfl, ?_⟩)))
  intro s hs
  have htl : (ints (fewT L i s)).length = i := by rw [ints_len, fewT_len]
  by_cases hsl : s < i
  · have hsu := fewT_succ L i s
    have he := hef s
    have hat := (fewT_at hef s (eff L s) he).range
    have re := refEffect_sl hL (by omega) hl (by omega) s
    rw [fewS] at hsu
    generalize fewT L i s = T at *
    generalize eff L s = e at *
    obtain ⟨v, hv⟩ : ∃ v, v = T.getD e 0 := ⟨_, rfl⟩
    rw [← hv] at hsu hat
    obtain ⟨v1, v2, v3⟩ := hat
    have hps := Size_spec (x := s) (by omega)
    refine Wk.on ?_
    rw [hsh, decide_eq_true (show ((s : Nat) : Int) < ((i : Nat) : Int) by omega)]
    refine Wk.on ?_
    refine CallA.ro2 [0] (.c (.int .i64 e)) (re) ?_
    refine Wk.on ?_
    refine Tr.draw (md := true) [⟨[], [32], [], [], []⟩, ⟨[], [31], [0], [], []⟩, ⟨[0, 1], [], [], [], []⟩, ⟨[0, 1, 2], [], [], [], []⟩, ⟨[0, 1, 2, 3], [], [], [], []⟩, ⟨[0, 1, 2, 3, 4], [], [], [], []⟩, ⟨[0, 1, 2, 3, 4, 5], [39, 40, 41, 42], [], [], []⟩, ⟨[0, 1, 2, 3, 4, 5, 6], [39, 40, 41, 42], [], [], []⟩, ⟨[0, 1, 2, 3, 4, 5], [37, 38, 40], [6, 7], [], []⟩, ⟨[0, 1, 2, 3, 4, 5], [37, 38, 39], [6, 7, 8], [], []⟩, ⟨[0, 1, 2, 3, 4, 5, 8, 9], [37, 38], [6, 7], [], []⟩, ⟨[0, 1, 2, 3, 4, 5, 8, 9, 10], [37, 38], [6, 7], [], []⟩] tok (by kernel_rfl) (by kernel_rfl) ?_
    refine Wk.on ?_
    rw [iget, ← hv]
    refine Wk.on ?_
    by_cases c0 : v < 0
    · rw [decide_eq_true c0]
      rw [if_pos (.inl c0)] at hsu
      refine Wk.on ?_
      refine Again.mk (s + 1) (Sub.nil ⟨rfl, rfl, (by simp [tab64_LL, pC, castL, prs, tmV, tmH, tmK]), rfl, (by simp [tupA, hpLt, tmLt, AV.lt, AE.lt, AC.lt, LL_cons, LL_nil, idOk, ABlk.lt, ints_LL, GB, tab64_LL, pC, castL, prs, tmV, tmH, tmK]), (by simp [tupA, hpLt, tmLt, AV.lt, AE.lt, AC.lt, LL_cons, LL_nil, idOk, ABlk.lt, ints_LL, GB, tab64_LL, pC, castL, prs, tmV, tmH, tmK])⟩ (by (repeat (first | exact trivial | refine ⟨trivial, ?_⟩ | refine ⟨rfl, ?_⟩))) ⟨by show ABlk.own ((ints T).set (0 + Int.toNat ((e : Nat) : Int) * 1) (.int .i64 (s : Int))) = ABlk.own (ints (fewT L i (s + 1))); rw [iset, hsu], rfl, trivial⟩) (by omega) (by omega)
    · rw [decide_eq_false c0]
      obtain ⟨m, rfl⟩ : ∃ m : Nat, v = m := ⟨v.toNat, by omega⟩
      rw [Int.toNat_natCast] at hsu
      have hpm := Size_spec (x := m) (by omega)
      refine Wk.on ?_
      refine CallQ.ro2 [] (.c (.int .i64 (pop s : Nat))) (hps) ?_
      refine Wk.on ?_
      rw [iget, ← hv]
      refine Wk.on ?_
      refine CallA.ro2 [] (.c (.int .i64 (pop m : Nat))) (hpm) ?_
      refine Wk.on ?_
      generalize pop s = ps at *
      generalize pop m = pm at *
      by_cases c1 : ps < pm
      · rw [decide_eq_true (show ((ps : Nat) : Int) < ((pm : Nat) : Int) by omega)]
        rw [if_pos (.inr c1)] at hsu
        refine Wk.on ?_
        refine Again.mk (s + 1) (Sub.nil ⟨rfl, rfl, (by simp [tab64_LL, pC, castL, prs, tmV, tmH, tmK]), rfl, (by simp [tupA, hpLt, tmLt, AV.lt, AE.lt, AC.lt, LL_cons, LL_nil, idOk, ABlk.lt, ints_LL, GB, tab64_LL, pC, castL, prs, tmV, tmH, tmK]), (by simp [tupA, hpLt, tmLt, AV.lt, AE.lt, AC.lt, LL_cons, LL_nil, idOk, ABlk.lt, ints_LL, GB, tab64_LL, pC, castL, prs, tmV, tmH, tmK])⟩ (by (repeat (first | exact trivial | refine ⟨trivial, ?_⟩ | refine ⟨rfl, ?_⟩))) ⟨by show ABlk.own ((ints T).set (0 + Int.toNat ((e : Nat) : Int) * 1) (.int .i64 (s : Int))) = ABlk.own (ints (fewT L i (s + 1))); rw [iset, hsu], rfl, trivial⟩) (by omega) (by omega)
      · rw [decide_eq_false (show ¬ ((ps : Nat) : Int) < ((pm : Nat) : Int) by omega)]
        rw [if_neg (by omega)] at hsu
        refine Wk.on ?_
        refine Again.mk (s + 1) (Sub.nil ⟨rfl, rfl, (by simp [tab64_LL, pC, castL, prs, tmV, tmH, tmK]), rfl, (by simp [tupA, hpLt, tmLt, AV.lt, AE.lt, AC.lt, LL_cons, LL_nil, idOk, ABlk.lt, ints_LL, GB, tab64_LL, pC, castL, prs, tmV, tmH, tmK]), (by simp [tupA, hpLt, tmLt, AV.lt, AE.lt, AC.lt, LL_cons, LL_nil, idOk, ABlk.lt, ints_LL, GB, tab64_LL, pC, castL, prs, tmV, tmH, tmK])⟩ (by (repeat (first | exact trivial | refine ⟨trivial, ?_⟩ | refine ⟨rfl, ?_⟩))) ⟨by show ABlk.own (ints T) = ABlk.own (ints (fewT L i (s + 1))); rw [hsu], rfl, trivial⟩) (by omega) (by omega)
  obtain rfl : s = i := by omega
  generalize fewT L s s = T at *
  refine Wk.on ?_
  rw [hsh, decide_eq_false (show ¬ ((s : Nat) : Int) < ((s : Nat) : Int) by omega)]
  refine Wk.on ?_
  exact AH.Fin.new [1] _ _ ⟨rfl, rfl, rfl⟩ rfl ⟨by show some (ABlk.own _) = some (ABlk.own ((ints _).map _)); rw [ints_ren], trivial⟩ rfl (by simp [tupA, hpLt, tmLt, AV.lt, AE.lt, AC.lt, LL_cons, LL_nil, idOk, ABlk.lt, ints_LL, GB, tab64_LL, pC, castL, prs, tmV, tmH, tmK]) (by simp [tupA, hpLt, tmLt, AV.lt, AE.lt, AC.lt, LL_cons, LL_nil, idOk, ABlk.lt, ints_LL, GB, tab64_LL, pC, castL, prs, tmV, tmH, tmK])
end Go.Proofs.YtimknijehaamlaaDoor
