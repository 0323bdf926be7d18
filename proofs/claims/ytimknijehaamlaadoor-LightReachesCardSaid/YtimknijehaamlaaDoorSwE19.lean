/-
  Contract: LightReaches.
-/
import Derived.Test.YtimknijehaamlaaDoorSwE18
set_option linter.unusedSimpArgs false
set_option linter.unusedVariables false
namespace Go.Proofs.YtimknijehaamlaaDoor
open Go Go.AH Go.Lin
set_option maxRecDepth 100000
set_option maxHeartbeats 1000000

theorem near_eff_lt {n : Nat} {ws : List (Nat × Nat)} (h : Gr n ws) (own : Bool) (x : Nat) : eff (nearL n ws own) x < 2 ^ n := effX_lt (nearL_lt h own) x _ 0 (Nat.two_pow_pos n)
theorem reach_plain {n : Nat} {ws : List (Nat × Nat)} (h : Gr n ws) (own : Bool) : cntT (fewT (nearL n ws own) (2 ^ n) (2 ^ n)) (2 ^ n) = 2 ^ (bsR n (openR n ws own)).length := by
  have hS := openR_Sym h own
  have hI := inv_all (openR n ws own) n hS.len
  have hb : ∀ x ∈ (reducedP (openR n ws own) n).1.map Prod.snd, x < 2 ^ n := fun x hx => by
    obtain ⟨b, hb, rfl⟩ := List.mem_map.1 hx
    rw [← (hI.b b hb).1]
    exact hS.eff_lt _
  have hc := span_count hI.ech hb (fun t => decide (0 ≤ (fewT (nearL n ws own) (2 ^ n) (2 ^ n)).getD t 0)) fun t ht => by
    rw [decide_eq_true_eq, ← red_zero hI.ech, hI.reach]
    have hat := fewT_at (near_eff_lt h own) (2 ^ n) t ht
    generalize (fewT (nearL n ws own) (2 ^ n) (2 ^ n)).getD t 0 = v at *
    rcases hat with ⟨h1, h2⟩ | ⟨m, h1, h2⟩
    · constructor
      · intro h3; omega
      · rintro ⟨s, s1, s2⟩
        exact absurd ((eff_near h own s1).trans s2) (h2 s s1)
    · constructor
      · intro _
        exact ⟨m, h2.is.1, (eff_near h own h2.is.1).symm.trans h2.is.2⟩
      · intro _; omega
  rw [List.length_map] at hc
  exact hc
theorem hard_plain {n : Nat} {ws : List (Nat × Nat)} (h : Gr n ws) (own : Bool) {x v : Nat} (hx : x = amax (gT (fewT (nearL n ws own) (2 ^ n) (2 ^ n))) (2 ^ n)) (hv : v = gT (fewT (nearL n ws own) (2 ^ n) (2 ^ n)) x) :
    x < 65536 ∧ mxL ((hdT (openR n ws own) 65536 (2 ^ n)).set 0 0) 65536 = v ∧ ((hdT (openR n ws own) 65536 (2 ^ n)).set 0 0).getD x 0 = v ∧ ∀ j, j < x → ((hdT (openR n ws own) 65536 (2 ^ n)).set 0 0).getD j 0 ≠ v := by
  have hp := (openR_lm h own).pow
  have hF := hard_at (R := openR n ws own) (L := nearL n ws own) (m := 65536) (fun x => (openR_lm h own).eff x) (near_eff_lt h own) (fun x hx => eff_near h own hx) hp hp (Nat.two_pow_pos n)
  obtain ⟨l1, l2, l3, l4⟩ := hard_law hF (Nat.two_pow_pos n) hp
  rw [← hx] at l1 l2 l3 l4
  rw [← hv] at l1
  rw [l1] at l3 l4
  exact ⟨by omega, l1, l3, l4⟩
theorem reaches_r (n : Int) (ws : List (Int × Int)) (h4 : ws.length ≤ 9223372036854775807) (hP : tameP n ws 11 ≠ []) : FDet Tryd.prog 15 [.c (.int .i64 n), .c (.rs 0 0 ws.length)] [(0, .ro (ints (flI ws))), (100001, .ro tab64)] 1 (.c (.bool true)) [] 1 := by
  have hG := tame_gr n ws (most := 11) (by decide) (by decide)
  have hN11 : tameN n 11 ≤ 11 := by unfold tameN; have := um_lt n (n := 11) (by decide); omega
  have hPl : (tameP n ws 11).length ≤ 1000 := by have := tameP_len n ws 11; omega
  have ht := tame_rs n ws (most := 11) (by decide) (by decide) h4 hP
  have hn16 := hG.n16
  have hn1 := hG.n1
  skip
  generalize tameP n ws 11 = P at *
  generalize tameN n 11 = N at *
  have hp16 : 2 ^ N ≤ 65536 := (Nat.pow_le_pow_right (by omega) hn16 : 2 ^ N ≤ 2 ^ 16)
  obtain ⟨Q, hQ⟩ : ∃ q, q = 2 ^ N := ⟨_, rfl⟩
  have hQ0 : 0 < Q := by rw [hQ]; exact Nat.two_pow_pos N
  refine FSpec.body2 tok true Tryd.func15 ?_
  refine Wk.on ?_
  refine CallA.det2 [0] (.t [.c (.int .i64 N), .c (.rs 1 0 P.length)]) ([(0, .ro (ints (flI ws))), (100001, .ro tab64), (1, .row 38 2 (ints (prs P)))]) (ht) ?_
  refine Wk.on ?_
  refine Tr.loop (md := true) (X := Nat) (st := fun k => ⟨[(0, .c (.int .i64 N)), (5, .c (.rs 1 0 P.length)), (6, .c (.int .i64 k))], [(1, .row 38 2 (ints (prs P))), (100001, .ro tab64)], 2, 76, 1⟩) (inv := fun k => k ≤ 2) (μ := fun k => 2 - k) (x0 := 0) (l := []) tok (by omega) ?_ ?_
  · exact Sub.nil ⟨rfl, rfl, (by simp [tab64_LL, pC, castL, prs, tmV, tmH, tmK]), rfl, (by simp [tupA, hpLt, tmLt, AV.lt, AE.lt, AC.lt, LL_cons, LL_nil, idOk, ABlk.lt, ints_LL, GB, tab64_LL, pC, castL, prs, tmV, tmH, tmK]), (by simp [tupA, hpLt, tmLt, AV.lt, AE.lt, AC.lt, LL_cons, LL_nil, idOk, ABlk.lt, ints_LL, GB, tab64_LL, pC, castL, prs, tmV, tmH, tmK])⟩ (by (repeat (first | exact trivial | refine ⟨trivial, ?_⟩ | refine ⟨rfl, ?_⟩))) (by (repeat (first | exact trivial | refine ⟨trivial, ?_⟩ | refine ⟨rfl, ?_⟩)))
  intro k hk
  by_cases hk2 : k < 2
  · obtain ⟨w, hw⟩ : ∃ w : Bool, w = decide (((k : Nat) : Int) = 0) := ⟨_, rfl⟩
    have nr := Near_spec hG w hPl
    have tb := refFewest_spec (nearL_lt hG w) (by omega) (nearL_len _ _ _)
    have e0 := Reachable_spec hG w hPl
    rw [← reach_plain hG w] at e0
    obtain ⟨x, hx⟩ : ∃ x, x = amax (gT (fewT (nearL N P w) (2 ^ N) (2 ^ N))) (2 ^ N) := ⟨_, rfl⟩
    obtain ⟨v, hv⟩ : ∃ v, v = gT (fewT (nearL N P w) (2 ^ N) (2 ^ N)) x := ⟨_, rfl⟩
    obtain ⟨p1, p2, p3, p4⟩ := hard_plain hG w hx hv
    have hd := Hardest_spec hG w hPl p1 p2 p3 p4
    have hTl := fewT_len (nearL N P w) (2 ^ N) (2 ^ N)
    have hat := fewT_at (near_eff_lt hG w) (2 ^ N)
    have hz := (few_zero (hat 0 (Nat.two_pow_pos N)) (Nat.two_pow_pos N)).1
    have hT : ∀ t, t < 2 ^ N → -1 ≤ (fewT (nearL N P w) (2 ^ N) (2 ^ N)).getD t 0 ∧ ((fewT (nearL N P w) (2 ^ N) (2 ^ N)).getD t 0).toNat < 65536 := fun t ht => by
      have h1 := (hat t ht).range
      have h2 : 2 ^ N ≤ 2048 := (Nat.pow_le_pow_right (by omega) hN11 : 2 ^ N ≤ 2 ^ 11)
      exact ⟨h1.1, by omega⟩
    have rh := refHard_spec hTl hp16 (Nat.two_pow_pos N) hT hz
    have rr := refReach_spec hTl hp16
    rw [← hx, ← hv] at rh
    have rh2 := FDet.wk rh (args' := [.c (.sl 0 0 (2 ^ N) (some (2 ^ N)))]) (hp' := [(0, .ro (ints (fewT (nearL N P w) (2 ^ N) (2 ^ N))))]) ⟨⟨rfl, rfl, rfl⟩, trivial⟩ ⟨.inl rfl, trivial⟩
    have rr2 := FDet.wk rr (args' := [.c (.sl 0 0 (2 ^ N) (some (2 ^ N)))]) (hp' := [(0, .ro (ints (fewT (nearL N P w) (2 ^ N) (2 ^ N))))]) ⟨⟨rfl, rfl, rfl⟩, trivial⟩ ⟨.inl rfl, trivial⟩
    rw [← hQ] at tb rh2 rr2 e0
    clear hx hv p2 p3 p4 hat hz hT rh rr hTl
    generalize fewT (nearL N P w) Q Q = T at *
    generalize nearL N P w = L at *
    generalize cntT T Q = M at *
    refine Wk.on ?_
    rw [decide_eq_true (show ((k : Nat) : Int) < 2 by omega)]
    refine Wk.on ?_
    rw [← hw]
    refine CallA.det2 [1] (.c (.sl 2 0 N (some N))) ([(1, .row 38 2 (ints (prs P))), (100001, .ro tab64), (2, .own (ints (castL L)))]) (nr) ?_
    refine Wk.on ?_
    refine CallA.det2 [2] (.c (.sl 3 0 Q (some Q))) ([(1, .row 38 2 (ints (prs P))), (100001, .ro tab64), (2, .own (ints (castL L))), (3, .own (ints T))]) (tb) ?_
    refine Wk.on ?_
    rw [← hw]
    refine CallA.ro2 [1] (.t [.c (.int .i64 M), .c (.int .i64 0)]) (e0) ?_
    refine Wk.on ?_
    rw [← hw]
    refine CallA.ro2 [1] (.t [.c (.int .i64 x), .c (.int .i64 v), .c (.int .i64 0)]) (hd) ?_
    refine Wk.on ?_
    refine CallA.ro2 [3] (.t [.c (.int .i64 x), .c (.int .i64 v)]) (rh2) ?_
    refine Wk.on ?_
    refine CallA.ro2 [3] (.c (.int .i64 M)) (rr2) ?_
    refine Wk.on ?_
    rw [decide_eq_false (show ¬ ((M : Nat) : Int) ≠ ((M : Nat) : Int) by omega)]
    refine Wk.on ?_
    rw [decide_eq_false (show ¬ ((x : Nat) : Int) ≠ ((x : Nat) : Int) by omega)]
    refine Wk.on ?_
    rw [decide_eq_false (show ¬ ((v : Nat) : Int) ≠ ((v : Nat) : Int) by omega)]
    refine Wk.on ?_
    intro _
    refine Wk.on ?_
    refine Again.mk (k + 1) (Sub.nil ⟨rfl, rfl, (by simp [tab64_LL, pC, castL, prs, tmV, tmH, tmK]), rfl, (by simp [tupA, hpLt, tmLt, AV.lt, AE.lt, AC.lt, LL_cons, LL_nil, idOk, ABlk.lt, ints_LL, GB, tab64_LL, pC, castL, prs, tmV, tmH, tmK]), (by simp [tupA, hpLt, tmLt, AV.lt, AE.lt, AC.lt, LL_cons, LL_nil, idOk, ABlk.lt, ints_LL, GB, tab64_LL, pC, castL, prs, tmV, tmH, tmK])⟩ (by (repeat (first | exact trivial | refine ⟨trivial, ?_⟩ | refine ⟨rfl, ?_⟩))) (by (repeat (first | exact trivial | refine ⟨trivial, ?_⟩ | refine ⟨rfl, ?_⟩)))) (by omega) (by omega)
  · obtain rfl : k = 2 := by omega
    refine Wk.on ?_
    refine CallA.ro2 [] (.c (.bool true)) (awake_spec) ?_
    refine Wk.on ?_
    exact AH.Fin.nil2 ⟨rfl, rfl, rfl⟩
theorem reaches_n (n : Int) (ws : List (Int × Int)) (h4 : ws.length ≤ 9223372036854775807) (hP : tameP n ws 11 = []) : FDet Tryd.prog 15 [.c (.int .i64 n), .c (.rs 0 0 ws.length)] [(0, .ro (ints (flI ws))), (100001, .ro tab64)] 1 (.c (.bool true)) [] 1 := by
  have hG := tame_gr n ws (most := 11) (by decide) (by decide)
  have hN11 : tameN n 11 ≤ 11 := by unfold tameN; have := um_lt n (n := 11) (by decide); omega
  have hPl : (tameP n ws 11).length ≤ 1000 := by have := tameP_len n ws 11; omega
  have ht := tame_ns n ws (most := 11) (by decide) (by decide) h4 hP
  have hn16 := hG.n16
  have hn1 := hG.n1
  rw [hP] at ht hG hPl
  skip
  generalize tameN n 11 = N at *
  have hp16 : 2 ^ N ≤ 65536 := (Nat.pow_le_pow_right (by omega) hn16 : 2 ^ N ≤ 2 ^ 16)
  obtain ⟨Q, hQ⟩ : ∃ q, q = 2 ^ N := ⟨_, rfl⟩
  have hQ0 : 0 < Q := by rw [hQ]; exact Nat.two_pow_pos N
  refine FSpec.body2 tok true Tryd.func15 ?_
  refine Wk.on ?_
  refine CallA.det2 [0] (.t [.c (.int .i64 N), .c (.rs 0 0 0)]) ([(0, .ro (ints (flI ws))), (100001, .ro tab64)]) (ht) ?_
  refine Wk.on ?_
  refine Tr.loop (md := true) (X := Nat) (st := fun k => ⟨[(0, .c (.int .i64 N)), (5, .c (.rs 0 0 0)), (6, .c (.int .i64 k))], [(0, .ro (ints (flI ws))), (100001, .ro tab64)], 1, 76, 1⟩) (inv := fun k => k ≤ 2) (μ := fun k => 2 - k) (x0 := 0) (l := []) tok (by omega) ?_ ?_
  · exact Sub.nil ⟨rfl, rfl, (by simp [tab64_LL, pC, castL, prs, tmV, tmH, tmK]), rfl, (by simp [tupA, hpLt, tmLt, AV.lt, AE.lt, AC.lt, LL_cons, LL_nil, idOk, ABlk.lt, ints_LL, GB, tab64_LL, pC, castL, prs, tmV, tmH, tmK]), (by simp [tupA, hpLt, tmLt, AV.lt, AE.lt, AC.lt, LL_cons, LL_nil, idOk, ABlk.lt, ints_LL, GB, tab64_LL, pC, castL, prs, tmV, tmH, tmK])⟩ (by (repeat (first | exact trivial | refine ⟨trivial, ?_⟩ | refine ⟨rfl, ?_⟩))) (by (repeat (first | exact trivial | refine ⟨trivial, ?_⟩ | refine ⟨rfl, ?_⟩)))
  intro k hk
  by_cases hk2 : k < 2
  · obtain ⟨w, hw⟩ : ∃ w : Bool, w = decide (((k : Nat) : Int) = 0) := ⟨_, rfl⟩
    have nr := Near_spec hG w hPl
    have tb := refFewest_spec (nearL_lt hG w) (by omega) (nearL_len _ _ _)
    have e0 := Reachable_spec hG w hPl
    rw [← reach_plain hG w] at e0
    obtain ⟨x, hx⟩ : ∃ x, x = amax (gT (fewT (nearL N [] w) (2 ^ N) (2 ^ N))) (2 ^ N) := ⟨_, rfl⟩
    obtain ⟨v, hv⟩ : ∃ v, v = gT (fewT (nearL N [] w) (2 ^ N) (2 ^ N)) x := ⟨_, rfl⟩
    obtain ⟨p1, p2, p3, p4⟩ := hard_plain hG w hx hv
    have hd := Hardest_spec hG w hPl p1 p2 p3 p4
    have hTl := fewT_len (nearL N [] w) (2 ^ N) (2 ^ N)
    have hat := fewT_at (near_eff_lt hG w) (2 ^ N)
    have hz := (few_zero (hat 0 (Nat.two_pow_pos N)) (Nat.two_pow_pos N)).1
    have hT : ∀ t, t < 2 ^ N → -1 ≤ (fewT (nearL N [] w) (2 ^ N) (2 ^ N)).getD t 0 ∧ ((fewT (nearL N [] w) (2 ^ N) (2 ^ N)).getD t 0).toNat < 65536 := fun t ht => by
      have h1 := (hat t ht).range
      have h2 : 2 ^ N ≤ 2048 := (Nat.pow_le_pow_right (by omega) hN11 : 2 ^ N ≤ 2 ^ 11)
      exact ⟨h1.1, by omega⟩
    have rh := refHard_spec hTl hp16 (Nat.two_pow_pos N) hT hz
    have rr := refReach_spec hTl hp16
    rw [← hx, ← hv] at rh
    have rh2 := FDet.wk rh (args' := [.c (.sl 0 0 (2 ^ N) (some (2 ^ N)))]) (hp' := [(0, .ro (ints (fewT (nearL N [] w) (2 ^ N) (2 ^ N))))]) ⟨⟨rfl, rfl, rfl⟩, trivial⟩ ⟨.inl rfl, trivial⟩
    have rr2 := FDet.wk rr (args' := [.c (.sl 0 0 (2 ^ N) (some (2 ^ N)))]) (hp' := [(0, .ro (ints (fewT (nearL N [] w) (2 ^ N) (2 ^ N))))]) ⟨⟨rfl, rfl, rfl⟩, trivial⟩ ⟨.inl rfl, trivial⟩
    rw [← hQ] at tb rh2 rr2 e0
    clear hx hv p2 p3 p4 hat hz hT rh rr hTl
    generalize fewT (nearL N [] w) Q Q = T at *
    generalize nearL N [] w = L at *
    generalize cntT T Q = M at *
    refine Wk.on ?_
    rw [decide_eq_true (show ((k : Nat) : Int) < 2 by omega)]
    refine Wk.on ?_
    rw [← hw]
    refine CallA.det2 [0] (.c (.sl 1 0 N (some N))) ([(0, .ro (ints (flI ws))), (100001, .ro tab64), (1, .own (ints (castL L)))]) (nr) ?_
    refine Wk.on ?_
    refine CallA.det2 [1] (.c (.sl 2 0 Q (some Q))) ([(0, .ro (ints (flI ws))), (100001, .ro tab64), (1, .own (ints (castL L))), (2, .own (ints T))]) (tb) ?_
    refine Wk.on ?_
    rw [← hw]
    refine CallA.ro2 [0] (.t [.c (.int .i64 M), .c (.int .i64 0)]) (e0) ?_
    refine Wk.on ?_
    rw [← hw]
    refine CallA.ro2 [0] (.t [.c (.int .i64 x), .c (.int .i64 v), .c (.int .i64 0)]) (hd) ?_
    refine Wk.on ?_
    refine CallA.ro2 [2] (.t [.c (.int .i64 x), .c (.int .i64 v)]) (rh2) ?_
    refine Wk.on ?_
    refine CallA.ro2 [2] (.c (.int .i64 M)) (rr2) ?_
    refine Wk.on ?_
    rw [decide_eq_false (show ¬ ((M : Nat) : Int) ≠ ((M : Nat) : Int) by omega)]
    refine Wk.on ?_
    rw [decide_eq_false (show ¬ ((x : Nat) : Int) ≠ ((x : Nat) : Int) by omega)]
    refine Wk.on ?_
    rw [decide_eq_false (show ¬ ((v : Nat) : Int) ≠ ((v : Nat) : Int) by omega)]
    refine Wk.on ?_
    intro _
    refine Wk.on ?_
    refine Again.mk (k + 1) (Sub.nil ⟨rfl, rfl, (by simp [tab64_LL, pC, castL, prs, tmV, tmH, tmK]), rfl, (by simp [tupA, hpLt, tmLt, AV.lt, AE.lt, AC.lt, LL_cons, LL_nil, idOk, ABlk.lt, ints_LL, GB, tab64_LL, pC, castL, prs, tmV, tmH, tmK]), (by simp [tupA, hpLt, tmLt, AV.lt, AE.lt, AC.lt, LL_cons, LL_nil, idOk, ABlk.lt, ints_LL, GB, tab64_LL, pC, castL, prs, tmV, tmH, tmK])⟩ (by (repeat (first | exact trivial | refine ⟨trivial, ?_⟩ | refine ⟨rfl, ?_⟩))) (by (repeat (first | exact trivial | refine ⟨trivial, ?_⟩ | refine ⟨rfl, ?_⟩)))) (by omega) (by omega)
  · obtain rfl : k = 2 := by omega
    refine Wk.on ?_
    refine CallA.ro2 [] (.c (.bool true)) (awake_spec) ?_
    refine Wk.on ?_
    exact AH.Fin.nil2 ⟨rfl, rfl, rfl⟩
end Go.Proofs.YtimknijehaamlaaDoor
