/-
  Contract: LightOwn.
-/
import Derived.Test.YtimknijehaamlaaDoorSwE15
import Derived.Test.YtimknijehaamlaaDoorSwE11
import Derived.Test.YtimknijehaamlaaDoorSwE10
set_option linter.unusedSimpArgs false
set_option linter.unusedVariables false
namespace Go.Proofs.YtimknijehaamlaaDoor
open Go Go.AH Go.Lin
set_option maxRecDepth 100000
set_option maxHeartbeats 1000000

/-- The quiet basis. -/
def qbN (n : Nat) (rows : List Nat) : List Nat := (tidyD (qsR n rows)).reverse
theorem quiet_rs {n : Nat} {ws : List (Nat × Nat)} (h : Gr n ws) (hn12 : n ≤ 12) (own : Bool) (hw : ws.length ≤ 1000) (hT : qbN n (openR n ws own) ≠ []) : FDet Tryd.prog 18 [.c (.int .i64 n), .c (.rs 0 0 ws.length), .c (.bool own)] [(0, .ro (ints (prs ws)))] 1 (.t [.c (.rs 1 0 (qbN n (openR n ws own)).length), .c (.int .i64 0)]) [(1, .row 3 1 (ints (castL (qbN n (openR n ws own)))))] 2 := by
  have := Quiet_spec h hn12 own hw
  rw [qbN] at hT ⊢
  generalize (tidyD (qsR n (openR n ws own))).reverse = T at *
  cases T with
  | nil => exact absurd rfl hT
  | cons b L => exact FDet.post this _ _ ⟨⟨⟨rfl, rfl, rfl⟩, trivial⟩, rfl, trivial⟩ ⟨⟨⟨rfl, rfl⟩, .inl rfl⟩, trivial⟩ (by simp [tupA, hpLt, tmLt, AV.lt, AE.lt, AC.lt, LL_cons, LL_nil, idOk, ABlk.lt, ints_LL, GB, tab64_LL, pC, castL, prs, tmV, tmH, tmK, qV, tH, tK, tV]) (by simp [tupA, hpLt, tmLt, AV.lt, AE.lt, AC.lt, LL_cons, LL_nil, idOk, ABlk.lt, ints_LL, GB, tab64_LL, pC, castL, prs, tmV, tmH, tmK, qV, tH, tK, tV]) rfl
theorem quiet_ns {n : Nat} {ws : List (Nat × Nat)} (h : Gr n ws) (hn12 : n ≤ 12) (own : Bool) (hw : ws.length ≤ 1000) (hT : qbN n (openR n ws own) = []) : FDet Tryd.prog 18 [.c (.int .i64 n), .c (.rs 0 0 ws.length), .c (.bool own)] [(0, .ro (ints (prs ws)))] 1 (.t [.c .nils, .c (.int .i64 0)]) [] 1 := by
  have := Quiet_spec h hn12 own hw
  rw [qbN] at hT
  rw [hT] at this
  exact this
theorem own_rs (L : List (Nat × Nat)) (h0 : 0 < L.length) (h1 : L.length ≤ 130) : FDet Tryd.prog 37 [.c (.rs 0 0 L.length)] [(0, .ro (ints (prs L)))] 1 (.c (.rs 1 0 L.length)) [(1, .row 38 2 (ints (prs L)))] 2 := by
  have hl : (ints (prs L)).length = L.length * 2 := by rw [ints_len, prs_len]
  have key : FDet Tryd.prog 37 [.c (.rs 0 0 L.length)] [(0, .ro (ints (prs L)))] 1 (.c (.row 1 L.length)) [(1, .row 38 2 (ints (prs L)))] 2 := by
    have hmn : min ((L.length : Nat) : Int) 130 = ((L.length : Nat) : Int) := by omega
    refine FSpec.body2 tok true Tryd.func37 ?_
    refine Wk.on ?_
    rw [hmn]
    refine ⟨⟨Int.le_refl 0, by show (0 : Int) ≤ (L.length : Int); omega, .inl (by show (L.length : Int) ≤ L.length; omega)⟩, ?_⟩
    refine Wk.on ?_
    refine ⟨by rw [hl]; show 0 + 0 * 2 + (Int.toNat (L.length : Int) - 0) * 2 ≤ _; omega, ?_⟩
    rw [show (Int.toNat ((some ((L.length : Nat) : Int)).getD ((L.length : Nat) : Int)) - Int.toNat ((none : Option Int).getD 0)) = L.length by show Int.toNat (L.length : Int) - 0 = _; omega]
    refine Wk.on ?_
    refine ⟨⟨Nat.le_of_ble_eq_true rfl, by show (L.length : Int) * 16 ≤ _; omega, by omega⟩, ?_⟩
    refine ⟨fun h => absurd h (by omega), fun _ => ?_⟩
    refine Wk.on ?_
    exact AH.Fin.new [1] _ _ ⟨rfl, rfl, rfl⟩ rfl ⟨by show some (ABlk.row 38 2 (((ints (prs L)).drop (0 + 0 * 2)).take (L.length * 2))) = some (ABlk.row 38 2 ((ints _).map _)); rw [ints_ren, Nat.zero_mul, Nat.add_zero, List.drop_zero, List.take_of_length_le (by omega)], trivial⟩ rfl (by simp [tupA, hpLt, tmLt, AV.lt, AE.lt, AC.lt, LL_cons, LL_nil, idOk, ABlk.lt, ints_LL, GB, tab64_LL, pC, castL, prs, tmV, tmH, tmK, qV, tH, tK, tV]) (by simp [tupA, hpLt, tmLt, AV.lt, AE.lt, AC.lt, LL_cons, LL_nil, idOk, ABlk.lt, ints_LL, GB, tab64_LL, pC, castL, prs, tmV, tmH, tmK, qV, tH, tK, tV])
  exact FDet.post key _ _ ⟨⟨rfl, rfl, rfl⟩, trivial⟩ ⟨⟨⟨rfl, rfl⟩, .inl rfl⟩, trivial⟩ (by simp [tupA, hpLt, tmLt, AV.lt, AE.lt, AC.lt, LL_cons, LL_nil, idOk, ABlk.lt, ints_LL, GB, tab64_LL, pC, castL, prs, tmV, tmH, tmK, qV, tH, tK, tV]) (by simp [tupA, hpLt, tmLt, AV.lt, AE.lt, AC.lt, LL_cons, LL_nil, idOk, ABlk.lt, ints_LL, GB, tab64_LL, pC, castL, prs, tmV, tmH, tmK, qV, tH, tK, tV]) rfl
theorem own_ns : FDet Tryd.prog 37 [.c (.rs 0 0 0)] [(0, .ro [])] 1 (.c (.rs 0 0 0)) [] 1 := by
  have key : FDet Tryd.prog 37 [.c (.rs 0 0 0)] [(0, .ro [])] 1 (.c .nils) [] 1 := by
    refine FSpec.body2 tok true Tryd.func37 ?_
    refine Wk.on ?_
    exact AH.Fin.nil2 ⟨rfl, rfl, rfl⟩
  exact FDet.post key _ _ rfl trivial (by simp [tupA, hpLt, tmLt, AV.lt, AE.lt, AC.lt, LL_cons, LL_nil, idOk, ABlk.lt, ints_LL, GB, tab64_LL, pC, castL, prs, tmV, tmH, tmK, qV, tH, tK, tV]) (by simp [tupA, hpLt, tmLt, AV.lt, AE.lt, AC.lt, LL_cons, LL_nil, idOk, ABlk.lt, ints_LL, GB, tab64_LL, pC, castL, prs, tmV, tmH, tmK, qV, tH, tK, tV]) rfl
theorem p7 : exQ (pathC 7 false) (pathC 7 false).2 = [0, 4, 6] := by decide +kernel
theorem p7n : exN (pc 6) 9 = [0, 4, 6] := by rw [← exQ_exN (k := 7) (m := 9) (by omega) (by omega)]; exact p7
theorem poly7 : FDet Tryd.prog 28 [.c (.int .i64 7)] [(100001, .ro tab64)] 0 (.t [.c (.rs 0 0 3), .c (.int .i64 0)]) [(0, .row 3 1 (ints (castL [0, 4, 6])))] 1 := by
  have pp := Polynomial_spec (n := 7) (by omega) (by omega)
  rw [p7] at pp
  exact FDet.post (show FDet Tryd.prog 28 [.c (.int .i64 7)] [(100001, .ro tab64)] 0 (.t [.c (.row 0 3), .c (.int .i64 0)]) [(0, .row 3 1 (ints (castL [0, 4, 6])))] 1 from pp) _ _ ⟨⟨⟨rfl, rfl, rfl⟩, trivial⟩, rfl, trivial⟩ ⟨⟨⟨rfl, rfl⟩, .inl rfl⟩, trivial⟩ (by simp [tupA, hpLt, tmLt, AV.lt, AE.lt, AC.lt, LL_cons, LL_nil, idOk, ABlk.lt, ints_LL, GB, tab64_LL, pC, castL, prs, tmV, tmH, tmK, qV, tH, tK, tV]) (by simp [tupA, hpLt, tmLt, AV.lt, AE.lt, AC.lt, LL_cons, LL_nil, idOk, ABlk.lt, ints_LL, GB, tab64_LL, pC, castL, prs, tmV, tmH, tmK, qV, tH, tK, tV]) rfl
theorem pow7 : FDet Tryd.prog 29 [.c (.sl 0 0 9 (some 9))] [(0, .ro (ints (coL (pc 6) 9)))] 1 (.c (.rs 1 0 3)) [(1, .row 3 1 (ints (castL [0, 4, 6])))] 2 := by
  have pw := FDet.wk (Powers_spec (pc 6) (m := 9) (by omega)) (args' := [.c (.sl 0 0 9 (some 9))]) (hp' := [(0, .ro (ints (coL (pc 6) 9)))]) ⟨⟨rfl, rfl, rfl⟩, trivial⟩ ⟨.inl rfl, trivial⟩
  rw [p7n] at pw
  exact FDet.post (show FDet Tryd.prog 29 [.c (.sl 0 0 9 (some 9))] [(0, .ro (ints (coL (pc 6) 9)))] 1 (.c (.row 1 3)) [(1, .row 3 1 (ints (castL [0, 4, 6])))] 2 from pw) _ _ ⟨⟨rfl, rfl, rfl⟩, trivial⟩ ⟨⟨⟨rfl, rfl⟩, .inl rfl⟩, trivial⟩ (by simp [tupA, hpLt, tmLt, AV.lt, AE.lt, AC.lt, LL_cons, LL_nil, idOk, ABlk.lt, ints_LL, GB, tab64_LL, pC, castL, prs, tmV, tmH, tmK, qV, tH, tK, tV]) (by simp [tupA, hpLt, tmLt, AV.lt, AE.lt, AC.lt, LL_cons, LL_nil, idOk, ABlk.lt, ints_LL, GB, tab64_LL, pC, castL, prs, tmV, tmH, tmK, qV, tH, tK, tV]) rfl
theorem same7 : FDet Tryd.prog 19 [.c (.rs 0 0 3), .c (.rs 1 0 3)] [(0, .ro (ints (castL [0, 4, 6]))), (1, .ro (ints (castL [0, 4, 6])))] 2 (.c (.bool true)) [] 2 := ints_same (castL [0, 4, 6]) (by decide)
theorem rpoly7 : FDet Tryd.prog 30 [.c (.int .i64 7)] [] 0 (.c (.sl 0 0 9 (some 9))) [(0, .own (ints (coL (pc 6) 9)))] 1 := refPoly_spec (n := 7) (by omega)
/-- The reference's basis, as a slice to read. -/
theorem rq_rs {n : Nat} {L T : List Nat} (hL : ∀ j, L.getD j 0 < 2 ^ n) (hn : n ≤ 16) (hl : L.length = n) (hT : T = (rq L (2 ^ n)).1) (h0 : T ≠ []) : FDet Tryd.prog 20 [.c (.sl 0 0 n (some n))] [(0, .ro (ints (castL L)))] 1 (.c (.rs 1 0 T.length)) [(1, .row 3 1 (ints (castL T)))] 2 := by
  have := FDet.wk (refQuiet_spec hL hn hl) (args' := [.c (.sl 0 0 n (some n))]) (hp' := [(0, .ro (ints (castL L)))]) ⟨⟨rfl, rfl, rfl⟩, trivial⟩ ⟨.inl rfl, trivial⟩
  rw [← hT] at this
  cases T with
  | nil => exact absurd rfl h0
  | cons b T => exact FDet.post this _ _ ⟨⟨rfl, rfl, rfl⟩, trivial⟩ ⟨⟨⟨rfl, rfl⟩, .inl rfl⟩, trivial⟩ (by simp [tupA, hpLt, tmLt, AV.lt, AE.lt, AC.lt, LL_cons, LL_nil, idOk, ABlk.lt, ints_LL, GB, tab64_LL, pC, castL, prs, tmV, tmH, tmK, qV, tH, tK, tV]) (by simp [tupA, hpLt, tmLt, AV.lt, AE.lt, AC.lt, LL_cons, LL_nil, idOk, ABlk.lt, ints_LL, GB, tab64_LL, pC, castL, prs, tmV, tmH, tmK, qV, tH, tK, tV]) rfl
theorem rq_ns {n : Nat} {L T : List Nat} (hL : ∀ j, L.getD j 0 < 2 ^ n) (hn : n ≤ 16) (hl : L.length = n) (hT : T = (rq L (2 ^ n)).1) (h0 : T = []) : FDet Tryd.prog 20 [.c (.sl 0 0 n (some n))] [(0, .ro (ints (castL L)))] 1 (.c .nils) [] 1 := by
  have := FDet.wk (refQuiet_spec hL hn hl) (args' := [.c (.sl 0 0 n (some n))]) (hp' := [(0, .ro (ints (castL L)))]) ⟨⟨rfl, rfl, rfl⟩, trivial⟩ ⟨.inl rfl, trivial⟩
  rw [← hT, h0] at this
  exact this
theorem ints_nil : FDet Tryd.prog 19 [.c .nils, .c .nils] [(0, .ro (ints [])), (1, .ro (ints []))] 2 (.c (.bool true)) [] 2 :=
  FDet.wk (ints_same [] (by decide)) (args' := [.c .nils, .c .nils]) (hp' := [(0, .ro (ints [])), (1, .ro (ints []))]) ⟨rfl, rfl, trivial⟩ ⟨.inl rfl, .inl rfl, trivial⟩
theorem own_r (n : Int) (ws : List (Int × Int)) (o0 o1 : Int) (h4 : ws.length ≤ 9223372036854775807) (hP : tameP n ws 10 ≠ []) : FDet Tryd.prog 10 [.c (.int .i64 n), .c (.rs 0 0 ws.length), .g [.int .i64 o0, .int .i64 o1]] [(0, .ro (ints (flI ws))), (100001, .ro tab64)] 1 (.c (.bool true)) [] 1 := by
  have hG := tame_gr n ws (most := 10) (by decide) (by decide)
  have hN10 : tameN n 10 ≤ 10 := by unfold tameN; have := um_lt n (n := 10) (by decide); omega
  have hPl : (tameP n ws 10).length ≤ 100 := gr_len10 hG hN10
  have ht := tame_rs n ws (most := 10) (by decide) (by decide) h4 hP
  have hn16 := hG.n16
  have hn1 := hG.n1
  generalize tameP n ws 10 = P at *
  have hP0 : 0 < P.length := List.length_pos_iff.2 hP
  generalize tameN n 10 = N at *
  have ha := set_spec o0 hn16
  have hb := set_spec o1 hn16
  have ha2 := setN_lt o0 N
  have hb2 := setN_lt o1 N
  generalize setN o0 N = a at *
  generalize setN o1 N = b at *
  have ef := Effect_spec hG true (by omega) ha2
  have fw := Fewest_spec hG false (by omega) hb2
  have nr := Near_spec hG true (by omega)
  have hbas : qbN N (openR N P true) = (rq (nearL N P true) (2 ^ N)).1 := basis_near hG true
  have hTs : (qbN N (openR N P true)).length ≤ 1000000 := by
    rw [hbas]
    have := rq_len (nearL N P true) (2 ^ N)
    have := (Nat.pow_le_pow_right (by omega) hN10 : 2 ^ N ≤ 2 ^ 10)
    omega
  have rr := rq_rs (nearL_lt hG true) hn16 (nearL_len _ _ _) hbas
  have rn := rq_ns (nearL_lt hG true) hn16 (nearL_len _ _ _) hbas
  have qr := quiet_rs hG (by omega) true (by omega)
  have qn := quiet_ns hG (by omega) true (by omega)
  have ow := own_rs P hP0 (by omega)
  have hlen : (ints (prs P)).length = P.length * 2 := by rw [ints_len, prs_len]
  have hgt := prs_rdn P
  generalize qbN N (openR N P true) = T at *
  generalize fewN N (openR N P false) b = f1 at *
  generalize decide ((solP (bsR N (openR N P false)) b).2 = 0) = f2 at *
  generalize eff (openR N P true) a = e1 at *
  generalize nearL N P true = NL at *
  have hTl : (ints (castL T)).length = T.length := by rw [ints_len, castL_len]
  by_cases hT : T = []
  · have qc := qn hT
    have rc := rn hT
    clear qr qn rr rn
    subst hT
    refine FSpec.body2 tok true Tryd.func10 ?_
    refine Wk.on ?_
    refine CallA.det2 [0] (.t [.c (.int .i64 N), .c (.rs 2 0 P.length)]) ([(1, .own [.int .i64 o0, .int .i64 o1]), (0, .ro (ints (flI ws))), (100001, .ro tab64), (2, .row 38 2 (ints (prs P)))]) (ht) ?_
    refine Wk.on ?_
    refine CallA.det2 [2] (.c (.rs 3 0 P.length)) ([(1, .own [.int .i64 o0, .int .i64 o1]), (0, .ro (ints (flI ws))), (100001, .ro tab64), (2, .row 38 2 (ints (prs P))), (3, .row 38 2 (ints (prs P)))]) (ow) ?_
    refine Wk.on ?_
    refine CallA.ro2 [2] (.t [.c .nils, .c (.int .i64 0)]) (qc) ?_
    refine Wk.on ?_
    refine CallA.ro2 [] (.c (.int .i64 a)) (ha) ?_
    refine Wk.on ?_
    refine CallA.ro2 [2] (.t [.c (.int .i64 e1), .c (.int .i64 0)]) (ef) ?_
    refine Wk.on ?_
    refine CallA.ro2 [] (.c (.int .i64 b)) (hb) ?_
    refine Wk.on ?_
    refine CallA.ro2 [2] (.t [.c (.int .i64 f1), .c (.bool f2), .c (.int .i64 0)]) (fw) ?_
    refine Wk.on ?_
    refine CallA.det2 [] (.t [.c (.rs 4 0 3), .c (.int .i64 0)]) ([(1, .own [.int .i64 o0, .int .i64 o1]), (0, .ro (ints (flI ws))), (100001, .ro tab64), (2, .row 38 2 (ints (prs P))), (3, .row 38 2 (ints (prs P))), (4, .row 3 1 (ints (castL [0, 4, 6])))]) (poly7) ?_
    refine Wk.on ?_
    refine Tr.loop (md := true) (X := Unit) (st := fun _ => ⟨[(0, .c (.int .i64 N)), (7, .c (.rs 2 0 P.length)), (8, .c (.rs 3 0 P.length)), (9, .c (.nils)), (10, .c (.int .i64 0)), (12, .c (.int .i64 0)), (15, .c (.int .i64 0)), (16, .c (.rs 4 0 3)), (17, .c (.int .i64 0)), (18, .c (.int .i64 0))], [(2, .row 38 2 (ints (prs P))), (3, .row 38 2 (ints (prs P))), (100001, .ro tab64), (4, .row 3 1 (ints (castL [0, 4, 6])))], 5, 153, 1⟩) (inv := fun _ => True) (μ := fun _ => 0) (x0 := ()) (l := []) tok trivial ?_ ?_
    · exact Sub.nil ⟨rfl, rfl, (by simp [tab64_LL, pC, castL, prs, tmV, tmH, tmK, qV, tH, tK, tV]), rfl, (by simp [tupA, hpLt, tmLt, AV.lt, AE.lt, AC.lt, LL_cons, LL_nil, idOk, ABlk.lt, ints_LL, GB, tab64_LL, pC, castL, prs, tmV, tmH, tmK, qV, tH, tK, tV]), (by simp [tupA, hpLt, tmLt, AV.lt, AE.lt, AC.lt, LL_cons, LL_nil, idOk, ABlk.lt, ints_LL, GB, tab64_LL, pC, castL, prs, tmV, tmH, tmK, qV, tH, tK, tV])⟩ (by (repeat (first | exact trivial | refine ⟨trivial, ?_⟩ | refine ⟨rfl, ?_⟩))) (by (repeat (first | exact trivial | refine ⟨trivial, ?_⟩ | refine ⟨rfl, ?_⟩)))
    intro _ _
    refine Wk.on ?_
    refine Tr.loop (md := true) (X := Nat) (st := fun k => ⟨[(0, .c (.int .i64 N)), (7, .c (.rs 2 0 P.length)), (8, .c (.rs 3 0 P.length)), (10, .c (.int .i64 0)), (12, .c (.int .i64 0)), (15, .c (.int .i64 0)), (16, .c (.rs 4 0 3)), (17, .c (.int .i64 0)), (19, .c (.int .i64 k))], [(4, .row 3 1 (ints (mutL (castL [0, 4, 6]) k))), (2, .row 38 2 (ints (prs P))), (3, .row 38 2 (ints (prs P))), (100001, .ro tab64)], 5, 153, 1⟩) (inv := fun k => k ≤ 3) (μ := fun k => 3 - k) (x0 := 0) (l := []) tok (by omega) ?_ ?_
    · exact Sub.nil ⟨rfl, rfl, (by simp [tab64_LL, pC, castL, prs, tmV, tmH, tmK, qV, tH, tK, tV]), rfl, (by simp [tupA, hpLt, tmLt, AV.lt, AE.lt, AC.lt, LL_cons, LL_nil, idOk, ABlk.lt, ints_LL, GB, tab64_LL, pC, castL, prs, tmV, tmH, tmK, qV, tH, tK, tV]), (by simp [tupA, hpLt, tmLt, AV.lt, AE.lt, AC.lt, LL_cons, LL_nil, idOk, ABlk.lt, ints_LL, GB, tab64_LL, pC, castL, prs, tmV, tmH, tmK, qV, tH, tK, tV])⟩ (by (repeat (first | exact trivial | refine ⟨trivial, ?_⟩ | refine ⟨rfl, ?_⟩))) ⟨by show ABlk.row 3 1 (ints (castL [0, 4, 6])) = _; rw [mutL_zero], rfl, rfl, rfl, trivial⟩
    intro k hk
    have hml : (ints (mutL (castL [0, 4, 6]) k)).length = 3 := by rw [ints_len, mutL_len]; rfl
    by_cases hkl : k < 3
    · have hms := mutL_succ (castL [0, 4, 6]) k
      refine Wk.on ?_
      rw [decide_eq_true (show ((k : Nat) : Int) < ((3 : Nat) : Int) by omega)]
      refine Wk.on ?_
      refine Again.mk (k + 1) (Sub.nil ⟨rfl, rfl, (by simp [tab64_LL, pC, castL, prs, tmV, tmH, tmK, qV, tH, tK, tV]), rfl, (by simp [tupA, hpLt, tmLt, AV.lt, AE.lt, AC.lt, LL_cons, LL_nil, idOk, ABlk.lt, ints_LL, GB, tab64_LL, pC, castL, prs, tmV, tmH, tmK, qV, tH, tK, tV]), (by simp [tupA, hpLt, tmLt, AV.lt, AE.lt, AC.lt, LL_cons, LL_nil, idOk, ABlk.lt, ints_LL, GB, tab64_LL, pC, castL, prs, tmV, tmH, tmK, qV, tH, tK, tV])⟩ (by (repeat (first | exact trivial | refine ⟨trivial, ?_⟩ | refine ⟨rfl, ?_⟩))) ⟨by show ABlk.row 3 1 ((ints (mutL (castL [0, 4, 6]) k)).set (0 + Int.toNat ((k : Nat) : Int) * 1) (.int .i64 (-1))) = ABlk.row 3 1 (ints (mutL (castL [0, 4, 6]) (k + 1))); rw [iset, hms], rfl, rfl, rfl, trivial⟩) (by omega) (by omega)
    obtain rfl : k = 3 := by omega
    clear hk hkl
    generalize mutL (castL [0, 4, 6]) 3 = MM at *
    refine Wk.on ?_
    refine CallA.ro2 [2] (.t [.c .nils, .c (.int .i64 0)]) (qc) ?_
    refine Wk.on ?_
    refine CallA.det2 [] (.t [.c (.rs 5 0 3), .c (.int .i64 0)]) ([(4, .row 3 1 (ints MM)), (2, .row 38 2 (ints (prs P))), (3, .row 38 2 (ints (prs P))), (100001, .ro tab64), (5, .row 3 1 (ints (castL [0, 4, 6])))]) (poly7) ?_
    refine Wk.on ?_
    refine CallA.det2 [3] (.c (.sl 6 0 N (some N))) ([(4, .row 3 1 (ints MM)), (2, .row 38 2 (ints (prs P))), (3, .row 38 2 (ints (prs P))), (100001, .ro tab64), (5, .row 3 1 (ints (castL [0, 4, 6]))), (6, .own (ints (castL NL)))]) (nr) ?_
    refine Wk.on ?_
    refine CallA.ro2 [6] (.c .nils) (rc) ?_
    refine Wk.on ?_
    refine CallA.ro2 [100001, 100001] (.c (.bool true)) (ints_nil) ?_
    refine Wk.on ?_
    refine CallA.det2 [] (.c (.sl 7 0 9 (some 9))) ([(4, .row 3 1 (ints MM)), (2, .row 38 2 (ints (prs P))), (3, .row 38 2 (ints (prs P))), (100001, .ro tab64), (5, .row 3 1 (ints (castL [0, 4, 6]))), (6, .own (ints (castL NL))), (7, .own (ints (coL (pc 6) 9)))]) (rpoly7) ?_
    refine Wk.on ?_
    refine CallA.det2 [7] (.c (.rs 8 0 3)) ([(4, .row 3 1 (ints MM)), (2, .row 38 2 (ints (prs P))), (3, .row 38 2 (ints (prs P))), (100001, .ro tab64), (5, .row 3 1 (ints (castL [0, 4, 6]))), (6, .own (ints (castL NL))), (7, .own (ints (coL (pc 6) 9))), (8, .row 3 1 (ints (castL [0, 4, 6])))]) (pow7) ?_
    refine Wk.on ?_
    refine CallA.ro2 [5, 8] (.c (.bool true)) (same7) ?_
    refine Wk.on ?_
    rw [decide_eq_false (show ¬ ((P.length : Nat) : Int) ≠ ((P.length : Nat) : Int) by omega)]
    refine Wk.on ?_
    intro _
    refine Wk.on ?_
    refine Tr.loop (md := true) (X := Nat) (st := fun i => ⟨[(7, .c (.rs 2 0 P.length)), (8, .c (.rs 3 0 P.length)), (24, .c (.int .i64 i))], [(2, .row 38 2 (ints (prs P))), (3, .row 38 2 (ints (prs P))), (100001, .ro tab64)], 9, 153, 1⟩) (inv := fun i => i ≤ P.length) (μ := fun i => P.length - i) (x0 := 0) (l := []) tok (by omega) ?_ ?_
    · exact Sub.nil ⟨rfl, rfl, (by simp [tab64_LL, pC, castL, prs, tmV, tmH, tmK, qV, tH, tK, tV]), rfl, (by simp [tupA, hpLt, tmLt, AV.lt, AE.lt, AC.lt, LL_cons, LL_nil, idOk, ABlk.lt, ints_LL, GB, tab64_LL, pC, castL, prs, tmV, tmH, tmK, qV, tH, tK, tV]), (by simp [tupA, hpLt, tmLt, AV.lt, AE.lt, AC.lt, LL_cons, LL_nil, idOk, ABlk.lt, ints_LL, GB, tab64_LL, pC, castL, prs, tmV, tmH, tmK, qV, tH, tK, tV])⟩ (by (repeat (first | exact trivial | refine ⟨trivial, ?_⟩ | refine ⟨rfl, ?_⟩))) (by (repeat (first | exact trivial | refine ⟨trivial, ?_⟩ | refine ⟨rfl, ?_⟩)))
    intro i hi
    by_cases hil : i < P.length
    · obtain ⟨⟨x, y⟩, hxy⟩ : ∃ p, p = P.getD i (0, 0) := ⟨_, rfl⟩
      have hgi := hgt i
      rw [← hxy] at hgi
      have hb := hG.ok i hil
      rw [← hxy] at hb
      have hb : x < y ∧ y < N := hb
      have ok : okL (pC (x, y)) [.int .i64 0, .int .i64 0] := ⟨⟨rfl, by show (-9223372036854775808 : Int) ≤ (x : Int); omega, by show (x : Int) ≤ 9223372036854775807; omega⟩, ⟨rfl, by show (-9223372036854775808 : Int) ≤ (y : Int); omega, by show (y : Int) ≤ 9223372036854775807; omega⟩, trivial⟩
      refine Wk.on ?_
      rw [decide_eq_true (show ((i : Nat) : Int) < ((P.length : Nat) : Int) by omega)]
      refine Wk.on ?_
      refine Tr.draw (md := true) [⟨[], [144, 147, 148, 149, 150], [], [], []⟩, ⟨[], [143, 147, 148, 149, 150], [0], [], []⟩, ⟨[0, 1], [147, 148, 149, 150], [], [], []⟩, ⟨[0, 1, 2], [147, 148, 149, 150], [], [], []⟩, ⟨[], [143, 144, 145, 146, 148], [0, 1, 2, 3], [], []⟩, ⟨[], [143, 144, 145, 146, 147], [0, 1, 2, 3, 4], [], []⟩, ⟨[4, 5], [143, 144, 145, 146], [0, 1, 2, 3], [], []⟩, ⟨[4, 5, 6], [143, 144, 145, 146], [0, 1, 2, 3], [], []⟩] tok (by kernel_rfl) (by kernel_rfl) ?_
      refine Wk.on ?_
      refine ⟨⟨by rw [hlen, Int.toNat_natCast]; show 0 + i * 2 + 2 ≤ _; omega, rfl⟩, ?_⟩
      rw [Int.toNat_natCast, Nat.zero_add, hgi]
      refine Wk.on ?_
      refine ⟨⟨by rw [hlen, Int.toNat_natCast]; show 0 + i * 2 + 2 ≤ _; omega, rfl⟩, ?_⟩
      rw [Int.toNat_natCast, Nat.zero_add, hgi]
      refine Wk.on ?_
      refine ⟨⟨ok, ok⟩, ?_⟩
      rw [show eqL (pC (x, y)) (pC (x, y)) = some true by simp [pC, eqL, eqC]]
      refine Wk.on ?_
      refine Again.mk (i + 1) (Sub.nil ⟨rfl, rfl, (by simp [tab64_LL, pC, castL, prs, tmV, tmH, tmK, qV, tH, tK, tV]), rfl, (by simp [tupA, hpLt, tmLt, AV.lt, AE.lt, AC.lt, LL_cons, LL_nil, idOk, ABlk.lt, ints_LL, GB, tab64_LL, pC, castL, prs, tmV, tmH, tmK, qV, tH, tK, tV]), (by simp [tupA, hpLt, tmLt, AV.lt, AE.lt, AC.lt, LL_cons, LL_nil, idOk, ABlk.lt, ints_LL, GB, tab64_LL, pC, castL, prs, tmV, tmH, tmK, qV, tH, tK, tV])⟩ (by (repeat (first | exact trivial | refine ⟨trivial, ?_⟩ | refine ⟨rfl, ?_⟩))) (by (repeat (first | exact trivial | refine ⟨trivial, ?_⟩ | refine ⟨rfl, ?_⟩)))) (by omega) (by omega)
    obtain rfl : i = P.length := by omega
    refine Wk.on ?_
    rw [decide_eq_false (show ¬ ((P.length : Nat) : Int) < ((P.length : Nat) : Int) by omega)]
    refine Wk.on ?_
    intro _
    refine Wk.on ?_
    refine CallA.ro2 [] (.c (.bool true)) (awake_spec) ?_
    refine Wk.on ?_
    exact AH.Fin.nil2 ⟨rfl, rfl, rfl⟩
  · have qc := qr hT
    have rc := rr hT
    clear qr qn rr rn
    refine FSpec.body2 tok true Tryd.func10 ?_
    refine Wk.on ?_
    refine CallA.det2 [0] (.t [.c (.int .i64 N), .c (.rs 2 0 P.length)]) ([(1, .own [.int .i64 o0, .int .i64 o1]), (0, .ro (ints (flI ws))), (100001, .ro tab64), (2, .row 38 2 (ints (prs P)))]) (ht) ?_
    refine Wk.on ?_
    refine CallA.det2 [2] (.c (.rs 3 0 P.length)) ([(1, .own [.int .i64 o0, .int .i64 o1]), (0, .ro (ints (flI ws))), (100001, .ro tab64), (2, .row 38 2 (ints (prs P))), (3, .row 38 2 (ints (prs P)))]) (ow) ?_
    refine Wk.on ?_
    refine CallA.det2 [2] (.t [.c (.rs 4 0 T.length), .c (.int .i64 0)]) ([(1, .own [.int .i64 o0, .int .i64 o1]), (0, .ro (ints (flI ws))), (100001, .ro tab64), (2, .row 38 2 (ints (prs P))), (3, .row 38 2 (ints (prs P))), (4, .row 3 1 (ints (castL T)))]) (qc) ?_
    refine Wk.on ?_
    refine CallA.ro2 [] (.c (.int .i64 a)) (ha) ?_
    refine Wk.on ?_
    refine CallA.ro2 [2] (.t [.c (.int .i64 e1), .c (.int .i64 0)]) (ef) ?_
    refine Wk.on ?_
    refine CallA.ro2 [] (.c (.int .i64 b)) (hb) ?_
    refine Wk.on ?_
    refine CallA.ro2 [2] (.t [.c (.int .i64 f1), .c (.bool f2), .c (.int .i64 0)]) (fw) ?_
    refine Wk.on ?_
    refine CallA.det2 [] (.t [.c (.rs 5 0 3), .c (.int .i64 0)]) ([(1, .own [.int .i64 o0, .int .i64 o1]), (0, .ro (ints (flI ws))), (100001, .ro tab64), (2, .row 38 2 (ints (prs P))), (3, .row 38 2 (ints (prs P))), (4, .row 3 1 (ints (castL T))), (5, .row 3 1 (ints (castL [0, 4, 6])))]) (poly7) ?_
    refine Wk.on ?_
    refine Tr.loop (md := true) (X := Nat) (st := fun k => ⟨[(0, .c (.int .i64 N)), (7, .c (.rs 2 0 P.length)), (8, .c (.rs 3 0 P.length)), (9, .c (.rs 4 0 T.length)), (10, .c (.int .i64 0)), (12, .c (.int .i64 0)), (15, .c (.int .i64 0)), (16, .c (.rs 5 0 3)), (17, .c (.int .i64 0)), (18, .c (.int .i64 k))], [(4, .row 3 1 (ints (mutL (castL T) k))), (2, .row 38 2 (ints (prs P))), (3, .row 38 2 (ints (prs P))), (100001, .ro tab64), (5, .row 3 1 (ints (castL [0, 4, 6])))], 6, 153, 1⟩) (inv := fun k => k ≤ T.length) (μ := fun k => T.length - k) (x0 := 0) (l := []) tok (by omega) ?_ ?_
    · exact Sub.nil ⟨rfl, rfl, (by simp [tab64_LL, pC, castL, prs, tmV, tmH, tmK, qV, tH, tK, tV]), rfl, (by simp [tupA, hpLt, tmLt, AV.lt, AE.lt, AC.lt, LL_cons, LL_nil, idOk, ABlk.lt, ints_LL, GB, tab64_LL, pC, castL, prs, tmV, tmH, tmK, qV, tH, tK, tV]), (by simp [tupA, hpLt, tmLt, AV.lt, AE.lt, AC.lt, LL_cons, LL_nil, idOk, ABlk.lt, ints_LL, GB, tab64_LL, pC, castL, prs, tmV, tmH, tmK, qV, tH, tK, tV])⟩ (by (repeat (first | exact trivial | refine ⟨trivial, ?_⟩ | refine ⟨rfl, ?_⟩))) ⟨by show ABlk.row 3 1 (ints (castL T)) = _; rw [mutL_zero], rfl, rfl, rfl, rfl, trivial⟩
    intro k hk
    have hml : (ints (mutL (castL T) k)).length = T.length := by rw [ints_len, mutL_len, castL_len]
    by_cases hkl : k < T.length
    · have hms := mutL_succ (castL T) k
      generalize mutL (castL T) k = MT at *
      refine Wk.on ?_
      rw [decide_eq_true (show ((k : Nat) : Int) < ((T.length : Nat) : Int) by omega)]
      refine Wk.on ?_
      refine Again.mk (k + 1) (Sub.nil ⟨rfl, rfl, (by simp [tab64_LL, pC, castL, prs, tmV, tmH, tmK, qV, tH, tK, tV]), rfl, (by simp [tupA, hpLt, tmLt, AV.lt, AE.lt, AC.lt, LL_cons, LL_nil, idOk, ABlk.lt, ints_LL, GB, tab64_LL, pC, castL, prs, tmV, tmH, tmK, qV, tH, tK, tV]), (by simp [tupA, hpLt, tmLt, AV.lt, AE.lt, AC.lt, LL_cons, LL_nil, idOk, ABlk.lt, ints_LL, GB, tab64_LL, pC, castL, prs, tmV, tmH, tmK, qV, tH, tK, tV])⟩ (by (repeat (first | exact trivial | refine ⟨trivial, ?_⟩ | refine ⟨rfl, ?_⟩))) ⟨by show ABlk.row 3 1 ((ints MT).set (0 + Int.toNat ((k : Nat) : Int) * 1) (.int .i64 (-1))) = ABlk.row 3 1 (ints (mutL (castL T) (k + 1))); rw [iset, hms], rfl, rfl, rfl, rfl, trivial⟩) (by omega) (by omega)
    obtain rfl : k = T.length := by omega
    clear hk hkl
    generalize mutL (castL T) T.length = MT at *
    refine Wk.on ?_
    rw [decide_eq_false (show ¬ ((T.length : Nat) : Int) < ((T.length : Nat) : Int) by omega)]
    refine Wk.on ?_
    intro _
    refine Wk.on ?_
    refine Tr.loop (md := true) (X := Nat) (st := fun k => ⟨[(0, .c (.int .i64 N)), (7, .c (.rs 2 0 P.length)), (8, .c (.rs 3 0 P.length)), (10, .c (.int .i64 0)), (12, .c (.int .i64 0)), (15, .c (.int .i64 0)), (16, .c (.rs 5 0 3)), (17, .c (.int .i64 0)), (19, .c (.int .i64 k))], [(5, .row 3 1 (ints (mutL (castL [0, 4, 6]) k))), (2, .row 38 2 (ints (prs P))), (3, .row 38 2 (ints (prs P))), (100001, .ro tab64)], 6, 153, 1⟩) (inv := fun k => k ≤ 3) (μ := fun k => 3 - k) (x0 := 0) (l := []) tok (by omega) ?_ ?_
    · exact Sub.nil ⟨rfl, rfl, (by simp [tab64_LL, pC, castL, prs, tmV, tmH, tmK, qV, tH, tK, tV]), rfl, (by simp [tupA, hpLt, tmLt, AV.lt, AE.lt, AC.lt, LL_cons, LL_nil, idOk, ABlk.lt, ints_LL, GB, tab64_LL, pC, castL, prs, tmV, tmH, tmK, qV, tH, tK, tV]), (by simp [tupA, hpLt, tmLt, AV.lt, AE.lt, AC.lt, LL_cons, LL_nil, idOk, ABlk.lt, ints_LL, GB, tab64_LL, pC, castL, prs, tmV, tmH, tmK, qV, tH, tK, tV])⟩ (by (repeat (first | exact trivial | refine ⟨trivial, ?_⟩ | refine ⟨rfl, ?_⟩))) ⟨by show ABlk.row 3 1 (ints (castL [0, 4, 6])) = _; rw [mutL_zero], rfl, rfl, rfl, trivial⟩
    intro k hk
    have hml : (ints (mutL (castL [0, 4, 6]) k)).length = 3 := by rw [ints_len, mutL_len]; rfl
    by_cases hkl : k < 3
    · have hms := mutL_succ (castL [0, 4, 6]) k
      refine Wk.on ?_
      rw [decide_eq_true (show ((k : Nat) : Int) < ((3 : Nat) : Int) by omega)]
      refine Wk.on ?_
      refine Again.mk (k + 1) (Sub.nil ⟨rfl, rfl, (by simp [tab64_LL, pC, castL, prs, tmV, tmH, tmK, qV, tH, tK, tV]), rfl, (by simp [tupA, hpLt, tmLt, AV.lt, AE.lt, AC.lt, LL_cons, LL_nil, idOk, ABlk.lt, ints_LL, GB, tab64_LL, pC, castL, prs, tmV, tmH, tmK, qV, tH, tK, tV]), (by simp [tupA, hpLt, tmLt, AV.lt, AE.lt, AC.lt, LL_cons, LL_nil, idOk, ABlk.lt, ints_LL, GB, tab64_LL, pC, castL, prs, tmV, tmH, tmK, qV, tH, tK, tV])⟩ (by (repeat (first | exact trivial | refine ⟨trivial, ?_⟩ | refine ⟨rfl, ?_⟩))) ⟨by show ABlk.row 3 1 ((ints (mutL (castL [0, 4, 6]) k)).set (0 + Int.toNat ((k : Nat) : Int) * 1) (.int .i64 (-1))) = ABlk.row 3 1 (ints (mutL (castL [0, 4, 6]) (k + 1))); rw [iset, hms], rfl, rfl, rfl, trivial⟩) (by omega) (by omega)
    obtain rfl : k = 3 := by omega
    clear hk hkl
    generalize mutL (castL [0, 4, 6]) 3 = MM at *
    refine Wk.on ?_
    refine CallA.det2 [2] (.t [.c (.rs 6 0 T.length), .c (.int .i64 0)]) ([(5, .row 3 1 (ints MM)), (2, .row 38 2 (ints (prs P))), (3, .row 38 2 (ints (prs P))), (100001, .ro tab64), (6, .row 3 1 (ints (castL T)))]) (qc) ?_
    refine Wk.on ?_
    refine CallA.det2 [] (.t [.c (.rs 7 0 3), .c (.int .i64 0)]) ([(5, .row 3 1 (ints MM)), (2, .row 38 2 (ints (prs P))), (3, .row 38 2 (ints (prs P))), (100001, .ro tab64), (6, .row 3 1 (ints (castL T))), (7, .row 3 1 (ints (castL [0, 4, 6])))]) (poly7) ?_
    refine Wk.on ?_
    refine CallA.det2 [3] (.c (.sl 8 0 N (some N))) ([(5, .row 3 1 (ints MM)), (2, .row 38 2 (ints (prs P))), (3, .row 38 2 (ints (prs P))), (100001, .ro tab64), (6, .row 3 1 (ints (castL T))), (7, .row 3 1 (ints (castL [0, 4, 6]))), (8, .own (ints (castL NL)))]) (nr) ?_
    refine Wk.on ?_
    refine CallA.det2 [8] (.c (.rs 9 0 T.length)) ([(5, .row 3 1 (ints MM)), (2, .row 38 2 (ints (prs P))), (3, .row 38 2 (ints (prs P))), (100001, .ro tab64), (6, .row 3 1 (ints (castL T))), (7, .row 3 1 (ints (castL [0, 4, 6]))), (8, .own (ints (castL NL))), (9, .row 3 1 (ints (castL T)))]) (rc) ?_
    refine Wk.on ?_
    have sm := ints_same (castL T) (by rw [castL_len]; exact hTs)
    rw [castL_len] at sm
    refine CallA.ro2 [6, 9] (.c (.bool true)) (sm) ?_
    refine Wk.on ?_
    refine CallA.det2 [] (.c (.sl 10 0 9 (some 9))) ([(5, .row 3 1 (ints MM)), (2, .row 38 2 (ints (prs P))), (3, .row 38 2 (ints (prs P))), (100001, .ro tab64), (6, .row 3 1 (ints (castL T))), (7, .row 3 1 (ints (castL [0, 4, 6]))), (8, .own (ints (castL NL))), (9, .row 3 1 (ints (castL T))), (10, .own (ints (coL (pc 6) 9)))]) (rpoly7) ?_
    refine Wk.on ?_
    refine CallA.det2 [10] (.c (.rs 11 0 3)) ([(5, .row 3 1 (ints MM)), (2, .row 38 2 (ints (prs P))), (3, .row 38 2 (ints (prs P))), (100001, .ro tab64), (6, .row 3 1 (ints (castL T))), (7, .row 3 1 (ints (castL [0, 4, 6]))), (8, .own (ints (castL NL))), (9, .row 3 1 (ints (castL T))), (10, .own (ints (coL (pc 6) 9))), (11, .row 3 1 (ints (castL [0, 4, 6])))]) (pow7) ?_
    refine Wk.on ?_
    refine CallA.ro2 [7, 11] (.c (.bool true)) (same7) ?_
    refine Wk.on ?_
    rw [decide_eq_false (show ¬ ((P.length : Nat) : Int) ≠ ((P.length : Nat) : Int) by omega)]
    refine Wk.on ?_
    intro _
    refine Wk.on ?_
    refine Tr.loop (md := true) (X := Nat) (st := fun i => ⟨[(7, .c (.rs 2 0 P.length)), (8, .c (.rs 3 0 P.length)), (24, .c (.int .i64 i))], [(2, .row 38 2 (ints (prs P))), (3, .row 38 2 (ints (prs P))), (100001, .ro tab64)], 12, 153, 1⟩) (inv := fun i => i ≤ P.length) (μ := fun i => P.length - i) (x0 := 0) (l := []) tok (by omega) ?_ ?_
    · exact Sub.nil ⟨rfl, rfl, (by simp [tab64_LL, pC, castL, prs, tmV, tmH, tmK, qV, tH, tK, tV]), rfl, (by simp [tupA, hpLt, tmLt, AV.lt, AE.lt, AC.lt, LL_cons, LL_nil, idOk, ABlk.lt, ints_LL, GB, tab64_LL, pC, castL, prs, tmV, tmH, tmK, qV, tH, tK, tV]), (by simp [tupA, hpLt, tmLt, AV.lt, AE.lt, AC.lt, LL_cons, LL_nil, idOk, ABlk.lt, ints_LL, GB, tab64_LL, pC, castL, prs, tmV, tmH, tmK, qV, tH, tK, tV])⟩ (by (repeat (first | exact trivial | refine ⟨trivial, ?_⟩ | refine ⟨rfl, ?_⟩))) (by (repeat (first | exact trivial | refine ⟨trivial, ?_⟩ | refine ⟨rfl, ?_⟩)))
    intro i hi
    by_cases hil : i < P.length
    · obtain ⟨⟨x, y⟩, hxy⟩ : ∃ p, p = P.getD i (0, 0) := ⟨_, rfl⟩
      have hgi := hgt i
      rw [← hxy] at hgi
      have hb := hG.ok i hil
      rw [← hxy] at hb
      have hb : x < y ∧ y < N := hb
      have ok : okL (pC (x, y)) [.int .i64 0, .int .i64 0] := ⟨⟨rfl, by show (-9223372036854775808 : Int) ≤ (x : Int); omega, by show (x : Int) ≤ 9223372036854775807; omega⟩, ⟨rfl, by show (-9223372036854775808 : Int) ≤ (y : Int); omega, by show (y : Int) ≤ 9223372036854775807; omega⟩, trivial⟩
      refine Wk.on ?_
      rw [decide_eq_true (show ((i : Nat) : Int) < ((P.length : Nat) : Int) by omega)]
      refine Wk.on ?_
      refine Tr.draw (md := true) [⟨[], [144, 147, 148, 149, 150], [], [], []⟩, ⟨[], [143, 147, 148, 149, 150], [0], [], []⟩, ⟨[0, 1], [147, 148, 149, 150], [], [], []⟩, ⟨[0, 1, 2], [147, 148, 149, 150], [], [], []⟩, ⟨[], [143, 144, 145, 146, 148], [0, 1, 2, 3], [], []⟩, ⟨[], [143, 144, 145, 146, 147], [0, 1, 2, 3, 4], [], []⟩, ⟨[4, 5], [143, 144, 145, 146], [0, 1, 2, 3], [], []⟩, ⟨[4, 5, 6], [143, 144, 145, 146], [0, 1, 2, 3], [], []⟩] tok (by kernel_rfl) (by kernel_rfl) ?_
      refine Wk.on ?_
      refine ⟨⟨by rw [hlen, Int.toNat_natCast]; show 0 + i * 2 + 2 ≤ _; omega, rfl⟩, ?_⟩
      rw [Int.toNat_natCast, Nat.zero_add, hgi]
      refine Wk.on ?_
      refine ⟨⟨by rw [hlen, Int.toNat_natCast]; show 0 + i * 2 + 2 ≤ _; omega, rfl⟩, ?_⟩
      rw [Int.toNat_natCast, Nat.zero_add, hgi]
      refine Wk.on ?_
      refine ⟨⟨ok, ok⟩, ?_⟩
      rw [show eqL (pC (x, y)) (pC (x, y)) = some true by simp [pC, eqL, eqC]]
      refine Wk.on ?_
      refine Again.mk (i + 1) (Sub.nil ⟨rfl, rfl, (by simp [tab64_LL, pC, castL, prs, tmV, tmH, tmK, qV, tH, tK, tV]), rfl, (by simp [tupA, hpLt, tmLt, AV.lt, AE.lt, AC.lt, LL_cons, LL_nil, idOk, ABlk.lt, ints_LL, GB, tab64_LL, pC, castL, prs, tmV, tmH, tmK, qV, tH, tK, tV]), (by simp [tupA, hpLt, tmLt, AV.lt, AE.lt, AC.lt, LL_cons, LL_nil, idOk, ABlk.lt, ints_LL, GB, tab64_LL, pC, castL, prs, tmV, tmH, tmK, qV, tH, tK, tV])⟩ (by (repeat (first | exact trivial | refine ⟨trivial, ?_⟩ | refine ⟨rfl, ?_⟩))) (by (repeat (first | exact trivial | refine ⟨trivial, ?_⟩ | refine ⟨rfl, ?_⟩)))) (by omega) (by omega)
    obtain rfl : i = P.length := by omega
    refine Wk.on ?_
    rw [decide_eq_false (show ¬ ((P.length : Nat) : Int) < ((P.length : Nat) : Int) by omega)]
    refine Wk.on ?_
    intro _
    refine Wk.on ?_
    refine CallA.ro2 [] (.c (.bool true)) (awake_spec) ?_
    refine Wk.on ?_
    exact AH.Fin.nil2 ⟨rfl, rfl, rfl⟩
theorem own_n (n : Int) (ws : List (Int × Int)) (o0 o1 : Int) (h4 : ws.length ≤ 9223372036854775807) (hP : tameP n ws 10 = []) : FDet Tryd.prog 10 [.c (.int .i64 n), .c (.rs 0 0 ws.length), .g [.int .i64 o0, .int .i64 o1]] [(0, .ro (ints (flI ws))), (100001, .ro tab64)] 1 (.c (.bool true)) [] 1 := by
  have hG := tame_gr n ws (most := 10) (by decide) (by decide)
  have hN10 : tameN n 10 ≤ 10 := by unfold tameN; have := um_lt n (n := 10) (by decide); omega
  have hPl : (tameP n ws 10).length ≤ 100 := gr_len10 hG hN10
  have ht := tame_ns n ws (most := 10) (by decide) (by decide) h4 hP
  have hn16 := hG.n16
  have hn1 := hG.n1
  rw [hP] at ht hG hPl
  generalize tameN n 10 = N at *
  have ha := set_spec o0 hn16
  have hb := set_spec o1 hn16
  have ha2 := setN_lt o0 N
  have hb2 := setN_lt o1 N
  generalize setN o0 N = a at *
  generalize setN o1 N = b at *
  have ef := Effect_spec hG true (by omega) ha2
  have fw := Fewest_spec hG false (by omega) hb2
  have nr := Near_spec hG true (by omega)
  have hbas : qbN N (openR N [] true) = (rq (nearL N [] true) (2 ^ N)).1 := basis_near hG true
  have hTs : (qbN N (openR N [] true)).length ≤ 1000000 := by
    rw [hbas]
    have := rq_len (nearL N [] true) (2 ^ N)
    have := (Nat.pow_le_pow_right (by omega) hN10 : 2 ^ N ≤ 2 ^ 10)
    omega
  have rr := rq_rs (nearL_lt hG true) hn16 (nearL_len _ _ _) hbas
  have rn := rq_ns (nearL_lt hG true) hn16 (nearL_len _ _ _) hbas
  have qr := quiet_rs hG (by omega) true (by omega)
  have qn := quiet_ns hG (by omega) true (by omega)
  have ow := own_ns
  generalize qbN N (openR N [] true) = T at *
  generalize fewN N (openR N [] false) b = f1 at *
  generalize decide ((solP (bsR N (openR N [] false)) b).2 = 0) = f2 at *
  generalize eff (openR N [] true) a = e1 at *
  generalize nearL N [] true = NL at *
  have hTl : (ints (castL T)).length = T.length := by rw [ints_len, castL_len]
  by_cases hT : T = []
  · have qc := qn hT
    have rc := rn hT
    clear qr qn rr rn
    subst hT
    refine FSpec.body2 tok true Tryd.func10 ?_
    refine Wk.on ?_
    refine CallA.det2 [0] (.t [.c (.int .i64 N), .c (.rs 0 0 0)]) ([(1, .own [.int .i64 o0, .int .i64 o1]), (0, .ro (ints (flI ws))), (100001, .ro tab64)]) (ht) ?_
    refine Wk.on ?_
    refine CallA.ro2 [0] (.c (.rs 0 0 0)) (ow) ?_
    refine Wk.on ?_
    refine CallA.ro2 [0] (.t [.c .nils, .c (.int .i64 0)]) (qc) ?_
    refine Wk.on ?_
    refine CallA.ro2 [] (.c (.int .i64 a)) (ha) ?_
    refine Wk.on ?_
    refine CallA.ro2 [0] (.t [.c (.int .i64 e1), .c (.int .i64 0)]) (ef) ?_
    refine Wk.on ?_
    refine CallA.ro2 [] (.c (.int .i64 b)) (hb) ?_
    refine Wk.on ?_
    refine CallA.ro2 [0] (.t [.c (.int .i64 f1), .c (.bool f2), .c (.int .i64 0)]) (fw) ?_
    refine Wk.on ?_
    refine CallA.det2 [] (.t [.c (.rs 2 0 3), .c (.int .i64 0)]) ([(1, .own [.int .i64 o0, .int .i64 o1]), (0, .ro (ints (flI ws))), (100001, .ro tab64), (2, .row 3 1 (ints (castL [0, 4, 6])))]) (poly7) ?_
    refine Wk.on ?_
    refine Tr.loop (md := true) (X := Unit) (st := fun _ => ⟨[(0, .c (.int .i64 N)), (7, .c (.rs 0 0 0)), (8, .c (.rs 0 0 0)), (9, .c (.nils)), (10, .c (.int .i64 0)), (12, .c (.int .i64 0)), (15, .c (.int .i64 0)), (16, .c (.rs 2 0 3)), (17, .c (.int .i64 0)), (18, .c (.int .i64 0))], [(0, .ro (ints (flI ws))), (100001, .ro tab64), (2, .row 3 1 (ints (castL [0, 4, 6])))], 3, 153, 1⟩) (inv := fun _ => True) (μ := fun _ => 0) (x0 := ()) (l := []) tok trivial ?_ ?_
    · exact Sub.nil ⟨rfl, rfl, (by simp [tab64_LL, pC, castL, prs, tmV, tmH, tmK, qV, tH, tK, tV]), rfl, (by simp [tupA, hpLt, tmLt, AV.lt, AE.lt, AC.lt, LL_cons, LL_nil, idOk, ABlk.lt, ints_LL, GB, tab64_LL, pC, castL, prs, tmV, tmH, tmK, qV, tH, tK, tV]), (by simp [tupA, hpLt, tmLt, AV.lt, AE.lt, AC.lt, LL_cons, LL_nil, idOk, ABlk.lt, ints_LL, GB, tab64_LL, pC, castL, prs, tmV, tmH, tmK, qV, tH, tK, tV])⟩ (by (repeat (first | exact trivial | refine ⟨trivial, ?_⟩ | refine ⟨rfl, ?_⟩))) (by (repeat (first | exact trivial | refine ⟨trivial, ?_⟩ | refine ⟨rfl, ?_⟩)))
    intro _ _
    refine Wk.on ?_
    refine Tr.loop (md := true) (X := Nat) (st := fun k => ⟨[(0, .c (.int .i64 N)), (7, .c (.rs 0 0 0)), (8, .c (.rs 0 0 0)), (10, .c (.int .i64 0)), (12, .c (.int .i64 0)), (15, .c (.int .i64 0)), (16, .c (.rs 2 0 3)), (17, .c (.int .i64 0)), (19, .c (.int .i64 k))], [(2, .row 3 1 (ints (mutL (castL [0, 4, 6]) k))), (0, .ro (ints (flI ws))), (100001, .ro tab64)], 3, 153, 1⟩) (inv := fun k => k ≤ 3) (μ := fun k => 3 - k) (x0 := 0) (l := []) tok (by omega) ?_ ?_
    · exact Sub.nil ⟨rfl, rfl, (by simp [tab64_LL, pC, castL, prs, tmV, tmH, tmK, qV, tH, tK, tV]), rfl, (by simp [tupA, hpLt, tmLt, AV.lt, AE.lt, AC.lt, LL_cons, LL_nil, idOk, ABlk.lt, ints_LL, GB, tab64_LL, pC, castL, prs, tmV, tmH, tmK, qV, tH, tK, tV]), (by simp [tupA, hpLt, tmLt, AV.lt, AE.lt, AC.lt, LL_cons, LL_nil, idOk, ABlk.lt, ints_LL, GB, tab64_LL, pC, castL, prs, tmV, tmH, tmK, qV, tH, tK, tV])⟩ (by (repeat (first | exact trivial | refine ⟨trivial, ?_⟩ | refine ⟨rfl, ?_⟩))) ⟨by show ABlk.row 3 1 (ints (castL [0, 4, 6])) = _; rw [mutL_zero], rfl, rfl, trivial⟩
    intro k hk
    have hml : (ints (mutL (castL [0, 4, 6]) k)).length = 3 := by rw [ints_len, mutL_len]; rfl
    by_cases hkl : k < 3
    · have hms := mutL_succ (castL [0, 4, 6]) k
      refine Wk.on ?_
      rw [decide_eq_true (show ((k : Nat) : Int) < ((3 : Nat) : Int) by omega)]
      refine Wk.on ?_
      refine Again.mk (k + 1) (Sub.nil ⟨rfl, rfl, (by simp [tab64_LL, pC, castL, prs, tmV, tmH, tmK, qV, tH, tK, tV]), rfl, (by simp [tupA, hpLt, tmLt, AV.lt, AE.lt, AC.lt, LL_cons, LL_nil, idOk, ABlk.lt, ints_LL, GB, tab64_LL, pC, castL, prs, tmV, tmH, tmK, qV, tH, tK, tV]), (by simp [tupA, hpLt, tmLt, AV.lt, AE.lt, AC.lt, LL_cons, LL_nil, idOk, ABlk.lt, ints_LL, GB, tab64_LL, pC, castL, prs, tmV, tmH, tmK, qV, tH, tK, tV])⟩ (by (repeat (first | exact trivial | refine ⟨trivial, ?_⟩ | refine ⟨rfl, ?_⟩))) ⟨by show ABlk.row 3 1 ((ints (mutL (castL [0, 4, 6]) k)).set (0 + Int.toNat ((k : Nat) : Int) * 1) (.int .i64 (-1))) = ABlk.row 3 1 (ints (mutL (castL [0, 4, 6]) (k + 1))); rw [iset, hms], rfl, rfl, trivial⟩) (by omega) (by omega)
    obtain rfl : k = 3 := by omega
    clear hk hkl
    generalize mutL (castL [0, 4, 6]) 3 = MM at *
    refine Wk.on ?_
    refine CallA.ro2 [0] (.t [.c .nils, .c (.int .i64 0)]) (qc) ?_
    refine Wk.on ?_
    refine CallA.det2 [] (.t [.c (.rs 3 0 3), .c (.int .i64 0)]) ([(2, .row 3 1 (ints MM)), (0, .ro (ints (flI ws))), (100001, .ro tab64), (3, .row 3 1 (ints (castL [0, 4, 6])))]) (poly7) ?_
    refine Wk.on ?_
    refine CallA.det2 [0] (.c (.sl 4 0 N (some N))) ([(2, .row 3 1 (ints MM)), (0, .ro (ints (flI ws))), (100001, .ro tab64), (3, .row 3 1 (ints (castL [0, 4, 6]))), (4, .own (ints (castL NL)))]) (nr) ?_
    refine Wk.on ?_
    refine CallA.ro2 [4] (.c .nils) (rc) ?_
    refine Wk.on ?_
    refine CallA.ro2 [100001, 100001] (.c (.bool true)) (ints_nil) ?_
    refine Wk.on ?_
    refine CallA.det2 [] (.c (.sl 5 0 9 (some 9))) ([(2, .row 3 1 (ints MM)), (0, .ro (ints (flI ws))), (100001, .ro tab64), (3, .row 3 1 (ints (castL [0, 4, 6]))), (4, .own (ints (castL NL))), (5, .own (ints (coL (pc 6) 9)))]) (rpoly7) ?_
    refine Wk.on ?_
    refine CallA.det2 [5] (.c (.rs 6 0 3)) ([(2, .row 3 1 (ints MM)), (0, .ro (ints (flI ws))), (100001, .ro tab64), (3, .row 3 1 (ints (castL [0, 4, 6]))), (4, .own (ints (castL NL))), (5, .own (ints (coL (pc 6) 9))), (6, .row 3 1 (ints (castL [0, 4, 6])))]) (pow7) ?_
    refine Wk.on ?_
    refine CallA.ro2 [3, 6] (.c (.bool true)) (same7) ?_
    refine Wk.on ?_
    refine Tr.loop (md := true) (X := Unit) (st := fun _ => ⟨[(7, .c (.rs 0 0 0)), (8, .c (.rs 0 0 0)), (24, .c (.int .i64 0))], [(0, .ro (ints (flI ws))), (100001, .ro tab64)], 7, 153, 1⟩) (inv := fun _ => True) (μ := fun _ => 0) (x0 := ()) (l := []) tok trivial ?_ ?_
    · exact Sub.nil ⟨rfl, rfl, (by simp [tab64_LL, pC, castL, prs, tmV, tmH, tmK, qV, tH, tK, tV]), rfl, (by simp [tupA, hpLt, tmLt, AV.lt, AE.lt, AC.lt, LL_cons, LL_nil, idOk, ABlk.lt, ints_LL, GB, tab64_LL, pC, castL, prs, tmV, tmH, tmK, qV, tH, tK, tV]), (by simp [tupA, hpLt, tmLt, AV.lt, AE.lt, AC.lt, LL_cons, LL_nil, idOk, ABlk.lt, ints_LL, GB, tab64_LL, pC, castL, prs, tmV, tmH, tmK, qV, tH, tK, tV])⟩ (by (repeat (first | exact trivial | refine ⟨trivial, ?_⟩ | refine ⟨rfl, ?_⟩))) (by (repeat (first | exact trivial | refine ⟨trivial, ?_⟩ | refine ⟨rfl, ?_⟩)))
    intro _ _
    refine Wk.on ?_
    refine CallA.ro2 [] (.c (.bool true)) (awake_spec) ?_
    refine Wk.on ?_
    exact AH.Fin.nil2 ⟨rfl, rfl, rfl⟩
  · have qc := qr hT
    have rc := rr hT
    clear qr qn rr rn
    refine FSpec.body2 tok true Tryd.func10 ?_
    refine Wk.on ?_
    refine CallA.det2 [0] (.t [.c (.int .i64 N), .c (.rs 0 0 0)]) ([(1, .own [.int .i64 o0, .int .i64 o1]), (0, .ro (ints (flI ws))), (100001, .ro tab64)]) (ht) ?_
    refine Wk.on ?_
    refine CallA.ro2 [0] (.c (.rs 0 0 0)) (ow) ?_
    refine Wk.on ?_
    refine CallA.det2 [0] (.t [.c (.rs 2 0 T.length), .c (.int .i64 0)]) ([(1, .own [.int .i64 o0, .int .i64 o1]), (0, .ro (ints (flI ws))), (100001, .ro tab64), (2, .row 3 1 (ints (castL T)))]) (qc) ?_
    refine Wk.on ?_
    refine CallA.ro2 [] (.c (.int .i64 a)) (ha) ?_
    refine Wk.on ?_
    refine CallA.ro2 [0] (.t [.c (.int .i64 e1), .c (.int .i64 0)]) (ef) ?_
    refine Wk.on ?_
    refine CallA.ro2 [] (.c (.int .i64 b)) (hb) ?_
    refine Wk.on ?_
    refine CallA.ro2 [0] (.t [.c (.int .i64 f1), .c (.bool f2), .c (.int .i64 0)]) (fw) ?_
    refine Wk.on ?_
    refine CallA.det2 [] (.t [.c (.rs 3 0 3), .c (.int .i64 0)]) ([(1, .own [.int .i64 o0, .int .i64 o1]), (0, .ro (ints (flI ws))), (100001, .ro tab64), (2, .row 3 1 (ints (castL T))), (3, .row 3 1 (ints (castL [0, 4, 6])))]) (poly7) ?_
    refine Wk.on ?_
    refine Tr.loop (md := true) (X := Nat) (st := fun k => ⟨[(0, .c (.int .i64 N)), (7, .c (.rs 0 0 0)), (8, .c (.rs 0 0 0)), (9, .c (.rs 2 0 T.length)), (10, .c (.int .i64 0)), (12, .c (.int .i64 0)), (15, .c (.int .i64 0)), (16, .c (.rs 3 0 3)), (17, .c (.int .i64 0)), (18, .c (.int .i64 k))], [(2, .row 3 1 (ints (mutL (castL T) k))), (0, .ro (ints (flI ws))), (100001, .ro tab64), (3, .row 3 1 (ints (castL [0, 4, 6])))], 4, 153, 1⟩) (inv := fun k => k ≤ T.length) (μ := fun k => T.length - k) (x0 := 0) (l := []) tok (by omega) ?_ ?_
    · exact Sub.nil ⟨rfl, rfl, (by simp [tab64_LL, pC, castL, prs, tmV, tmH, tmK, qV, tH, tK, tV]), rfl, (by simp [tupA, hpLt, tmLt, AV.lt, AE.lt, AC.lt, LL_cons, LL_nil, idOk, ABlk.lt, ints_LL, GB, tab64_LL, pC, castL, prs, tmV, tmH, tmK, qV, tH, tK, tV]), (by simp [tupA, hpLt, tmLt, AV.lt, AE.lt, AC.lt, LL_cons, LL_nil, idOk, ABlk.lt, ints_LL, GB, tab64_LL, pC, castL, prs, tmV, tmH, tmK, qV, tH, tK, tV])⟩ (by (repeat (first | exact trivial | refine ⟨trivial, ?_⟩ | refine ⟨rfl, ?_⟩))) ⟨by show ABlk.row 3 1 (ints (castL T)) = _; rw [mutL_zero], rfl, rfl, rfl, trivial⟩
    intro k hk
    have hml : (ints (mutL (castL T) k)).length = T.length := by rw [ints_len, mutL_len, castL_len]
    by_cases hkl : k < T.length
    · have hms := mutL_succ (castL T) k
      generalize mutL (castL T) k = MT at *
      refine Wk.on ?_
      rw [decide_eq_true (show ((k : Nat) : Int) < ((T.length : Nat) : Int) by omega)]
      refine Wk.on ?_
      refine Again.mk (k + 1) (Sub.nil ⟨rfl, rfl, (by simp [tab64_LL, pC, castL, prs, tmV, tmH, tmK, qV, tH, tK, tV]), rfl, (by simp [tupA, hpLt, tmLt, AV.lt, AE.lt, AC.lt, LL_cons, LL_nil, idOk, ABlk.lt, ints_LL, GB, tab64_LL, pC, castL, prs, tmV, tmH, tmK, qV, tH, tK, tV]), (by simp [tupA, hpLt, tmLt, AV.lt, AE.lt, AC.lt, LL_cons, LL_nil, idOk, ABlk.lt, ints_LL, GB, tab64_LL, pC, castL, prs, tmV, tmH, tmK, qV, tH, tK, tV])⟩ (by (repeat (first | exact trivial | refine ⟨trivial, ?_⟩ | refine ⟨rfl, ?_⟩))) ⟨by show ABlk.row 3 1 ((ints MT).set (0 + Int.toNat ((k : Nat) : Int) * 1) (.int .i64 (-1))) = ABlk.row 3 1 (ints (mutL (castL T) (k + 1))); rw [iset, hms], rfl, rfl, rfl, trivial⟩) (by omega) (by omega)
    obtain rfl : k = T.length := by omega
    clear hk hkl
    generalize mutL (castL T) T.length = MT at *
    refine Wk.on ?_
    rw [decide_eq_false (show ¬ ((T.length : Nat) : Int) < ((T.length : Nat) : Int) by omega)]
    refine Wk.on ?_
    intro _
    refine Wk.on ?_
    refine Tr.loop (md := true) (X := Nat) (st := fun k => ⟨[(0, .c (.int .i64 N)), (7, .c (.rs 0 0 0)), (8, .c (.rs 0 0 0)), (10, .c (.int .i64 0)), (12, .c (.int .i64 0)), (15, .c (.int .i64 0)), (16, .c (.rs 3 0 3)), (17, .c (.int .i64 0)), (19, .c (.int .i64 k))], [(3, .row 3 1 (ints (mutL (castL [0, 4, 6]) k))), (0, .ro (ints (flI ws))), (100001, .ro tab64)], 4, 153, 1⟩) (inv := fun k => k ≤ 3) (μ := fun k => 3 - k) (x0 := 0) (l := []) tok (by omega) ?_ ?_
    · exact Sub.nil ⟨rfl, rfl, (by simp [tab64_LL, pC, castL, prs, tmV, tmH, tmK, qV, tH, tK, tV]), rfl, (by simp [tupA, hpLt, tmLt, AV.lt, AE.lt, AC.lt, LL_cons, LL_nil, idOk, ABlk.lt, ints_LL, GB, tab64_LL, pC, castL, prs, tmV, tmH, tmK, qV, tH, tK, tV]), (by simp [tupA, hpLt, tmLt, AV.lt, AE.lt, AC.lt, LL_cons, LL_nil, idOk, ABlk.lt, ints_LL, GB, tab64_LL, pC, castL, prs, tmV, tmH, tmK, qV, tH, tK, tV])⟩ (by (repeat (first | exact trivial | refine ⟨trivial, ?_⟩ | refine ⟨rfl, ?_⟩))) ⟨by show ABlk.row 3 1 (ints (castL [0, 4, 6])) = _; rw [mutL_zero], rfl, rfl, trivial⟩
    intro k hk
    have hml : (ints (mutL (castL [0, 4, 6]) k)).length = 3 := by rw [ints_len, mutL_len]; rfl
    by_cases hkl : k < 3
    · have hms := mutL_succ (castL [0, 4, 6]) k
      refine Wk.on ?_
      rw [decide_eq_true (show ((k : Nat) : Int) < ((3 : Nat) : Int) by omega)]
      refine Wk.on ?_
      refine Again.mk (k + 1) (Sub.nil ⟨rfl, rfl, (by simp [tab64_LL, pC, castL, prs, tmV, tmH, tmK, qV, tH, tK, tV]), rfl, (by simp [tupA, hpLt, tmLt, AV.lt, AE.lt, AC.lt, LL_cons, LL_nil, idOk, ABlk.lt, ints_LL, GB, tab64_LL, pC, castL, prs, tmV, tmH, tmK, qV, tH, tK, tV]), (by simp [tupA, hpLt, tmLt, AV.lt, AE.lt, AC.lt, LL_cons, LL_nil, idOk, ABlk.lt, ints_LL, GB, tab64_LL, pC, castL, prs, tmV, tmH, tmK, qV, tH, tK, tV])⟩ (by (repeat (first | exact trivial | refine ⟨trivial, ?_⟩ | refine ⟨rfl, ?_⟩))) ⟨by show ABlk.row 3 1 ((ints (mutL (castL [0, 4, 6]) k)).set (0 + Int.toNat ((k : Nat) : Int) * 1) (.int .i64 (-1))) = ABlk.row 3 1 (ints (mutL (castL [0, 4, 6]) (k + 1))); rw [iset, hms], rfl, rfl, trivial⟩) (by omega) (by omega)
    obtain rfl : k = 3 := by omega
    clear hk hkl
    generalize mutL (castL [0, 4, 6]) 3 = MM at *
    refine Wk.on ?_
    refine CallA.det2 [0] (.t [.c (.rs 4 0 T.length), .c (.int .i64 0)]) ([(3, .row 3 1 (ints MM)), (0, .ro (ints (flI ws))), (100001, .ro tab64), (4, .row 3 1 (ints (castL T)))]) (qc) ?_
    refine Wk.on ?_
    refine CallA.det2 [] (.t [.c (.rs 5 0 3), .c (.int .i64 0)]) ([(3, .row 3 1 (ints MM)), (0, .ro (ints (flI ws))), (100001, .ro tab64), (4, .row 3 1 (ints (castL T))), (5, .row 3 1 (ints (castL [0, 4, 6])))]) (poly7) ?_
    refine Wk.on ?_
    refine CallA.det2 [0] (.c (.sl 6 0 N (some N))) ([(3, .row 3 1 (ints MM)), (0, .ro (ints (flI ws))), (100001, .ro tab64), (4, .row 3 1 (ints (castL T))), (5, .row 3 1 (ints (castL [0, 4, 6]))), (6, .own (ints (castL NL)))]) (nr) ?_
    refine Wk.on ?_
    refine CallA.det2 [6] (.c (.rs 7 0 T.length)) ([(3, .row 3 1 (ints MM)), (0, .ro (ints (flI ws))), (100001, .ro tab64), (4, .row 3 1 (ints (castL T))), (5, .row 3 1 (ints (castL [0, 4, 6]))), (6, .own (ints (castL NL))), (7, .row 3 1 (ints (castL T)))]) (rc) ?_
    refine Wk.on ?_
    have sm := ints_same (castL T) (by rw [castL_len]; exact hTs)
    rw [castL_len] at sm
    refine CallA.ro2 [4, 7] (.c (.bool true)) (sm) ?_
    refine Wk.on ?_
    refine CallA.det2 [] (.c (.sl 8 0 9 (some 9))) ([(3, .row 3 1 (ints MM)), (0, .ro (ints (flI ws))), (100001, .ro tab64), (4, .row 3 1 (ints (castL T))), (5, .row 3 1 (ints (castL [0, 4, 6]))), (6, .own (ints (castL NL))), (7, .row 3 1 (ints (castL T))), (8, .own (ints (coL (pc 6) 9)))]) (rpoly7) ?_
    refine Wk.on ?_
    refine CallA.det2 [8] (.c (.rs 9 0 3)) ([(3, .row 3 1 (ints MM)), (0, .ro (ints (flI ws))), (100001, .ro tab64), (4, .row 3 1 (ints (castL T))), (5, .row 3 1 (ints (castL [0, 4, 6]))), (6, .own (ints (castL NL))), (7, .row 3 1 (ints (castL T))), (8, .own (ints (coL (pc 6) 9))), (9, .row 3 1 (ints (castL [0, 4, 6])))]) (pow7) ?_
    refine Wk.on ?_
    refine CallA.ro2 [5, 9] (.c (.bool true)) (same7) ?_
    refine Wk.on ?_
    refine Tr.loop (md := true) (X := Unit) (st := fun _ => ⟨[(7, .c (.rs 0 0 0)), (8, .c (.rs 0 0 0)), (24, .c (.int .i64 0))], [(0, .ro (ints (flI ws))), (100001, .ro tab64)], 10, 153, 1⟩) (inv := fun _ => True) (μ := fun _ => 0) (x0 := ()) (l := []) tok trivial ?_ ?_
    · exact Sub.nil ⟨rfl, rfl, (by simp [tab64_LL, pC, castL, prs, tmV, tmH, tmK, qV, tH, tK, tV]), rfl, (by simp [tupA, hpLt, tmLt, AV.lt, AE.lt, AC.lt, LL_cons, LL_nil, idOk, ABlk.lt, ints_LL, GB, tab64_LL, pC, castL, prs, tmV, tmH, tmK, qV, tH, tK, tV]), (by simp [tupA, hpLt, tmLt, AV.lt, AE.lt, AC.lt, LL_cons, LL_nil, idOk, ABlk.lt, ints_LL, GB, tab64_LL, pC, castL, prs, tmV, tmH, tmK, qV, tH, tK, tV])⟩ (by (repeat (first | exact trivial | refine ⟨trivial, ?_⟩ | refine ⟨rfl, ?_⟩))) (by (repeat (first | exact trivial | refine ⟨trivial, ?_⟩ | refine ⟨rfl, ?_⟩)))
    intro _ _
    refine Wk.on ?_
    refine CallA.ro2 [] (.c (.bool true)) (awake_spec) ?_
    refine Wk.on ?_
    exact AH.Fin.nil2 ⟨rfl, rfl, rfl⟩
end Go.Proofs.YtimknijehaamlaaDoor
