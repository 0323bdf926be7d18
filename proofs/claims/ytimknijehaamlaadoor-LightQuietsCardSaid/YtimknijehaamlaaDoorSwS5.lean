/-
  Contract: LightQuiets.
-/
import Derived.Test.YtimknijehaamlaaDoorSwS4
import Derived.Test.YtimknijehaamlaaDoorSwE15
import Derived.Test.YtimknijehaamlaaDoorSwE11
import Derived.Test.YtimknijehaamlaaDoorSwE10
set_option linter.unusedSimpArgs false
set_option linter.unusedVariables false
namespace Go.Proofs.YtimknijehaamlaaDoor
open Go Go.AH Go.Lin
set_option maxRecDepth 100000
set_option maxHeartbeats 1000000

def qbA (n : Nat) (rows : List Nat) : List Nat := (tidyD (qsR n rows)).reverse
theorem quietA_rs {n : Nat} {ws : List (Nat × Nat)} (h : Gr n ws) (own : Bool) (hw : ws.length ≤ 1000) (hT : qbA n (openR n ws own) ≠ []) : FDet Tryd.prog 18 [.c (.int .i64 n), .c (.rs 0 0 ws.length), .c (.bool own)] [(0, .ro (ints (prs ws)))] 1 (.t [.c (.rs 1 0 (qbA n (openR n ws own)).length), .c (.int .i64 0)]) [(1, .row 3 1 (ints (castL (qbA n (openR n ws own)))))] 2 := by
  have := Quiet_any h own hw
  rw [qbA] at hT ⊢
  generalize (tidyD (qsR n (openR n ws own))).reverse = T at *
  cases T with
  | nil => exact absurd rfl hT
  | cons b L => exact FDet.post this _ _ ⟨⟨⟨rfl, rfl, rfl⟩, trivial⟩, rfl, trivial⟩ ⟨⟨⟨rfl, rfl⟩, .inl rfl⟩, trivial⟩ (by simp [tupA, hpLt, tmLt, AV.lt, AE.lt, AC.lt, LL_cons, LL_nil, idOk, ABlk.lt, ints_LL, GB, tab64_LL, pC, castL, prs, tmV, tmH, tmK, qV, tH, tK, tV]) (by simp [tupA, hpLt, tmLt, AV.lt, AE.lt, AC.lt, LL_cons, LL_nil, idOk, ABlk.lt, ints_LL, GB, tab64_LL, pC, castL, prs, tmV, tmH, tmK, qV, tH, tK, tV]) rfl
theorem quietA_ns {n : Nat} {ws : List (Nat × Nat)} (h : Gr n ws) (own : Bool) (hw : ws.length ≤ 1000) (hT : qbA n (openR n ws own) = []) : FDet Tryd.prog 18 [.c (.int .i64 n), .c (.rs 0 0 ws.length), .c (.bool own)] [(0, .ro (ints (prs ws)))] 1 (.t [.c .nils, .c (.int .i64 0)]) [] 1 := by
  have := Quiet_any h own hw
  rw [qbA] at hT
  rw [hT] at this
  exact this
/-- The reference's basis, as a slice to read. -/
theorem rqA_rs {n : Nat} {L T : List Nat} (hL : ∀ j, L.getD j 0 < 2 ^ n) (hn : n ≤ 16) (hl : L.length = n) (hT : T = (rq L (2 ^ n)).1) (h0 : T ≠ []) : FDet Tryd.prog 20 [.c (.sl 0 0 n (some n))] [(0, .ro (ints (castL L)))] 1 (.c (.rs 1 0 T.length)) [(1, .row 3 1 (ints (castL T)))] 2 := by
  have := FDet.wk (refQuiet_spec hL hn hl) (args' := [.c (.sl 0 0 n (some n))]) (hp' := [(0, .ro (ints (castL L)))]) ⟨⟨rfl, rfl, rfl⟩, trivial⟩ ⟨.inl rfl, trivial⟩
  rw [← hT] at this
  cases T with
  | nil => exact absurd rfl h0
  | cons b T => exact FDet.post this _ _ ⟨⟨rfl, rfl, rfl⟩, trivial⟩ ⟨⟨⟨rfl, rfl⟩, .inl rfl⟩, trivial⟩ (by simp [tupA, hpLt, tmLt, AV.lt, AE.lt, AC.lt, LL_cons, LL_nil, idOk, ABlk.lt, ints_LL, GB, tab64_LL, pC, castL, prs, tmV, tmH, tmK, qV, tH, tK, tV]) (by simp [tupA, hpLt, tmLt, AV.lt, AE.lt, AC.lt, LL_cons, LL_nil, idOk, ABlk.lt, ints_LL, GB, tab64_LL, pC, castL, prs, tmV, tmH, tmK, qV, tH, tK, tV]) rfl
theorem rqA_ns {n : Nat} {L T : List Nat} (hL : ∀ j, L.getD j 0 < 2 ^ n) (hn : n ≤ 16) (hl : L.length = n) (hT : T = (rq L (2 ^ n)).1) (h0 : T = []) : FDet Tryd.prog 20 [.c (.sl 0 0 n (some n))] [(0, .ro (ints (castL L)))] 1 (.c .nils) [] 1 := by
  have := FDet.wk (refQuiet_spec hL hn hl) (args' := [.c (.sl 0 0 n (some n))]) (hp' := [(0, .ro (ints (castL L)))]) ⟨⟨rfl, rfl, rfl⟩, trivial⟩ ⟨.inl rfl, trivial⟩
  rw [← hT, h0] at this
  exact this
theorem intsA_nil : FDet Tryd.prog 19 [.c .nils, .c .nils] [(0, .ro (ints [])), (1, .ro (ints []))] 2 (.c (.bool true)) [] 2 :=
  FDet.wk (ints_same [] (by decide)) (args' := [.c .nils, .c .nils]) (hp' := [(0, .ro (ints [])), (1, .ro (ints []))]) ⟨rfl, rfl, trivial⟩ ⟨.inl rfl, .inl rfl, trivial⟩
theorem quiets_r (n : Int) (ws : List (Int × Int)) (w : Bool) (h4 : ws.length ≤ 9223372036854775807) (hP : tameP n ws 16 ≠ []) : FDet Tryd.prog 3 [.c (.int .i64 n), .c (.rs 0 0 ws.length), .c (.bool w)] [(0, .ro (ints (flI ws))), (100001, .ro tab64)] 1 (.c (.bool true)) [] 1 := by
  have hG := tame_gr n ws (most := 16) (by decide) (by decide)
  have hPl : (tameP n ws 16).length ≤ 1000 := by have := tameP_len n ws 16; omega
  have ht := tame_rs n ws (most := 16) (by decide) (by decide) h4 hP
  have hn16 := hG.n16
  have hn1 := hG.n1
  generalize tameP n ws 16 = P at *
  generalize tameN n 16 = N at *
  have nr := Near_spec hG w (by omega)
  have hbas : qbA N (openR N P w) = (rq (nearL N P w) (2 ^ N)).1 := basis_near hG w
  have hTs : (qbA N (openR N P w)).length ≤ 1000000 := by
    rw [hbas]
    have := rq_len (nearL N P w) (2 ^ N)
    have := (Nat.pow_le_pow_right (by omega) hn16 : 2 ^ N ≤ 2 ^ 16)
    omega
  have rr := rqA_rs (nearL_lt hG w) hn16 (nearL_len _ _ _) hbas
  have rn := rqA_ns (nearL_lt hG w) hn16 (nearL_len _ _ _) hbas
  have qr := quietA_rs hG w (by omega)
  have qn := quietA_ns hG w (by omega)
  generalize qbA N (openR N P w) = T at *
  generalize nearL N P w = NL at *
  have hTl : (ints (castL T)).length = T.length := by rw [ints_len, castL_len]
  by_cases hT : T = []
  · skip
    have qc := qn hT
    have rc := rn hT
    clear qr qn rr rn
    subst hT
    refine FSpec.body2 tok true Tryd.func3 ?_
    refine Wk.on ?_
    refine CallA.det2 [0] (.t [.c (.int .i64 N), .c (.rs 1 0 P.length)]) ([(0, .ro (ints (flI ws))), (100001, .ro tab64), (1, .row 38 2 (ints (prs P)))]) (ht) ?_
    refine Wk.on ?_
    refine CallA.ro2 [1] (.t [.c .nils, .c (.int .i64 0)]) (qc) ?_
    refine Wk.on ?_
    refine CallA.det2 [1] (.c (.sl 2 0 N (some N))) ([(0, .ro (ints (flI ws))), (100001, .ro tab64), (1, .row 38 2 (ints (prs P))), (2, .own (ints (castL NL)))]) (nr) ?_
    refine Wk.on ?_
    refine CallA.ro2 [2] (.c .nils) (rc) ?_
    refine Wk.on ?_
    refine CallA.ro2 [0, 0] (.c (.bool true)) (intsA_nil) ?_
    refine Wk.on ?_
    refine CallA.ro2 [] (.c (.bool true)) (awake_spec) ?_
    refine Wk.on ?_
    exact AH.Fin.nil2 ⟨rfl, rfl, rfl⟩
  · skip
    have qc := qr hT
    have rc := rr hT
    clear qr qn rr rn
    have sm : FDet Tryd.prog 19 [.c (.rs 0 0 T.length), .c (.rs 1 0 T.length)] [(0, .ro (ints (castL T))), (1, .ro (ints (castL T)))] 2 (.c (.bool true)) [] 2 := by
      have := ints_same (castL T) (by rw [castL_len]; omega)
      rwa [castL_len] at this
    refine FSpec.body2 tok true Tryd.func3 ?_
    refine Wk.on ?_
    refine CallA.det2 [0] (.t [.c (.int .i64 N), .c (.rs 1 0 P.length)]) ([(0, .ro (ints (flI ws))), (100001, .ro tab64), (1, .row 38 2 (ints (prs P)))]) (ht) ?_
    refine Wk.on ?_
    refine CallA.det2 [1] (.t [.c (.rs 2 0 T.length), .c (.int .i64 0)]) ([(0, .ro (ints (flI ws))), (100001, .ro tab64), (1, .row 38 2 (ints (prs P))), (2, .row 3 1 (ints (castL T)))]) (qc) ?_
    refine Wk.on ?_
    refine CallA.det2 [1] (.c (.sl 3 0 N (some N))) ([(0, .ro (ints (flI ws))), (100001, .ro tab64), (1, .row 38 2 (ints (prs P))), (2, .row 3 1 (ints (castL T))), (3, .own (ints (castL NL)))]) (nr) ?_
    refine Wk.on ?_
    refine CallA.det2 [3] (.c (.rs 4 0 T.length)) ([(0, .ro (ints (flI ws))), (100001, .ro tab64), (1, .row 38 2 (ints (prs P))), (2, .row 3 1 (ints (castL T))), (3, .own (ints (castL NL))), (4, .row 3 1 (ints (castL T)))]) (rc) ?_
    refine Wk.on ?_
    refine CallA.ro2 [2, 4] (.c (.bool true)) (sm) ?_
    refine Wk.on ?_
    refine CallA.ro2 [] (.c (.bool true)) (awake_spec) ?_
    refine Wk.on ?_
    exact AH.Fin.nil2 ⟨rfl, rfl, rfl⟩
theorem quiets_n (n : Int) (ws : List (Int × Int)) (w : Bool) (h4 : ws.length ≤ 9223372036854775807) (hP : tameP n ws 16 = []) : FDet Tryd.prog 3 [.c (.int .i64 n), .c (.rs 0 0 ws.length), .c (.bool w)] [(0, .ro (ints (flI ws))), (100001, .ro tab64)] 1 (.c (.bool true)) [] 1 := by
  have hG := tame_gr n ws (most := 16) (by decide) (by decide)
  have hPl : (tameP n ws 16).length ≤ 1000 := by have := tameP_len n ws 16; omega
  have ht := tame_ns n ws (most := 16) (by decide) (by decide) h4 hP
  have hn16 := hG.n16
  have hn1 := hG.n1
  rw [hP] at ht hG hPl
  generalize tameN n 16 = N at *
  have nr := Near_spec hG w (by omega)
  have hbas : qbA N (openR N [] w) = (rq (nearL N [] w) (2 ^ N)).1 := basis_near hG w
  have hTs : (qbA N (openR N [] w)).length ≤ 1000000 := by
    rw [hbas]
    have := rq_len (nearL N [] w) (2 ^ N)
    have := (Nat.pow_le_pow_right (by omega) hn16 : 2 ^ N ≤ 2 ^ 16)
    omega
  have rr := rqA_rs (nearL_lt hG w) hn16 (nearL_len _ _ _) hbas
  have rn := rqA_ns (nearL_lt hG w) hn16 (nearL_len _ _ _) hbas
  have qr := quietA_rs hG w (by omega)
  have qn := quietA_ns hG w (by omega)
  generalize qbA N (openR N [] w) = T at *
  generalize nearL N [] w = NL at *
  have hTl : (ints (castL T)).length = T.length := by rw [ints_len, castL_len]
  by_cases hT : T = []
  · skip
    have qc := qn hT
    have rc := rn hT
    clear qr qn rr rn
    subst hT
    refine FSpec.body2 tok true Tryd.func3 ?_
    refine Wk.on ?_
    refine CallA.det2 [0] (.t [.c (.int .i64 N), .c (.rs 0 0 0)]) ([(0, .ro (ints (flI ws))), (100001, .ro tab64)]) (ht) ?_
    refine Wk.on ?_
    refine CallA.ro2 [0] (.t [.c .nils, .c (.int .i64 0)]) (qc) ?_
    refine Wk.on ?_
    refine CallA.det2 [0] (.c (.sl 1 0 N (some N))) ([(0, .ro (ints (flI ws))), (100001, .ro tab64), (1, .own (ints (castL NL)))]) (nr) ?_
    refine Wk.on ?_
    refine CallA.ro2 [1] (.c .nils) (rc) ?_
    refine Wk.on ?_
    refine CallA.ro2 [0, 0] (.c (.bool true)) (intsA_nil) ?_
    refine Wk.on ?_
    refine CallA.ro2 [] (.c (.bool true)) (awake_spec) ?_
    refine Wk.on ?_
    exact AH.Fin.nil2 ⟨rfl, rfl, rfl⟩
  · skip
    have qc := qr hT
    have rc := rr hT
    clear qr qn rr rn
    have sm : FDet Tryd.prog 19 [.c (.rs 0 0 T.length), .c (.rs 1 0 T.length)] [(0, .ro (ints (castL T))), (1, .ro (ints (castL T)))] 2 (.c (.bool true)) [] 2 := by
      have := ints_same (castL T) (by rw [castL_len]; omega)
      rwa [castL_len] at this
    refine FSpec.body2 tok true Tryd.func3 ?_
    refine Wk.on ?_
    refine CallA.det2 [0] (.t [.c (.int .i64 N), .c (.rs 0 0 0)]) ([(0, .ro (ints (flI ws))), (100001, .ro tab64)]) (ht) ?_
    refine Wk.on ?_
    refine CallA.det2 [0] (.t [.c (.rs 1 0 T.length), .c (.int .i64 0)]) ([(0, .ro (ints (flI ws))), (100001, .ro tab64), (1, .row 3 1 (ints (castL T)))]) (qc) ?_
    refine Wk.on ?_
    refine CallA.det2 [0] (.c (.sl 2 0 N (some N))) ([(0, .ro (ints (flI ws))), (100001, .ro tab64), (1, .row 3 1 (ints (castL T))), (2, .own (ints (castL NL)))]) (nr) ?_
    refine Wk.on ?_
    refine CallA.det2 [2] (.c (.rs 3 0 T.length)) ([(0, .ro (ints (flI ws))), (100001, .ro tab64), (1, .row 3 1 (ints (castL T))), (2, .own (ints (castL NL))), (3, .row 3 1 (ints (castL T)))]) (rc) ?_
    refine Wk.on ?_
    refine CallA.ro2 [1, 3] (.c (.bool true)) (sm) ?_
    refine Wk.on ?_
    refine CallA.ro2 [] (.c (.bool true)) (awake_spec) ?_
    refine Wk.on ?_
    exact AH.Fin.nil2 ⟨rfl, rfl, rfl⟩
theorem quiets_all (n : Int) (ws : List (Int × Int)) (w : Bool) (h4 : ws.length ≤ 9223372036854775807) : FDet Tryd.prog 3 [.c (.int .i64 n), .c (.rs 0 0 ws.length), .c (.bool w)] [(0, .ro (ints (flI ws))), (100001, .ro tab64)] 1 (.c (.bool true)) [] 1 := by
  by_cases h : tameP n ws 16 = []
  · exact quiets_n n ws w h4 h
  · exact quiets_r n ws w h4 h
end Go.Proofs.YtimknijehaamlaaDoor
