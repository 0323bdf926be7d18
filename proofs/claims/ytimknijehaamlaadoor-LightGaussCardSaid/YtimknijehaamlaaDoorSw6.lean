/-
  Contract: LightGauss.
-/
import Derived.Test.YtimknijehaamlaaDoorSw5
import Derived.Test.YtimknijehaamlaaDoorCards
import Derived.Test.YtimknijehaamlaaDoorTie
import Derived.WalkKit
import Derived.ProofKit
import Derived.OpenShut
import Derived.Deep.DeepHandedRow
import Derived.Lib.LaidTab
import Derived.Stop.LaidErr
set_option linter.unusedSimpArgs false
set_option linter.unusedVariables false
namespace Go.Proofs.YtimknijehaamlaaDoor
open Go Go.AH Go.Lin
set_option maxRecDepth 100000
set_option maxHeartbeats 1000000

def gaSt (N a k fw : Nat) (ev qv : AC) (hp : List (Nat × ABlk)) (nx : Nat) : Nat × Nat → AS
  | (j, y) => ⟨[(0, .c (.int .i64 N)), (5, .c (.ptr 1 0)), (7, .c ev), (8, .c (.int .i64 a)), (9, .c (.int .i64 k)), (10, .c qv), (14, .c (.int .i64 y)), (17, .c (.int .i64 fw)), (20, .c (.int .i64 j))], hp, nx, 163, 1⟩
/-- The quiet basis. -/
def qbN (n : Nat) (rows : List Nat) : List Nat := (tidyD (qsR n rows)).reverse
theorem quiet_rs {n : Nat} {ws : List (Nat × Nat)} (h : Gr n ws) (hn12 : n ≤ 12) (own : Bool) (hw : ws.length ≤ 1000) (hT : qbN n (openR n ws own) ≠ []) : FDet Tryd.prog 18 [.c (.int .i64 n), .c (.rs 0 0 ws.length), .c (.bool own)] [(0, .ro (ints (prs ws)))] 1 (.t [.c (.rs 1 0 (qbN n (openR n ws own)).length), .c (.int .i64 0)]) [(1, .row 3 1 (ints (castL (qbN n (openR n ws own)))))] 2 := by
  have := Quiet_spec h hn12 own hw
  rw [qbN] at hT ⊢
  generalize (tidyD (qsR n (openR n ws own))).reverse = T at *
  cases T with
  | nil => exact absurd rfl hT
  | cons b L => exact FDet.post this _ _ ⟨⟨⟨rfl, rfl, rfl⟩, trivial⟩, rfl, trivial⟩ ⟨⟨⟨rfl, rfl⟩, .inl rfl⟩, trivial⟩ (by simp [tupA, hpLt, tmLt, AV.lt, AE.lt, AC.lt, LL_cons, LL_nil, idOk, ABlk.lt, ints_LL, GB, tab64_LL, pC, castL, prs, tmV, tmH, tmK, qV, tH, tK, gaSt]) (by simp [tupA, hpLt, tmLt, AV.lt, AE.lt, AC.lt, LL_cons, LL_nil, idOk, ABlk.lt, ints_LL, GB, tab64_LL, pC, castL, prs, tmV, tmH, tmK, qV, tH, tK, gaSt]) rfl
theorem quiet_ns {n : Nat} {ws : List (Nat × Nat)} (h : Gr n ws) (hn12 : n ≤ 12) (own : Bool) (hw : ws.length ≤ 1000) (hT : qbN n (openR n ws own) = []) : FDet Tryd.prog 18 [.c (.int .i64 n), .c (.rs 0 0 ws.length), .c (.bool own)] [(0, .ro (ints (prs ws)))] 1 (.t [.c .nils, .c (.int .i64 0)]) [] 1 := by
  have := Quiet_spec h hn12 own hw
  rw [qbN] at hT
  rw [hT] at this
  exact this
theorem gauss_plain {n : Nat} {ws : List (Nat × Nat)} (h : Gr n ws) (own : Bool) : (bsR n (openR n ws own)).length + (qbN n (openR n ws own)).length = n ∧ ∀ q ∈ qbN n (openR n ws own), q < 2 ^ n ∧ eff (openR n ws own) q = 0 := by
  have hS := openR_Sym h own
  have hI := inv_all (openR n ws own) n hS.len
  refine ⟨?_, fun q hq => ?_⟩
  · have := tidy_len hI
    have := hI.len
    rw [qbN, List.length_reverse]
    show (reducedP (openR n ws own) n).1.length + (tidyD (reducedP (openR n ws own) n).2).length = n
    omega
  · rw [qbN, List.mem_reverse] at hq
    exact hI.quiet.1 (((tidy_all (qsR n (openR n ws own))).2.2 q).1 (Span.mem hq))
theorem xorW {a b : Nat} (ha : a < 65536) (hb : b < 65536) : IntKind.i64.wrap ((BitVec.ofInt IntKind.i64.bits (a : Int) ^^^ BitVec.ofInt IntKind.i64.bits (b : Int)).toNat) = ((a ^^^ b : Nat) : Int) := by
  have h1 : (BitVec.ofInt IntKind.i64.bits (a : Int)).toNat = a := by
    show (BitVec.ofInt 64 (a : Int)).toNat = a
    simp [BitVec.toNat_ofInt]; omega
  have h2 : (BitVec.ofInt IntKind.i64.bits (b : Int)).toNat = b := by
    show (BitVec.ofInt 64 (b : Int)).toNat = b
    simp [BitVec.toNat_ofInt]; omega
  rw [BitVec.toNat_xor, h1, h2]
  have : a ^^^ b < 65536 := Nat.xor_lt_two_pow (n := 16) ha hb
  exact wrapI (by omega)
theorem tmod60 (j : Nat) : ((j : Nat) : Int).tmod 60 = ((j % 60 : Nat) : Int) := rfl
theorem gauss_r (n : Int) (ws : List (Int × Int)) (o0 o1 : Int) (h4 : ws.length ≤ 9223372036854775807) (hP : tameP n ws 12 ≠ []) : FDet Tryd.prog 12 [.c (.int .i64 n), .c (.rs 0 0 ws.length), .g [.int .i64 o0, .int .i64 o1]] [(0, .ro (ints (flI ws))), (100001, .ro tab64)] 1 (.c (.bool true)) [] 1 := by
  have hG := tame_gr n ws (most := 12) (by decide) (by decide)
  have hN12 : tameN n 12 ≤ 12 := by unfold tameN; have := um_lt n (n := 12) (by decide); omega
  have hPl : (tameP n ws 12).length ≤ 1000 := by have := tameP_len n ws 12; omega
  have ht := tame_rs n ws (most := 12) (by decide) (by decide) h4 hP
  have hn16 := hG.n16
  have hn1 := hG.n1
  generalize tameP n ws 12 = P at *
  generalize tameN n 12 = N at *
  have ha := set_spec o0 hn16
  have ha2 := setN_lt o0 N
  generalize setN o0 N = a at *
  have hp16 : 2 ^ N ≤ 65536 := (Nat.pow_le_pow_right (by omega) hn16 : 2 ^ N ≤ 2 ^ 16)
  obtain ⟨Q, hQ⟩ : ∃ q, q = 2 ^ N := ⟨_, rfl⟩
  have hQ2 : Q ≤ 65536 := by omega
  have hsh : IntKind.i64.wrap ((1 : Int) * 2 ^ min (Int.toNat ((N : Nat) : Int)) IntKind.i64.bits) = (Q : Int) := by
    rw [Int.toNat_natCast, show min N IntKind.i64.bits = N from Nat.min_eq_left (by show N ≤ 64; omega), show (1 : Int) * 2 ^ N = ((Q : Nat) : Int) by simp [hQ]]
    exact wrapI (by omega)
  refine FSpec.body2 tok false Tryd.func12 ?_
  refine Wk.on ?_
  refine CallA.det2 [0] (.t [.c (.int .i64 N), .c (.rs 2 0 P.length)]) ([(1, .own [.int .i64 o0, .int .i64 o1]), (0, .ro (ints (flI ws))), (100001, .ro tab64), (2, .row 38 2 (ints (prs P)))]) (ht) ?_
  refine Wk.on ?_
  refine CallA.ro2 [] (.c (.int .i64 a)) (ha) ?_
  refine Wk.on ?_
  refine Tr.loop (md := false) (X := Nat) (st := fun k => ⟨[(0, .c (.int .i64 N)), (5, .c (.ptr 1 0)), (7, .c (.rs 2 0 P.length)), (8, .c (.int .i64 a)), (9, .c (.int .i64 k))], [(1, .own [.int .i64 o0, .int .i64 o1]), (2, .row 38 2 (ints (prs P))), (100001, .ro tab64)], 3, 163, 1⟩) (inv := fun k => k ≤ 2) (μ := fun k => 2 - k) (x0 := 0) (l := []) tok (by omega) ?_ ?_
  · exact Sub.nil ⟨rfl, rfl, (by simp [tab64_LL, pC, castL, prs, tmV, tmH, tmK, qV, tH, tK, gaSt]), rfl, (by simp [tupA, hpLt, tmLt, AV.lt, AE.lt, AC.lt, LL_cons, LL_nil, idOk, ABlk.lt, ints_LL, GB, tab64_LL, pC, castL, prs, tmV, tmH, tmK, qV, tH, tK, gaSt]), (by simp [tupA, hpLt, tmLt, AV.lt, AE.lt, AC.lt, LL_cons, LL_nil, idOk, ABlk.lt, ints_LL, GB, tab64_LL, pC, castL, prs, tmV, tmH, tmK, qV, tH, tK, gaSt])⟩ (by (repeat (first | exact trivial | refine ⟨trivial, ?_⟩ | refine ⟨rfl, ?_⟩))) (by (repeat (first | exact trivial | refine ⟨trivial, ?_⟩ | refine ⟨rfl, ?_⟩)))
  intro k hk
  by_cases hk2 : k < 2
  · obtain ⟨w, hw⟩ : ∃ w : Bool, w = decide (((k : Nat) : Int) = 0) := ⟨_, rfl⟩
    have hk1 : IntKind.i64.wrap (((k : Nat) : Int) + 1) = ((k + 1 : Nat) : Int) := by rw [show ((k : Nat) : Int) + 1 = ((k + 1 : Nat) : Int) by omega]; exact wrapI (by omega)
    have e0 := Reachable_spec hG w hPl
    have e1 := Solve_spec hG w hPl ha2
    have e2 := Fewest_spec hG w hPl ha2
    obtain ⟨s1, s2⟩ := solve_plain hG w a
    obtain ⟨g1, g2⟩ := gauss_plain hG w
    have hI := inv_all (openR N P w) N (openR_Sym hG w).len
    have ef : ∀ {x : Nat}, x < 2 ^ N → _ := fun {x} hx => Effect_spec hG w hPl (x := x) hx
    have few : (solP (bsR N (openR N P w)) a).2 = 0 → fewN N (openR N P w) a < 2 ^ N ∧ ∀ x, x < 2 ^ N → eff (openR N P w) x = a → ¬ pop x < pop (fewN N (openR N P w) a) := fun hz => by
      have hf := hI.fewest hz pop
      have hfe : fewN N (openR N P w) a = fewF pop (solP (bsR N (openR N P w)) a).1 ((List.range (2 ^ (qsR N (openR N P w)).length)).map (sumC (qsR N (openR N P w)))) := by rw [fewN, if_pos hz]
      rw [hfe]
      refine ⟨hf.is.1, fun x hx hex hlt => hf.le x ⟨hx, hex⟩ ?_⟩
      rw [lessB_iff]
      exact .inl hlt
    have hBl : (bsR N (openR N P w)).length ≤ 12 := by omega
    obtain ⟨M, hM⟩ : ∃ m, m = 2 ^ (bsR N (openR N P w)).length := ⟨_, rfl⟩
    have hM2 : M ≤ 4096 := by rw [hM]; exact (Nat.pow_le_pow_right (by omega) hBl : 2 ^ _ ≤ 2 ^ 12)
    have hsb : IntKind.i64.wrap (((N : Nat) : Int) - ((qbN N (openR N P w)).length : Nat)) = ((bsR N (openR N P w)).length : Nat) := by
      rw [show ((N : Nat) : Int) - ((qbN N (openR N P w)).length : Nat) = ((bsR N (openR N P w)).length : Nat) by omega]
      exact wrapI (by omega)
    have hshM : IntKind.i64.wrap ((1 : Int) * 2 ^ min (Int.toNat ((bsR N (openR N P w)).length : Nat)) IntKind.i64.bits) = (M : Int) := by
      rw [Int.toNat_natCast, show min (bsR N (openR N P w)).length IntKind.i64.bits = (bsR N (openR N P w)).length from Nat.min_eq_left (by show _ ≤ 64; omega), show (1 : Int) * 2 ^ (bsR N (openR N P w)).length = ((M : Nat) : Int) by simp [hM]]
      exact wrapI (by omega)
    rw [← hM] at e0
    have qr := quiet_rs hG hN12 w hPl
    have qn := quiet_ns hG hN12 w hPl
    generalize fewN N (openR N P w) a = fw at *
    generalize bsR N (openR N P w) = BB at *
    generalize qbN N (openR N P w) = T at *
    generalize openR N P w = rows at *
    have hTl : (ints (castL T)).length = T.length := by rw [ints_len, castL_len]
    by_cases hT : T = []
    · have qc := qn hT
      subst hT
      clear qr qn
      have hsb : IntKind.i64.wrap (((N : Nat) : Int) - 0) = ((BB.length : Nat) : Int) := by simpa using hsb
      refine Wk.on ?_
      rw [decide_eq_true (show ((k : Nat) : Int) < 2 by omega)]
      refine Wk.on ?_
      rw [← hw]
      refine CallA.ro2 [2] (.t [.c .nils, .c (.int .i64 0)]) (qc) ?_
      refine Wk.on ?_
      rw [← hw]
      refine CallA.ro2 [2] (.t [.c (.int .i64 M), .c (.int .i64 0)]) (e0) ?_
      refine Wk.on ?_
      rw [decide_eq_false (show ¬ ((N : Nat) : Int) < (0 : Int) by omega)]
      refine Wk.on ?_
      rw [hsb]
      refine Wk.on ?_
      rw [hshM]
      refine Wk.on ?_
      rw [decide_eq_false (show ¬ ((M : Nat) : Int) ≠ ((M : Nat) : Int) by omega)]
      refine Wk.on ?_
      intro _
      refine Wk.on ?_
      rw [← hw]
      by_cases hz : (solP BB a).2 = 0
      · obtain ⟨f1, f2⟩ := few hz
        have s3 := s2 hz
        rw [if_pos hz, decide_eq_true hz] at e1
        rw [decide_eq_true hz] at e2
        generalize (solP BB a).1 = s at *
        refine CallA.ro2 [2] (.t [.c (.int .i64 s), .c (.bool true), .c (.int .i64 0)]) (e1) ?_
        refine Wk.on ?_
        rw [← hw]
        refine CallA.ro2 [2] (.t [.c (.int .i64 fw), .c (.bool true), .c (.int .i64 0)]) (e2) ?_
        refine Wk.on ?_
        refine Tr.loop (md := false) (X := Nat × Nat) (st := gaSt N a k fw (.rs 2 0 P.length) (.nils) [(1, .own [.int .i64 o0, .int .i64 o1]), (2, .row 38 2 (ints (prs P))), (100001, .ro tab64)] 3) (inv := fun q => q.1 = 0 ∧ q.2 < 2 ^ N ∧ eff rows q.2 = a) (μ := fun q => 0) (x0 := (0, s)) (l := []) tok ⟨rfl, s1, s3⟩ ?_ ?_
        · exact Sub.nil ⟨rfl, rfl, (by simp [tab64_LL, pC, castL, prs, tmV, tmH, tmK, qV, tH, tK, gaSt]), rfl, (by simp [tupA, hpLt, tmLt, AV.lt, AE.lt, AC.lt, LL_cons, LL_nil, idOk, ABlk.lt, ints_LL, GB, tab64_LL, pC, castL, prs, tmV, tmH, tmK, qV, tH, tK, gaSt]), (by simp [tupA, hpLt, tmLt, AV.lt, AE.lt, AC.lt, LL_cons, LL_nil, idOk, ABlk.lt, ints_LL, GB, tab64_LL, pC, castL, prs, tmV, tmH, tmK, qV, tH, tK, gaSt])⟩ (by (repeat (first | exact trivial | refine ⟨trivial, ?_⟩ | refine ⟨rfl, ?_⟩))) (by (repeat (first | exact trivial | refine ⟨trivial, ?_⟩ | refine ⟨rfl, ?_⟩)))
        rintro ⟨j, y⟩ ⟨hj, y1, y2⟩
        dsimp only at hj y1 y2
        have y4 := f2 y y1 y2
        have y3 := ef y1
        rw [y2] at y3
        have y0 := y1
        rw [← hQ] at y1 f1
        have py := Size_spec (x := y) (by omega)
        have pf := Size_spec (x := fw) (by omega)
        subst hj
        refine Wk.on ?_
        rw [decide_eq_false (show ¬ ((0 : Nat) : Int) < 0 by omega)]
        refine Wk.on ?_
        rw [decide_eq_false (show ¬ ((y : Nat) : Int) < 0 by omega)]
        refine Wk.on ?_
        rw [hsh]
        refine Wk.on ?_
        rw [decide_eq_false (show ¬ ((Q : Nat) : Int) ≤ ((y : Nat) : Int) by omega)]
        refine Wk.on ?_
        rw [decide_eq_false (show ¬ ((fw : Nat) : Int) < 0 by omega)]
        refine Wk.on ?_
        rw [hsh]
        refine Wk.on ?_
        rw [decide_eq_false (show ¬ ((Q : Nat) : Int) ≤ ((fw : Nat) : Int) by omega)]
        refine Wk.on ?_
        refine CallA.ro2 [] (.c (.int .i64 (pop fw : Nat))) (pf) ?_
        refine Wk.on ?_
        refine CallA.ro2 [] (.c (.int .i64 (pop y : Nat))) (py) ?_
        refine Wk.on ?_
        rw [decide_eq_false (show ¬ ((pop y : Nat) : Int) < ((pop fw : Nat) : Int) by omega)]
        refine Wk.on ?_
        rw [← hw]
        refine CallA.ro2 [2] (.t [.c (.int .i64 a), .c (.int .i64 0)]) (y3) ?_
        refine Wk.on ?_
        rw [decide_eq_false (show ¬ ((a : Nat) : Int) ≠ ((a : Nat) : Int) by omega)]
        refine Wk.on ?_
        intro _
        refine Wk.on ?_
        rw [hk1]
        refine Again.mk (k + 1) (Sub.nil ⟨rfl, rfl, (by simp [tab64_LL, pC, castL, prs, tmV, tmH, tmK, qV, tH, tK, gaSt]), rfl, (by simp [tupA, hpLt, tmLt, AV.lt, AE.lt, AC.lt, LL_cons, LL_nil, idOk, ABlk.lt, ints_LL, GB, tab64_LL, pC, castL, prs, tmV, tmH, tmK, qV, tH, tK, gaSt]), (by simp [tupA, hpLt, tmLt, AV.lt, AE.lt, AC.lt, LL_cons, LL_nil, idOk, ABlk.lt, ints_LL, GB, tab64_LL, pC, castL, prs, tmV, tmH, tmK, qV, tH, tK, gaSt])⟩ (by (repeat (first | exact trivial | refine ⟨trivial, ?_⟩ | refine ⟨rfl, ?_⟩))) (by (repeat (first | exact trivial | refine ⟨trivial, ?_⟩ | refine ⟨rfl, ?_⟩)))) (by omega) (by omega)
      · rw [if_neg hz, decide_eq_false hz] at e1
        rw [decide_eq_false hz] at e2
        refine CallA.ro2 [2] (.t [.c (.int .i64 0), .c (.bool false), .c (.int .i64 0)]) (e1) ?_
        refine Wk.on ?_
        rw [← hw]
        refine CallA.ro2 [2] (.t [.c (.int .i64 fw), .c (.bool false), .c (.int .i64 0)]) (e2) ?_
        refine Wk.on ?_
        rw [hk1]
        refine Wk.on ?_
        refine Again.mk (k + 1) (Sub.nil ⟨rfl, rfl, (by simp [tab64_LL, pC, castL, prs, tmV, tmH, tmK, qV, tH, tK, gaSt]), rfl, (by simp [tupA, hpLt, tmLt, AV.lt, AE.lt, AC.lt, LL_cons, LL_nil, idOk, ABlk.lt, ints_LL, GB, tab64_LL, pC, castL, prs, tmV, tmH, tmK, qV, tH, tK, gaSt]), (by simp [tupA, hpLt, tmLt, AV.lt, AE.lt, AC.lt, LL_cons, LL_nil, idOk, ABlk.lt, ints_LL, GB, tab64_LL, pC, castL, prs, tmV, tmH, tmK, qV, tH, tK, gaSt])⟩ (by (repeat (first | exact trivial | refine ⟨trivial, ?_⟩ | refine ⟨rfl, ?_⟩))) (by (repeat (first | exact trivial | refine ⟨trivial, ?_⟩ | refine ⟨rfl, ?_⟩)))) (by omega) (by omega)
    · have qc := qr hT
      clear qr qn
      refine Wk.on ?_
      rw [decide_eq_true (show ((k : Nat) : Int) < 2 by omega)]
      refine Wk.on ?_
      rw [← hw]
      refine CallA.det2 [2] (.t [.c (.rs 3 0 T.length), .c (.int .i64 0)]) ([(1, .own [.int .i64 o0, .int .i64 o1]), (2, .row 38 2 (ints (prs P))), (100001, .ro tab64), (3, .row 3 1 (ints (castL T)))]) (qc) ?_
      refine Wk.on ?_
      rw [← hw]
      refine CallA.ro2 [2] (.t [.c (.int .i64 M), .c (.int .i64 0)]) (e0) ?_
      refine Wk.on ?_
      rw [decide_eq_false (show ¬ ((N : Nat) : Int) < ((T.length : Nat) : Int) by omega)]
      refine Wk.on ?_
      rw [hsb]
      refine Wk.on ?_
      rw [hshM]
      refine Wk.on ?_
      rw [decide_eq_false (show ¬ ((M : Nat) : Int) ≠ ((M : Nat) : Int) by omega)]
      refine Wk.on ?_
      intro _
      refine Wk.on ?_
      rw [← hw]
      by_cases hz : (solP BB a).2 = 0
      · obtain ⟨f1, f2⟩ := few hz
        have s3 := s2 hz
        rw [if_pos hz, decide_eq_true hz] at e1
        rw [decide_eq_true hz] at e2
        generalize (solP BB a).1 = s at *
        refine CallA.ro2 [2] (.t [.c (.int .i64 s), .c (.bool true), .c (.int .i64 0)]) (e1) ?_
        refine Wk.on ?_
        rw [← hw]
        refine CallA.ro2 [2] (.t [.c (.int .i64 fw), .c (.bool true), .c (.int .i64 0)]) (e2) ?_
        refine Wk.on ?_
        refine Tr.loop (md := false) (X := Nat × Nat) (st := gaSt N a k fw (.rs 2 0 P.length) (.rs 3 0 T.length) [(1, .own [.int .i64 o0, .int .i64 o1]), (2, .row 38 2 (ints (prs P))), (100001, .ro tab64), (3, .row 3 1 (ints (castL T)))] 4) (inv := fun q => q.1 ≤ T.length ∧ q.2 < 2 ^ N ∧ eff rows q.2 = a) (μ := fun q => T.length - q.1) (x0 := (0, s)) (l := []) tok ⟨by show 0 ≤ _; omega, s1, s3⟩ ?_ ?_
        · exact Sub.nil ⟨rfl, rfl, (by simp [tab64_LL, pC, castL, prs, tmV, tmH, tmK, qV, tH, tK, gaSt]), rfl, (by simp [tupA, hpLt, tmLt, AV.lt, AE.lt, AC.lt, LL_cons, LL_nil, idOk, ABlk.lt, ints_LL, GB, tab64_LL, pC, castL, prs, tmV, tmH, tmK, qV, tH, tK, gaSt]), (by simp [tupA, hpLt, tmLt, AV.lt, AE.lt, AC.lt, LL_cons, LL_nil, idOk, ABlk.lt, ints_LL, GB, tab64_LL, pC, castL, prs, tmV, tmH, tmK, qV, tH, tK, gaSt])⟩ (by (repeat (first | exact trivial | refine ⟨trivial, ?_⟩ | refine ⟨rfl, ?_⟩))) (by (repeat (first | exact trivial | refine ⟨trivial, ?_⟩ | refine ⟨rfl, ?_⟩)))
        rintro ⟨j, y⟩ ⟨hj, y1, y2⟩
        dsimp only at hj y1 y2
        have y4 := f2 y y1 y2
        have y3 := ef y1
        rw [y2] at y3
        have y0 := y1
        rw [← hQ] at y1 f1
        have py := Size_spec (x := y) (by omega)
        have pf := Size_spec (x := fw) (by omega)
        by_cases hjl : j < T.length
        · obtain ⟨g, hg⟩ : ∃ g, g = T.getD j 0 := ⟨_, rfl⟩
          have hgm : g ∈ T := by rw [hg, List.getD_eq_getElem?_getD, List.getElem?_eq_getElem hjl]; exact List.getElem_mem hjl
          obtain ⟨gl, ge⟩ := g2 g hgm
          have hj1 : IntKind.i64.wrap (((j : Nat) : Int) + 1) = ((j + 1 : Nat) : Int) := by rw [show ((j : Nat) : Int) + 1 = ((j + 1 : Nat) : Int) by omega]; exact wrapI (by omega)
          have hxo : IntKind.i64.wrap ((BitVec.ofInt IntKind.i64.bits (y : Int) ^^^ BitVec.ofInt IntKind.i64.bits (g : Int)).toNat) = ((y ^^^ g : Nat) : Int) := xorW (by omega) (by omega)
          refine Wk.on ?_
          rw [decide_eq_true (show ((j : Nat) : Int) < ((T.length : Nat) : Int) by omega)]
          refine Wk.on ?_
          rw [tmod60]
          refine Wk.on ?_
          obtain ⟨u, hu⟩ : ∃ u : Bool, u = decide (Int.tmod (o1.fdiv (2 ^ min (Int.toNat ((j % 60 : Nat) : Int)) IntKind.i64.bits)) 2 ≠ 0) := ⟨_, rfl⟩
          rw [← hu]
          cases u
          · skip
            refine Wk.on ?_
            rw [hj1]
            exact Again.mk (j + 1, y) (Sub.nil ⟨rfl, rfl, (by simp [tab64_LL, pC, castL, prs, tmV, tmH, tmK, qV, tH, tK, gaSt]), rfl, (by simp [tupA, hpLt, tmLt, AV.lt, AE.lt, AC.lt, LL_cons, LL_nil, idOk, ABlk.lt, ints_LL, GB, tab64_LL, pC, castL, prs, tmV, tmH, tmK, qV, tH, tK, gaSt]), (by simp [tupA, hpLt, tmLt, AV.lt, AE.lt, AC.lt, LL_cons, LL_nil, idOk, ABlk.lt, ints_LL, GB, tab64_LL, pC, castL, prs, tmV, tmH, tmK, qV, tH, tK, gaSt])⟩ (by (repeat (first | exact trivial | refine ⟨trivial, ?_⟩ | refine ⟨rfl, ?_⟩))) (by (repeat (first | exact trivial | refine ⟨trivial, ?_⟩ | refine ⟨rfl, ?_⟩)))) ⟨by show j + 1 ≤ _; omega, y0, y2⟩ (by show T.length - (j + 1) < T.length - j; omega)
          · skip
            refine Wk.on ?_
            rw [cget, ← hg]
            refine Wk.on ?_
            rw [hxo]
            refine Wk.on ?_
            rw [hj1]
            exact Again.mk (j + 1, y ^^^ g) (Sub.nil ⟨rfl, rfl, (by simp [tab64_LL, pC, castL, prs, tmV, tmH, tmK, qV, tH, tK, gaSt]), rfl, (by simp [tupA, hpLt, tmLt, AV.lt, AE.lt, AC.lt, LL_cons, LL_nil, idOk, ABlk.lt, ints_LL, GB, tab64_LL, pC, castL, prs, tmV, tmH, tmK, qV, tH, tK, gaSt]), (by simp [tupA, hpLt, tmLt, AV.lt, AE.lt, AC.lt, LL_cons, LL_nil, idOk, ABlk.lt, ints_LL, GB, tab64_LL, pC, castL, prs, tmV, tmH, tmK, qV, tH, tK, gaSt])⟩ (by (repeat (first | exact trivial | refine ⟨trivial, ?_⟩ | refine ⟨rfl, ?_⟩))) (by (repeat (first | exact trivial | refine ⟨trivial, ?_⟩ | refine ⟨rfl, ?_⟩)))) ⟨by show j + 1 ≤ _; omega, Nat.xor_lt_two_pow y0 gl, by show eff rows (y ^^^ g) = a; rw [eff_xor, y2, ge, Nat.xor_zero]⟩ (by show T.length - (j + 1) < T.length - j; omega)
        obtain rfl : j = T.length := by omega
        refine Wk.on ?_
        rw [decide_eq_false (show ¬ ((T.length : Nat) : Int) < ((T.length : Nat) : Int) by omega)]
        refine Wk.on ?_
        intro _
        refine Wk.on ?_
        rw [decide_eq_false (show ¬ ((y : Nat) : Int) < 0 by omega)]
        refine Wk.on ?_
        rw [hsh]
        refine Wk.on ?_
        rw [decide_eq_false (show ¬ ((Q : Nat) : Int) ≤ ((y : Nat) : Int) by omega)]
        refine Wk.on ?_
        rw [decide_eq_false (show ¬ ((fw : Nat) : Int) < 0 by omega)]
        refine Wk.on ?_
        rw [hsh]
        refine Wk.on ?_
        rw [decide_eq_false (show ¬ ((Q : Nat) : Int) ≤ ((fw : Nat) : Int) by omega)]
        refine Wk.on ?_
        refine CallA.ro2 [] (.c (.int .i64 (pop fw : Nat))) (pf) ?_
        refine Wk.on ?_
        refine CallA.ro2 [] (.c (.int .i64 (pop y : Nat))) (py) ?_
        refine Wk.on ?_
        rw [decide_eq_false (show ¬ ((pop y : Nat) : Int) < ((pop fw : Nat) : Int) by omega)]
        refine Wk.on ?_
        rw [← hw]
        refine CallA.ro2 [2] (.t [.c (.int .i64 a), .c (.int .i64 0)]) (y3) ?_
        refine Wk.on ?_
        rw [decide_eq_false (show ¬ ((a : Nat) : Int) ≠ ((a : Nat) : Int) by omega)]
        refine Wk.on ?_
        intro _
        refine Wk.on ?_
        rw [hk1]
        refine Again.mk (k + 1) (Sub.nil ⟨rfl, rfl, (by simp [tab64_LL, pC, castL, prs, tmV, tmH, tmK, qV, tH, tK, gaSt]), rfl, (by simp [tupA, hpLt, tmLt, AV.lt, AE.lt, AC.lt, LL_cons, LL_nil, idOk, ABlk.lt, ints_LL, GB, tab64_LL, pC, castL, prs, tmV, tmH, tmK, qV, tH, tK, gaSt]), (by simp [tupA, hpLt, tmLt, AV.lt, AE.lt, AC.lt, LL_cons, LL_nil, idOk, ABlk.lt, ints_LL, GB, tab64_LL, pC, castL, prs, tmV, tmH, tmK, qV, tH, tK, gaSt])⟩ (by (repeat (first | exact trivial | refine ⟨trivial, ?_⟩ | refine ⟨rfl, ?_⟩))) (by (repeat (first | exact trivial | refine ⟨trivial, ?_⟩ | refine ⟨rfl, ?_⟩)))) (by omega) (by omega)
      · rw [if_neg hz, decide_eq_false hz] at e1
        rw [decide_eq_false hz] at e2
        refine CallA.ro2 [2] (.t [.c (.int .i64 0), .c (.bool false), .c (.int .i64 0)]) (e1) ?_
        refine Wk.on ?_
        rw [← hw]
        refine CallA.ro2 [2] (.t [.c (.int .i64 fw), .c (.bool false), .c (.int .i64 0)]) (e2) ?_
        refine Wk.on ?_
        rw [hk1]
        refine Wk.on ?_
        refine Again.mk (k + 1) (Sub.nil ⟨rfl, rfl, (by simp [tab64_LL, pC, castL, prs, tmV, tmH, tmK, qV, tH, tK, gaSt]), rfl, (by simp [tupA, hpLt, tmLt, AV.lt, AE.lt, AC.lt, LL_cons, LL_nil, idOk, ABlk.lt, ints_LL, GB, tab64_LL, pC, castL, prs, tmV, tmH, tmK, qV, tH, tK, gaSt]), (by simp [tupA, hpLt, tmLt, AV.lt, AE.lt, AC.lt, LL_cons, LL_nil, idOk, ABlk.lt, ints_LL, GB, tab64_LL, pC, castL, prs, tmV, tmH, tmK, qV, tH, tK, gaSt])⟩ (by (repeat (first | exact trivial | refine ⟨trivial, ?_⟩ | refine ⟨rfl, ?_⟩))) (by (repeat (first | exact trivial | refine ⟨trivial, ?_⟩ | refine ⟨rfl, ?_⟩)))) (by omega) (by omega)
  · obtain rfl : k = 2 := by omega
    refine Wk.on ?_
    refine CallA.ro2 [] (.c (.bool true)) (awake_spec) ?_
    refine Wk.on ?_
    exact AH.Fin.nil2 ⟨rfl, rfl, rfl⟩
theorem gauss_n (n : Int) (ws : List (Int × Int)) (o0 o1 : Int) (h4 : ws.length ≤ 9223372036854775807) (hP : tameP n ws 12 = []) : FDet Tryd.prog 12 [.c (.int .i64 n), .c (.rs 0 0 ws.length), .g [.int .i64 o0, .int .i64 o1]] [(0, .ro (ints (flI ws))), (100001, .ro tab64)] 1 (.c (.bool true)) [] 1 := by
  have hG := tame_gr n ws (most := 12) (by decide) (by decide)
  have hN12 : tameN n 12 ≤ 12 := by unfold tameN; have := um_lt n (n := 12) (by decide); omega
  have hPl : (tameP n ws 12).length ≤ 1000 := by have := tameP_len n ws 12; omega
  have ht := tame_ns n ws (most := 12) (by decide) (by decide) h4 hP
  have hn16 := hG.n16
  have hn1 := hG.n1
  rw [hP] at ht hG hPl
  generalize tameN n 12 = N at *
  have ha := set_spec o0 hn16
  have ha2 := setN_lt o0 N
  generalize setN o0 N = a at *
  have hp16 : 2 ^ N ≤ 65536 := (Nat.pow_le_pow_right (by omega) hn16 : 2 ^ N ≤ 2 ^ 16)
  obtain ⟨Q, hQ⟩ : ∃ q, q = 2 ^ N := ⟨_, rfl⟩
  have hQ2 : Q ≤ 65536 := by omega
  have hsh : IntKind.i64.wrap ((1 : Int) * 2 ^ min (Int.toNat ((N : Nat) : Int)) IntKind.i64.bits) = (Q : Int) := by
    rw [Int.toNat_natCast, show min N IntKind.i64.bits = N from Nat.min_eq_left (by show N ≤ 64; omega), show (1 : Int) * 2 ^ N = ((Q : Nat) : Int) by simp [hQ]]
    exact wrapI (by omega)
  refine FSpec.body2 tok false Tryd.func12 ?_
  refine Wk.on ?_
  refine CallA.det2 [0] (.t [.c (.int .i64 N), .c (.rs 0 0 0)]) ([(1, .own [.int .i64 o0, .int .i64 o1]), (0, .ro (ints (flI ws))), (100001, .ro tab64)]) (ht) ?_
  refine Wk.on ?_
  refine CallA.ro2 [] (.c (.int .i64 a)) (ha) ?_
  refine Wk.on ?_
  refine Tr.loop (md := false) (X := Nat) (st := fun k => ⟨[(0, .c (.int .i64 N)), (5, .c (.ptr 1 0)), (7, .c (.rs 0 0 0)), (8, .c (.int .i64 a)), (9, .c (.int .i64 k))], [(1, .own [.int .i64 o0, .int .i64 o1]), (0, .ro (ints (flI ws))), (100001, .ro tab64)], 2, 163, 1⟩) (inv := fun k => k ≤ 2) (μ := fun k => 2 - k) (x0 := 0) (l := []) tok (by omega) ?_ ?_
  · exact Sub.nil ⟨rfl, rfl, (by simp [tab64_LL, pC, castL, prs, tmV, tmH, tmK, qV, tH, tK, gaSt]), rfl, (by simp [tupA, hpLt, tmLt, AV.lt, AE.lt, AC.lt, LL_cons, LL_nil, idOk, ABlk.lt, ints_LL, GB, tab64_LL, pC, castL, prs, tmV, tmH, tmK, qV, tH, tK, gaSt]), (by simp [tupA, hpLt, tmLt, AV.lt, AE.lt, AC.lt, LL_cons, LL_nil, idOk, ABlk.lt, ints_LL, GB, tab64_LL, pC, castL, prs, tmV, tmH, tmK, qV, tH, tK, gaSt])⟩ (by (repeat (first | exact trivial | refine ⟨trivial, ?_⟩ | refine ⟨rfl, ?_⟩))) (by (repeat (first | exact trivial | refine ⟨trivial, ?_⟩ | refine ⟨rfl, ?_⟩)))
  intro k hk
  by_cases hk2 : k < 2
  · obtain ⟨w, hw⟩ : ∃ w : Bool, w = decide (((k : Nat) : Int) = 0) := ⟨_, rfl⟩
    have hk1 : IntKind.i64.wrap (((k : Nat) : Int) + 1) = ((k + 1 : Nat) : Int) := by rw [show ((k : Nat) : Int) + 1 = ((k + 1 : Nat) : Int) by omega]; exact wrapI (by omega)
    have e0 := Reachable_spec hG w hPl
    have e1 := Solve_spec hG w hPl ha2
    have e2 := Fewest_spec hG w hPl ha2
    obtain ⟨s1, s2⟩ := solve_plain hG w a
    obtain ⟨g1, g2⟩ := gauss_plain hG w
    have hI := inv_all (openR N [] w) N (openR_Sym hG w).len
    have ef : ∀ {x : Nat}, x < 2 ^ N → _ := fun {x} hx => Effect_spec hG w hPl (x := x) hx
    have few : (solP (bsR N (openR N [] w)) a).2 = 0 → fewN N (openR N [] w) a < 2 ^ N ∧ ∀ x, x < 2 ^ N → eff (openR N [] w) x = a → ¬ pop x < pop (fewN N (openR N [] w) a) := fun hz => by
      have hf := hI.fewest hz pop
      have hfe : fewN N (openR N [] w) a = fewF pop (solP (bsR N (openR N [] w)) a).1 ((List.range (2 ^ (qsR N (openR N [] w)).length)).map (sumC (qsR N (openR N [] w)))) := by rw [fewN, if_pos hz]
      rw [hfe]
      refine ⟨hf.is.1, fun x hx hex hlt => hf.le x ⟨hx, hex⟩ ?_⟩
      rw [lessB_iff]
      exact .inl hlt
    have hBl : (bsR N (openR N [] w)).length ≤ 12 := by omega
    obtain ⟨M, hM⟩ : ∃ m, m = 2 ^ (bsR N (openR N [] w)).length := ⟨_, rfl⟩
    have hM2 : M ≤ 4096 := by rw [hM]; exact (Nat.pow_le_pow_right (by omega) hBl : 2 ^ _ ≤ 2 ^ 12)
    have hsb : IntKind.i64.wrap (((N : Nat) : Int) - ((qbN N (openR N [] w)).length : Nat)) = ((bsR N (openR N [] w)).length : Nat) := by
      rw [show ((N : Nat) : Int) - ((qbN N (openR N [] w)).length : Nat) = ((bsR N (openR N [] w)).length : Nat) by omega]
      exact wrapI (by omega)
    have hshM : IntKind.i64.wrap ((1 : Int) * 2 ^ min (Int.toNat ((bsR N (openR N [] w)).length : Nat)) IntKind.i64.bits) = (M : Int) := by
      rw [Int.toNat_natCast, show min (bsR N (openR N [] w)).length IntKind.i64.bits = (bsR N (openR N [] w)).length from Nat.min_eq_left (by show _ ≤ 64; omega), show (1 : Int) * 2 ^ (bsR N (openR N [] w)).length = ((M : Nat) : Int) by simp [hM]]
      exact wrapI (by omega)
    rw [← hM] at e0
    have qr := quiet_rs hG hN12 w hPl
    have qn := quiet_ns hG hN12 w hPl
    generalize fewN N (openR N [] w) a = fw at *
    generalize bsR N (openR N [] w) = BB at *
    generalize qbN N (openR N [] w) = T at *
    generalize openR N [] w = rows at *
    have hTl : (ints (castL T)).length = T.length := by rw [ints_len, castL_len]
    by_cases hT : T = []
    · have qc := qn hT
      subst hT
      clear qr qn
      have hsb : IntKind.i64.wrap (((N : Nat) : Int) - 0) = ((BB.length : Nat) : Int) := by simpa using hsb
      refine Wk.on ?_
      rw [decide_eq_true (show ((k : Nat) : Int) < 2 by omega)]
      refine Wk.on ?_
      rw [← hw]
      refine CallA.ro2 [0] (.t [.c .nils, .c (.int .i64 0)]) (qc) ?_
      refine Wk.on ?_
      rw [← hw]
      refine CallA.ro2 [0] (.t [.c (.int .i64 M), .c (.int .i64 0)]) (e0) ?_
      refine Wk.on ?_
      rw [decide_eq_false (show ¬ ((N : Nat) : Int) < (0 : Int) by omega)]
      refine Wk.on ?_
      rw [hsb]
      refine Wk.on ?_
      rw [hshM]
      refine Wk.on ?_
      rw [decide_eq_false (show ¬ ((M : Nat) : Int) ≠ ((M : Nat) : Int) by omega)]
      refine Wk.on ?_
      intro _
      refine Wk.on ?_
      rw [← hw]
      by_cases hz : (solP BB a).2 = 0
      · obtain ⟨f1, f2⟩ := few hz
        have s3 := s2 hz
        rw [if_pos hz, decide_eq_true hz] at e1
        rw [decide_eq_true hz] at e2
        generalize (solP BB a).1 = s at *
        refine CallA.ro2 [0] (.t [.c (.int .i64 s), .c (.bool true), .c (.int .i64 0)]) (e1) ?_
        refine Wk.on ?_
        rw [← hw]
        refine CallA.ro2 [0] (.t [.c (.int .i64 fw), .c (.bool true), .c (.int .i64 0)]) (e2) ?_
        refine Wk.on ?_
        refine Tr.loop (md := false) (X := Nat × Nat) (st := gaSt N a k fw (.rs 0 0 0) (.nils) [(1, .own [.int .i64 o0, .int .i64 o1]), (0, .ro (ints (flI ws))), (100001, .ro tab64)] 2) (inv := fun q => q.1 = 0 ∧ q.2 < 2 ^ N ∧ eff rows q.2 = a) (μ := fun q => 0) (x0 := (0, s)) (l := []) tok ⟨rfl, s1, s3⟩ ?_ ?_
        · exact Sub.nil ⟨rfl, rfl, (by simp [tab64_LL, pC, castL, prs, tmV, tmH, tmK, qV, tH, tK, gaSt]), rfl, (by simp [tupA, hpLt, tmLt, AV.lt, AE.lt, AC.lt, LL_cons, LL_nil, idOk, ABlk.lt, ints_LL, GB, tab64_LL, pC, castL, prs, tmV, tmH, tmK, qV, tH, tK, gaSt]), (by simp [tupA, hpLt, tmLt, AV.lt, AE.lt, AC.lt, LL_cons, LL_nil, idOk, ABlk.lt, ints_LL, GB, tab64_LL, pC, castL, prs, tmV, tmH, tmK, qV, tH, tK, gaSt])⟩ (by (repeat (first | exact trivial | refine ⟨trivial, ?_⟩ | refine ⟨rfl, ?_⟩))) (by (repeat (first | exact trivial | refine ⟨trivial, ?_⟩ | refine ⟨rfl, ?_⟩)))
        rintro ⟨j, y⟩ ⟨hj, y1, y2⟩
        dsimp only at hj y1 y2
        have y4 := f2 y y1 y2
        have y3 := ef y1
        rw [y2] at y3
        have y0 := y1
        rw [← hQ] at y1 f1
        have py := Size_spec (x := y) (by omega)
        have pf := Size_spec (x := fw) (by omega)
        subst hj
        refine Wk.on ?_
        rw [decide_eq_false (show ¬ ((0 : Nat) : Int) < 0 by omega)]
        refine Wk.on ?_
        rw [decide_eq_false (show ¬ ((y : Nat) : Int) < 0 by omega)]
        refine Wk.on ?_
        rw [hsh]
        refine Wk.on ?_
        rw [decide_eq_false (show ¬ ((Q : Nat) : Int) ≤ ((y : Nat) : Int) by omega)]
        refine Wk.on ?_
        rw [decide_eq_false (show ¬ ((fw : Nat) : Int) < 0 by omega)]
        refine Wk.on ?_
        rw [hsh]
        refine Wk.on ?_
        rw [decide_eq_false (show ¬ ((Q : Nat) : Int) ≤ ((fw : Nat) : Int) by omega)]
        refine Wk.on ?_
        refine CallA.ro2 [] (.c (.int .i64 (pop fw : Nat))) (pf) ?_
        refine Wk.on ?_
        refine CallA.ro2 [] (.c (.int .i64 (pop y : Nat))) (py) ?_
        refine Wk.on ?_
        rw [decide_eq_false (show ¬ ((pop y : Nat) : Int) < ((pop fw : Nat) : Int) by omega)]
        refine Wk.on ?_
        rw [← hw]
        refine CallA.ro2 [0] (.t [.c (.int .i64 a), .c (.int .i64 0)]) (y3) ?_
        refine Wk.on ?_
        rw [decide_eq_false (show ¬ ((a : Nat) : Int) ≠ ((a : Nat) : Int) by omega)]
        refine Wk.on ?_
        intro _
        refine Wk.on ?_
        rw [hk1]
        refine Again.mk (k + 1) (Sub.nil ⟨rfl, rfl, (by simp [tab64_LL, pC, castL, prs, tmV, tmH, tmK, qV, tH, tK, gaSt]), rfl, (by simp [tupA, hpLt, tmLt, AV.lt, AE.lt, AC.lt, LL_cons, LL_nil, idOk, ABlk.lt, ints_LL, GB, tab64_LL, pC, castL, prs, tmV, tmH, tmK, qV, tH, tK, gaSt]), (by simp [tupA, hpLt, tmLt, AV.lt, AE.lt, AC.lt, LL_cons, LL_nil, idOk, ABlk.lt, ints_LL, GB, tab64_LL, pC, castL, prs, tmV, tmH, tmK, qV, tH, tK, gaSt])⟩ (by (repeat (first | exact trivial | refine ⟨trivial, ?_⟩ | refine ⟨rfl, ?_⟩))) (by (repeat (first | exact trivial | refine ⟨trivial, ?_⟩ | refine ⟨rfl, ?_⟩)))) (by omega) (by omega)
      · rw [if_neg hz, decide_eq_false hz] at e1
        rw [decide_eq_false hz] at e2
        refine CallA.ro2 [0] (.t [.c (.int .i64 0), .c (.bool false), .c (.int .i64 0)]) (e1) ?_
        refine Wk.on ?_
        rw [← hw]
        refine CallA.ro2 [0] (.t [.c (.int .i64 fw), .c (.bool false), .c (.int .i64 0)]) (e2) ?_
        refine Wk.on ?_
        rw [hk1]
        refine Wk.on ?_
        refine Again.mk (k + 1) (Sub.nil ⟨rfl, rfl, (by simp [tab64_LL, pC, castL, prs, tmV, tmH, tmK, qV, tH, tK, gaSt]), rfl, (by simp [tupA, hpLt, tmLt, AV.lt, AE.lt, AC.lt, LL_cons, LL_nil, idOk, ABlk.lt, ints_LL, GB, tab64_LL, pC, castL, prs, tmV, tmH, tmK, qV, tH, tK, gaSt]), (by simp [tupA, hpLt, tmLt, AV.lt, AE.lt, AC.lt, LL_cons, LL_nil, idOk, ABlk.lt, ints_LL, GB, tab64_LL, pC, castL, prs, tmV, tmH, tmK, qV, tH, tK, gaSt])⟩ (by (repeat (first | exact trivial | refine ⟨trivial, ?_⟩ | refine ⟨rfl, ?_⟩))) (by (repeat (first | exact trivial | refine ⟨trivial, ?_⟩ | refine ⟨rfl, ?_⟩)))) (by omega) (by omega)
    · have qc := qr hT
      clear qr qn
      refine Wk.on ?_
      rw [decide_eq_true (show ((k : Nat) : Int) < 2 by omega)]
      refine Wk.on ?_
      rw [← hw]
      refine CallA.det2 [0] (.t [.c (.rs 2 0 T.length), .c (.int .i64 0)]) ([(1, .own [.int .i64 o0, .int .i64 o1]), (0, .ro (ints (flI ws))), (100001, .ro tab64), (2, .row 3 1 (ints (castL T)))]) (qc) ?_
      refine Wk.on ?_
      rw [← hw]
      refine CallA.ro2 [0] (.t [.c (.int .i64 M), .c (.int .i64 0)]) (e0) ?_
      refine Wk.on ?_
      rw [decide_eq_false (show ¬ ((N : Nat) : Int) < ((T.length : Nat) : Int) by omega)]
      refine Wk.on ?_
      rw [hsb]
      refine Wk.on ?_
      rw [hshM]
      refine Wk.on ?_
      rw [decide_eq_false (show ¬ ((M : Nat) : Int) ≠ ((M : Nat) : Int) by omega)]
      refine Wk.on ?_
      intro _
      refine Wk.on ?_
      rw [← hw]
      by_cases hz : (solP BB a).2 = 0
      · obtain ⟨f1, f2⟩ := few hz
        have s3 := s2 hz
        rw [if_pos hz, decide_eq_true hz] at e1
        rw [decide_eq_true hz] at e2
        generalize (solP BB a).1 = s at *
        refine CallA.ro2 [0] (.t [.c (.int .i64 s), .c (.bool true), .c (.int .i64 0)]) (e1) ?_
        refine Wk.on ?_
        rw [← hw]
        refine CallA.ro2 [0] (.t [.c (.int .i64 fw), .c (.bool true), .c (.int .i64 0)]) (e2) ?_
        refine Wk.on ?_
        refine Tr.loop (md := false) (X := Nat × Nat) (st := gaSt N a k fw (.rs 0 0 0) (.rs 2 0 T.length) [(1, .own [.int .i64 o0, .int .i64 o1]), (0, .ro (ints (flI ws))), (100001, .ro tab64), (2, .row 3 1 (ints (castL T)))] 3) (inv := fun q => q.1 ≤ T.length ∧ q.2 < 2 ^ N ∧ eff rows q.2 = a) (μ := fun q => T.length - q.1) (x0 := (0, s)) (l := []) tok ⟨by show 0 ≤ _; omega, s1, s3⟩ ?_ ?_
        · exact Sub.nil ⟨rfl, rfl, (by simp [tab64_LL, pC, castL, prs, tmV, tmH, tmK, qV, tH, tK, gaSt]), rfl, (by simp [tupA, hpLt, tmLt, AV.lt, AE.lt, AC.lt, LL_cons, LL_nil, idOk, ABlk.lt, ints_LL, GB, tab64_LL, pC, castL, prs, tmV, tmH, tmK, qV, tH, tK, gaSt]), (by simp [tupA, hpLt, tmLt, AV.lt, AE.lt, AC.lt, LL_cons, LL_nil, idOk, ABlk.lt, ints_LL, GB, tab64_LL, pC, castL, prs, tmV, tmH, tmK, qV, tH, tK, gaSt])⟩ (by (repeat (first | exact trivial | refine ⟨trivial, ?_⟩ | refine ⟨rfl, ?_⟩))) (by (repeat (first | exact trivial | refine ⟨trivial, ?_⟩ | refine ⟨rfl, ?_⟩)))
        rintro ⟨j, y⟩ ⟨hj, y1, y2⟩
        dsimp only at hj y1 y2
        have y4 := f2 y y1 y2
        have y3 := ef y1
        rw [y2] at y3
        have y0 := y1
        rw [← hQ] at y1 f1
        have py := Size_spec (x := y) (by omega)
        have pf := Size_spec (x := fw) (by omega)
        by_cases hjl : j < T.length
        · obtain ⟨g, hg⟩ : ∃ g, g = T.getD j 0 := ⟨_, rfl⟩
          have hgm : g ∈ T := by rw [hg, List.getD_eq_getElem?_getD, List.getElem?_eq_getElem hjl]; exact List.getElem_mem hjl
          obtain ⟨gl, ge⟩ := g2 g hgm
          have hj1 : IntKind.i64.wrap (((j : Nat) : Int) + 1) = ((j + 1 : Nat) : Int) := by rw [show ((j : Nat) : Int) + 1 = ((j + 1 : Nat) : Int) by omega]; exact wrapI (by omega)
          have hxo : IntKind.i64.wrap ((BitVec.ofInt IntKind.i64.bits (y : Int) ^^^ BitVec.ofInt IntKind.i64.bits (g : Int)).toNat) = ((y ^^^ g : Nat) : Int) := xorW (by omega) (by omega)
          refine Wk.on ?_
          rw [decide_eq_true (show ((j : Nat) : Int) < ((T.length : Nat) : Int) by omega)]
          refine Wk.on ?_
          rw [tmod60]
          refine Wk.on ?_
          obtain ⟨u, hu⟩ : ∃ u : Bool, u = decide (Int.tmod (o1.fdiv (2 ^ min (Int.toNat ((j % 60 : Nat) : Int)) IntKind.i64.bits)) 2 ≠ 0) := ⟨_, rfl⟩
          rw [← hu]
          cases u
          · skip
            refine Wk.on ?_
            rw [hj1]
            exact Again.mk (j + 1, y) (Sub.nil ⟨rfl, rfl, (by simp [tab64_LL, pC, castL, prs, tmV, tmH, tmK, qV, tH, tK, gaSt]), rfl, (by simp [tupA, hpLt, tmLt, AV.lt, AE.lt, AC.lt, LL_cons, LL_nil, idOk, ABlk.lt, ints_LL, GB, tab64_LL, pC, castL, prs, tmV, tmH, tmK, qV, tH, tK, gaSt]), (by simp [tupA, hpLt, tmLt, AV.lt, AE.lt, AC.lt, LL_cons, LL_nil, idOk, ABlk.lt, ints_LL, GB, tab64_LL, pC, castL, prs, tmV, tmH, tmK, qV, tH, tK, gaSt])⟩ (by (repeat (first | exact trivial | refine ⟨trivial, ?_⟩ | refine ⟨rfl, ?_⟩))) (by (repeat (first | exact trivial | refine ⟨trivial, ?_⟩ | refine ⟨rfl, ?_⟩)))) ⟨by show j + 1 ≤ _; omega, y0, y2⟩ (by show T.length - (j + 1) < T.length - j; omega)
          · skip
            refine Wk.on ?_
            rw [cget, ← hg]
            refine Wk.on ?_
            rw [hxo]
            refine Wk.on ?_
            rw [hj1]
            exact Again.mk (j + 1, y ^^^ g) (Sub.nil ⟨rfl, rfl, (by simp [tab64_LL, pC, castL, prs, tmV, tmH, tmK, qV, tH, tK, gaSt]), rfl, (by simp [tupA, hpLt, tmLt, AV.lt, AE.lt, AC.lt, LL_cons, LL_nil, idOk, ABlk.lt, ints_LL, GB, tab64_LL, pC, castL, prs, tmV, tmH, tmK, qV, tH, tK, gaSt]), (by simp [tupA, hpLt, tmLt, AV.lt, AE.lt, AC.lt, LL_cons, LL_nil, idOk, ABlk.lt, ints_LL, GB, tab64_LL, pC, castL, prs, tmV, tmH, tmK, qV, tH, tK, gaSt])⟩ (by (repeat (first | exact trivial | refine ⟨trivial, ?_⟩ | refine ⟨rfl, ?_⟩))) (by (repeat (first | exact trivial | refine ⟨trivial, ?_⟩ | refine ⟨rfl, ?_⟩)))) ⟨by show j + 1 ≤ _; omega, Nat.xor_lt_two_pow y0 gl, by show eff rows (y ^^^ g) = a; rw [eff_xor, y2, ge, Nat.xor_zero]⟩ (by show T.length - (j + 1) < T.length - j; omega)
        obtain rfl : j = T.length := by omega
        refine Wk.on ?_
        rw [decide_eq_false (show ¬ ((T.length : Nat) : Int) < ((T.length : Nat) : Int) by omega)]
        refine Wk.on ?_
        intro _
        refine Wk.on ?_
        rw [decide_eq_false (show ¬ ((y : Nat) : Int) < 0 by omega)]
        refine Wk.on ?_
        rw [hsh]
        refine Wk.on ?_
        rw [decide_eq_false (show ¬ ((Q : Nat) : Int) ≤ ((y : Nat) : Int) by omega)]
        refine Wk.on ?_
        rw [decide_eq_false (show ¬ ((fw : Nat) : Int) < 0 by omega)]
        refine Wk.on ?_
        rw [hsh]
        refine Wk.on ?_
        rw [decide_eq_false (show ¬ ((Q : Nat) : Int) ≤ ((fw : Nat) : Int) by omega)]
        refine Wk.on ?_
        refine CallA.ro2 [] (.c (.int .i64 (pop fw : Nat))) (pf) ?_
        refine Wk.on ?_
        refine CallA.ro2 [] (.c (.int .i64 (pop y : Nat))) (py) ?_
        refine Wk.on ?_
        rw [decide_eq_false (show ¬ ((pop y : Nat) : Int) < ((pop fw : Nat) : Int) by omega)]
        refine Wk.on ?_
        rw [← hw]
        refine CallA.ro2 [0] (.t [.c (.int .i64 a), .c (.int .i64 0)]) (y3) ?_
        refine Wk.on ?_
        rw [decide_eq_false (show ¬ ((a : Nat) : Int) ≠ ((a : Nat) : Int) by omega)]
        refine Wk.on ?_
        intro _
        refine Wk.on ?_
        rw [hk1]
        refine Again.mk (k + 1) (Sub.nil ⟨rfl, rfl, (by simp [tab64_LL, pC, castL, prs, tmV, tmH, tmK, qV, tH, tK, gaSt]), rfl, (by simp [tupA, hpLt, tmLt, AV.lt, AE.lt, AC.lt, LL_cons, LL_nil, idOk, ABlk.lt, ints_LL, GB, tab64_LL, pC, castL, prs, tmV, tmH, tmK, qV, tH, tK, gaSt]), (by simp [tupA, hpLt, tmLt, AV.lt, AE.lt, AC.lt, LL_cons, LL_nil, idOk, ABlk.lt, ints_LL, GB, tab64_LL, pC, castL, prs, tmV, tmH, tmK, qV, tH, tK, gaSt])⟩ (by (repeat (first | exact trivial | refine ⟨trivial, ?_⟩ | refine ⟨rfl, ?_⟩))) (by (repeat (first | exact trivial | refine ⟨trivial, ?_⟩ | refine ⟨rfl, ?_⟩)))) (by omega) (by omega)
      · rw [if_neg hz, decide_eq_false hz] at e1
        rw [decide_eq_false hz] at e2
        refine CallA.ro2 [0] (.t [.c (.int .i64 0), .c (.bool false), .c (.int .i64 0)]) (e1) ?_
        refine Wk.on ?_
        rw [← hw]
        refine CallA.ro2 [0] (.t [.c (.int .i64 fw), .c (.bool false), .c (.int .i64 0)]) (e2) ?_
        refine Wk.on ?_
        rw [hk1]
        refine Wk.on ?_
        refine Again.mk (k + 1) (Sub.nil ⟨rfl, rfl, (by simp [tab64_LL, pC, castL, prs, tmV, tmH, tmK, qV, tH, tK, gaSt]), rfl, (by simp [tupA, hpLt, tmLt, AV.lt, AE.lt, AC.lt, LL_cons, LL_nil, idOk, ABlk.lt, ints_LL, GB, tab64_LL, pC, castL, prs, tmV, tmH, tmK, qV, tH, tK, gaSt]), (by simp [tupA, hpLt, tmLt, AV.lt, AE.lt, AC.lt, LL_cons, LL_nil, idOk, ABlk.lt, ints_LL, GB, tab64_LL, pC, castL, prs, tmV, tmH, tmK, qV, tH, tK, gaSt])⟩ (by (repeat (first | exact trivial | refine ⟨trivial, ?_⟩ | refine ⟨rfl, ?_⟩))) (by (repeat (first | exact trivial | refine ⟨trivial, ?_⟩ | refine ⟨rfl, ?_⟩)))) (by omega) (by omega)
  · obtain rfl : k = 2 := by omega
    refine Wk.on ?_
    refine CallA.ro2 [] (.c (.bool true)) (awake_spec) ?_
    refine Wk.on ?_
    exact AH.Fin.nil2 ⟨rfl, rfl, rfl⟩
end Go.Proofs.YtimknijehaamlaaDoor

/-
  From a row's condition to the contracts: numbers, pairs, tables as the row reads them.
-/
namespace Go.Proofs.YtimknijehaamlaaDoor
open Go Go.AH Go.Lin Go.ChangeShapes Go.WideShapes Go.ChangeAt Go.RowKit
set_option maxRecDepth 100000

theorem cells38 : Tryd.prog.cellsOf 38 = 2 := by kernel_rfl
theorem cells3 : Tryd.prog.cellsOf 3 = 1 := by kernel_rfl
theorem cells22 : Tryd.prog.cellsOf 22 = 1 := by kernel_rfl
theorem laidOut : laidOutB Tryd.prog = true := by kernel_rfl

theorem cell_inv {W : World} {a : Addr} {v : Value} (h : W.cell? a = some v) : ∃ c t z, W.heap[a.block]? = some (.cells c t z) ∧ a.spot = none ∧ c[a.off]? = some v := by
  unfold World.cell? at h
  split at h
  · rename_i c t z hh
    split at h
    · cases h
    · rename_i hs
      exact ⟨c, t, z, hh, by simpa using hs, h⟩
  · cases h
section
variable {H : Type} {enc : TypeId × Value → H} {W : World} {base : Nat} {spare : Nat → Bool} {held : Bool}
theorem one_of_take {cs : List Value} {i : Nat} {v : Value} (h : (cs.drop i).take 1 = [v]) : cs[i]? = some v := by
  have := congrArg (·[0]?) h
  simpa [List.getElem?_take, List.getElem?_drop] using this
theorem trod_pair {fuel : Nat} {cs : List Value} {x : DataW H × List MemPlace} (h : DataW.trod enc Tryd.prog W base spare held fuel 38 cs = some x) : ∃ z0 z1, cs = [.int .i64 z0, .int .i64 z1] := by
  cases fuel with
  | zero => simp [DataW.trod] at h
  | succ fuel =>
    simp only [DataW.trod, Tryd.underlying38, cells38, cells3, Nat.mul_one] at h
    split at h
    · rename_i hl
      obtain ⟨xs, hm, _⟩ := Option.map_eq_some_iff.1 h
      obtain ⟨b0, _, hf0⟩ := Lib.mapM_at hm 0 0 rfl
      obtain ⟨b1, _, hf1⟩ := Lib.mapM_at hm 1 1 rfl
      obtain ⟨z0, hc0, _⟩ := DataW.trod_int Tryd.underlying3 hf0
      obtain ⟨z1, hc1, _⟩ := DataW.trod_int Tryd.underlying3 hf1
      refine ⟨z0, z1, ?_⟩
      match cs, hl with
      | [u, v], _ =>
        simp at hc0 hc1
        rw [hc0, hc1]
    · cases h
theorem choose_ws {len : Nat} {p : Nat → Int × Int → Prop} (h : ∀ i, i < len → ∃ w, p i w) : ∃ ws : List (Int × Int), ws.length = len ∧ ∀ i, i < len → p i (ws.getD i (0, 0)) := by
  induction len with
  | zero => exact ⟨[], rfl, fun i hi => by omega⟩
  | succ n ih =>
    obtain ⟨ws, h1, h2⟩ := ih fun i hi => h i (by omega)
    obtain ⟨w, hw⟩ := h n (by omega)
    refine ⟨ws ++ [w], by simp [h1], fun i hi => ?_⟩
    by_cases e : i < n
    · rw [List.getD_eq_getElem?_getD, List.getElem?_append_left (by omega), ← List.getD_eq_getElem?_getD]; exact h2 i e
    · obtain rfl : i = n := by omega
      rw [List.getD_eq_getElem?_getD, List.getElem?_append_right (by omega)]
      simpa [h1] using hw
/-- Pairs of numbers, as they lie. -/
def pairsAt (W : World) (v : Value) (ws : List (Int × Int)) : Prop := (v = .slice none 0 0 ∧ ws = []) ∨ ∃ a c, v = .slice (some a) ws.length c ∧ ws.length ≤ c ∧ ∀ i, i < ws.length → W.cell? (a.add (i * 2)) = some (.int .i64 (ws.getD i (0, 0)).1) ∧ W.cell? (a.add (i * 2 + 1)) = some (.int .i64 (ws.getD i (0, 0)).2)
theorem open_pairs {v : Value} {d : DataW H} {ps : List MemPlace} (hv : Value.okWide Tryd.prog W .any base 22 v) (h : DataW.Trod enc Tryd.prog W 0 spare held 22 v d ps) : ∃ ws : List (Int × Int), ws.length ≤ 9223372036854775807 ∧ pairsAt W v ws := by
  obtain ⟨fuel, h⟩ := h
  have hsl : v.cells = #[v] := by
    unfold Value.okWide at hv
    rw [Tryd.underlying22] at hv
    have hv : Cell.okWide Tryd.prog W .any base 22 v := hv
    unfold Cell.okWide at hv
    rw [Tryd.underlying22] at hv
    have hv : Cell.ok Tryd.prog W .any base 22 v := by cases v <;> exact hv
    unfold Cell.ok at hv
    rw [Tryd.underlying22] at hv
    cases v <;> first | rfl | exact absurd hv (by simp)
  have h : DataW.trod enc Tryd.prog W 0 spare held fuel 22 v.cells.toList = some (d, ps) := h
  rw [hsl] at h
  rcases DataW.trod_slice Tryd.underlying22 h with ⟨h3, _⟩ | ⟨a, len, cap, elems, rest, m, _, h3, _, _, hlc, hcm, hel, hall, _⟩
  · have h3 : [v] = [Value.slice none 0 0] := h3
    injection h3 with h3
    exact ⟨[], by simp, .inl ⟨h3, rfl⟩⟩
  · have h3 : [v] = [Value.slice (some a) len cap] := h3
    injection h3 with h3
    have hw : ∀ i, i < len → ∃ w : Int × Int, W.cell? (a.add (i * 2)) = some (.int .i64 w.1) ∧ W.cell? (a.add (i * 2 + 1)) = some (.int .i64 w.2) := fun i hi => by
      have h4 := hall i hi
      rw [cells38, List.getElem?_eq_getElem (by omega)] at h4
      obtain ⟨cs', g1, g2⟩ := Option.bind_eq_some_iff.1 h4
      obtain ⟨z0, z1, rfl⟩ := trod_pair g2
      obtain ⟨_, _, g3⟩ := World.cells?_some g1
      have k0 := g3 0 (by omega)
      have k1 := g3 1 (by omega)
      rw [Addr.add_add] at k0 k1
      exact ⟨(z0, z1), k0, k1⟩
    obtain ⟨ws, hws, hp⟩ := choose_ws hw
    have hcap : cap ≤ 9223372036854775807 := hcm
    exact ⟨ws, by omega, .inr ⟨a, cap, by rw [h3, hws], by omega, fun i hi => hp i (by rw [← hws]; exact hi)⟩⟩
end

theorem add_cell {W : World} {a : Addr} {n : Nat} {v : Value} (h : W.cell? (a.add n) = some v) : ∃ c t z, W.heap[a.block]? = some (.cells c t z) ∧ c[a.off + n]? = some v := by
  obtain ⟨c, t, z, h1, _, h3⟩ := cell_inv h
  unfold Addr.add at h1 h3
  split at h1
  · rename_i e; subst e
    rw [if_pos rfl] at h3
    exact ⟨c, t, z, h1, h3⟩
  · rename_i e
    rw [if_neg e] at h3
    exact ⟨c, t, z, h1, h3⟩
theorem flI_all (ws : List (Int × Int)) {p : Nat → Int → Prop} (h : ∀ i, i < ws.length → p (i * 2) (ws.getD i (0, 0)).1 ∧ p (i * 2 + 1) (ws.getD i (0, 0)).2) : ∀ i, i < (flI ws).length → p i ((flI ws).getD i 0) := fun i hi => by
  rw [flI_len] at hi
  obtain ⟨h0, h1⟩ := h (i / 2) (by omega)
  obtain ⟨g0, g1⟩ := flI_get ws (i / 2)
  by_cases e : i % 2 = 0
  · rw [show i / 2 * 2 = i by omega] at g0 h0
    rw [g0]; exact h0
  · rw [show i / 2 * 2 + 1 = i by omega] at g1 h1
    rw [g1]; exact h1
theorem conL_ints {R : Ren} {xs : List Int} {c : Array Value} {o : Nat} (h : ∀ i, i < xs.length → c[o + i]? = some (.int .i64 (xs.getD i 0))) : conL R (ints xs) c o := fun i y hi => by
  have hl : i < xs.length := by have := (List.getElem?_eq_some_iff.1 hi).1; rwa [ints_len] at this
  refine ⟨_, h i hl, ?_⟩
  have e : (ints xs).getD i (.int .i64 0) = .int .i64 (xs.getD i 0) := ints_getD _ _ _
  rw [List.getD_eq_getElem?_getD, hi] at e
  simp at e
  rw [e]; rfl
theorem spot0 {W : World} {a : Addr} {v : Value} (h : W.cell? (a.add (0 * 2)) = some v) : a.spot = none := by
  have e : a.add (0 * 2) = a := by simp [Addr.add]
  rw [e] at h
  obtain ⟨_, _, _, _, h2, _⟩ := cell_inv h
  exact h2
theorem gTab32 : Tryd.prog.globalNamed "math/bits.deBruijn32tab" = some 0 := by kernel_rfl
theorem gTab64 : Tryd.prog.globalNamed "math/bits.deBruijn64tab" = some 1 := by kernel_rfl
theorem own : ownKnob Tryd.prog.godebug = none := by kernel_rfl
theorem gTab64Type : (Tryd.prog.globals[1]?).map (·.type) = some 134 := by kernel_rfl
theorem cells134 : Tryd.prog.cellsOf 134 = 64 := by kernel_rfl
theorem cells5 : Tryd.prog.cellsOf 5 = 1 := by kernel_rfl
def lays : List (String × DataW Unit) := [("math/bits.deBruijn32tab", Rows.laid_math_bits_deBruijn32tab), ("math/bits.deBruijn64tab", Rows.laid_math_bits_deBruijn64tab)]
theorem tab64_is {W : World} (h : laidMet Tryd.prog lays W) : Lib.TabIs Tryd.prog W "math/bits.deBruijn64tab" .u8 tabI :=
  Lib.tabIs_of_head (rest := []) gTab64 gTab64Type Tryd.underlying134 Tryd.underlying5 cells5 cells134 (laidMet.tail h)
theorem tab_cells {W : World} {g : Nat} {k : IntKind} {zs : List Int} (hl : 0 < zs.length) (h : ∀ i, i < zs.length → W.cell? ⟨g, i, none⟩ = some (.int k (zs.getD i 0))) : ∃ c t z, W.heap[g]? = some (.cells c t z) ∧ ∀ R : Ren, conL R (zs.map (AC.int k)) c 0 := by
  obtain ⟨c, t, z, hh, _, _⟩ := cell_inv (h 0 hl)
  refine ⟨c, t, z, hh, fun R i x hx => ?_⟩
  have hi : i < zs.length := by have := (List.getElem?_eq_some_iff.1 hx).1; simpa using this
  obtain ⟨c', t', z', hh', _, hv⟩ := cell_inv (h i hi)
  rw [show (⟨g, 0, none⟩ : Addr).block = (⟨g, i, none⟩ : Addr).block from rfl, hh'] at hh
  injection hh with hh
  injection hh with e1 _ _
  refine ⟨.int k (zs.getD i 0), by rw [Nat.zero_add, ← e1]; exact hv, ?_⟩
  simp only [List.getElem?_map] at hx
  rw [List.getD_eq_getElem?_getD]
  obtain ⟨y, hy, rfl⟩ := Option.map_eq_some_iff.1 hx
  rw [hy]; rfl
theorem tab64_cells {W : World} (h : laidMet Tryd.prog lays W) : ∃ c t z, W.heap[1]? = some (.cells c t z) ∧ ∀ R : Ren, conL R tab64 c 0 :=
  tab_cells (zs := tabI) (by decide) fun i hi => (tab64_is h).cell gTab64 i hi
/-- Numbers of blocks: where each lies. -/
def renL (l : List (Nat × Nat)) : Ren := ⟨fun i => if i < GB then (l.getD i (0, 0)).1 else i - GB, fun i => if i < GB then (l.getD i (0, 0)).2 else 0, fun _ => 0⟩
theorem renL_ok (l : List (Nat × Nat)) : (renL l).ok := ⟨fun i => by show (if GB + i < GB then _ else GB + i - GB) = i; rw [if_neg (by omega)]; omega, fun i => by show (if GB + i < GB then _ else 0) = 0; rw [if_neg (by omega)], fun i => rfl⟩
theorem hrel_ro {R : Ren} {hp : List (Nat × ABlk)} {w : World} (hro : allRo hp = true) (h : ∀ i b, lk hp i = some b → BRel R i w b) : HRel R hp w :=
  ⟨h, fun i j b c hi _ _ hw => by rw [allRo_sound hro i b hi] at hw; cases hw⟩
/-- Pairs lie in a block. -/
theorem pairs_block {W : World} {v : Value} {ws : List (Int × Int)} (h : pairsAt W v ws) (h0 : ∃ c t z, W.heap[1]? = some (.cells c t z)) :
    ∃ b off c t z, W.heap[b]? = some (.cells c t z) ∧ (∀ R, conL R (ints (flI ws)) c off) ∧ ∀ (R : Ren) (id : Nat), R.ρ id = b → R.δ id = off → conC R (.rs id 0 ws.length) v := by
  obtain ⟨c0, t0, z0, hh0⟩ := h0
  have nil : ws = [] → ∀ R : Ren, ∀ c o, conL R (ints (flI ws)) c o := fun e R c o i y hi => by rw [e] at hi; simp [ints, flI] at hi
  rcases h with ⟨rfl, hL⟩ | ⟨a, cap, rfl, hcap, hcell⟩
  · exact ⟨1, 0, c0, t0, z0, hh0, fun R => nil hL R _ _, fun R id _ _ => .inr ⟨by rw [hL]; rfl, rfl⟩⟩
  · by_cases e0 : ws.length = 0
    · exact ⟨1, 0, c0, t0, z0, hh0, fun R => nil (List.length_eq_zero_iff.1 e0) R _ _, fun R id _ _ => .inl ⟨a, cap, rfl, fun h => by omega, hcap⟩⟩
    · have hs := spot0 (hcell 0 (by omega)).1
      obtain ⟨c, t, z, hh, _⟩ := add_cell (hcell 0 (by omega)).1
      have get : ∀ n v, W.cell? (a.add n) = some v → c[a.off + n]? = some v := fun n v h => by
        obtain ⟨c', t', z', hh', hv⟩ := add_cell h
        rw [hh] at hh'
        injection hh' with hh'
        injection hh' with e1 e2 e3
        rw [e1]; exact hv
      refine ⟨a.block, a.off, c, t, z, hh, fun R => conL_ints (flI_all ws (p := fun i v => c[a.off + i]? = some (.int .i64 v)) fun i hi => ⟨get _ _ (hcell i hi).1, get _ _ (hcell i hi).2⟩), fun R id e1 e2 => .inl ⟨a, cap, rfl, fun _ => ?_, hcap⟩⟩
      unfold Ren.adr
      rw [e1, e2]
      obtain ⟨b, o, sp⟩ := a
      simp only at hs
      subst hs
      rfl
theorem open_int {W : World} {base : Nat} {v : Value} (hv : Value.okWide Tryd.prog W .any base 3 v) : ∃ n, v = .int .i64 n := by
  unfold Value.okWide at hv
  rw [Tryd.underlying3] at hv
  have hv : Cell.okWide Tryd.prog W .any base 3 v := hv
  unfold Cell.okWide at hv
  rw [Tryd.underlying3] at hv
  have hv : Cell.ok Tryd.prog W .any base 3 v := by cases v <;> exact hv
  unfold Cell.ok at hv
  rw [Tryd.underlying3] at hv
  cases v <;> first | exact False.elim hv | (obtain ⟨rfl, _⟩ := hv; exact ⟨_, rfl⟩)
/-- A law of a number and pairs: from its contract to its calls. -/
theorem calls_np {f : FuncId} {W : World} {n : Int} {sv : Value} {ws : List (Int × Int)} (hc : FDet Tryd.prog f [.c (.int .i64 n), .c (.rs 0 0 ws.length)] [(0, .ro (ints (flI ws))), (100001, .ro tab64)] 1 (.c (.bool true)) [] 1)
    (hp : pairsAt W sv ws) (hL : laidMet Tryd.prog lays W) : Calls Tryd.prog f #[.int .i64 n, sv] W fun e W' => e = .returned (.bool true) ∧ Below W.heap.size W W' := by
  have h64 := tab64_cells hL
  have hc0 : ∃ c t z, W.heap[1]? = some (.cells c t z) := by obtain ⟨c, t, z, h, _⟩ := h64; exact ⟨c, t, z, h⟩
  obtain ⟨b, off, c, t, z, hb, hcc, hs⟩ := pairs_block hp hc0
  obtain ⟨c2, t2, z2, hb2, hcc2⟩ := h64
  have hR : HRel (renL [(b, off)]) [(0, .ro (ints (flI ws))), (100001, .ro tab64)] W := by
    refine hrel_ro rfl fun i bl hi => ?_
    simp only [lk] at hi
    split at hi
    · rename_i e; subst e; injection hi with hi; subst hi; exact ⟨c, t, z, hb, hcc _⟩
    · split at hi
      · rename_i e; subst e; injection hi with hi; subst hi; exact ⟨c2, t2, z2, hb2, hcc2 _⟩
      · cases hi
  refine (hc.run W (renL [(b, off)]) _ (renL_ok _) rfl (fun i v hi => ?_) hR).mono ?_
  · match i, hi with
    | 0, hi => injection hi with hi; subst hi; exact ⟨_, rfl, rfl⟩
    | 1, hi => injection hi with hi; subst hi; exact ⟨_, rfl, hs _ _ rfl rfl⟩
    | _ + 2, hi => simp at hi
  · rintro e w' ⟨u, r, hp', k', R', h1, ⟨h2, _, _⟩, _, _, _, h6, _, _, _, _, _, h12⟩
    subst h2
    have hu : u = .bool true := h6
    subst hu
    refine ⟨h1, (h12.mono ?_).below⟩
    rintro j ⟨i, bl, g1, g2, _⟩
    rw [allRo_sound (show allRo [(0, .ro (ints (flI ws))), (100001, .ro tab64)] = true from rfl) i bl g1] at g2
    cases g2
def lay (vs : Array Value) : Obj → Obj
  | .cells _ t z => .cells vs t z
  | o => o
/-- A world for the witness: the settled one, with the tables as they are laid. -/
noncomputable def laidWorld (os : Os) : World :=
  { World.holding Tryd.prog os ⟨#[], #[], []⟩ with heap := ((World.holding Tryd.prog os ⟨#[], #[], []⟩).heap.modify 0 (lay ((([0, 1, 28, 2, 29, 14, 24, 3, 30, 22, 20, 15, 25, 17, 4, 8, 31, 27, 13, 23, 21, 19, 16, 7, 26, 12, 18, 6, 11, 5, 10, 9] : List Int).map (Value.int .u8)).toArray))).modify 1 (lay ((tabI.map (Value.int .u8)).toArray)) }
end Go.Proofs.YtimknijehaamlaaDoor

/-
  From a row's condition to the contracts: further parameters beside a number and pairs.
-/
namespace Go.Proofs.YtimknijehaamlaaDoor
open Go Go.AH Go.Lin Go.ChangeShapes Go.WideShapes Go.ChangeAt Go.RowKit
set_option maxRecDepth 100000

theorem open_bool {W : World} {base : Nat} {v : Value} (hv : Value.okWide Tryd.prog W .any base 4 v) : ∃ b, v = .bool b := by
  unfold Value.okWide at hv
  rw [Tryd.underlying4] at hv
  have hv : Cell.okWide Tryd.prog W .any base 4 v := hv
  unfold Cell.okWide at hv
  rw [Tryd.underlying4] at hv
  have hv : Cell.ok Tryd.prog W .any base 4 v := by cases v <;> exact hv
  unfold Cell.ok at hv
  rw [Tryd.underlying4] at hv
  cases v <;> first | exact False.elim hv | exact ⟨_, rfl⟩
theorem open_arr2 {H : Type} {enc : TypeId × Value → H} {W : World} {base : Nat} {spare : Nat → Bool} {held : Bool} {v : Value} {d : DataW H} {ps : List MemPlace} (hv : Value.okWide Tryd.prog W .any base 38 v) (h : DataW.Trod enc Tryd.prog W 0 spare held 38 v d ps) : ∃ z0 z1, v = .agg #[.int .i64 z0, .int .i64 z1] := by
  obtain ⟨fuel, h⟩ := h
  unfold Value.okWide at hv
  rw [Tryd.underlying38] at hv
  obtain ⟨cs, rfl, _, _⟩ := hv
  have h : DataW.trod enc Tryd.prog W 0 spare held fuel 38 cs.toList = some (d, ps) := h
  obtain ⟨z0, z1, hc⟩ := trod_pair h
  refine ⟨z0, z1, ?_⟩
  cases cs
  simp only at hc
  rw [hc]
theorem conV2 (R : Ren) (x0 x1 : Int) : conV R (.g [.int .i64 x0, .int .i64 x1]) (.agg #[.int .i64 x0, .int .i64 x1]) :=
  ⟨_, rfl, rfl, fun i x hi => match i, hi with
    | 0, hi => by injection hi with hi; subst hi; exact ⟨_, rfl, rfl⟩
    | 1, hi => by injection hi with hi; subst hi; exact ⟨_, rfl, rfl⟩
    | _ + 2, hi => by simp at hi⟩
/-- A law of a number, pairs and more: from its contract to its calls. -/
theorem calls_np3 {f : FuncId} {W : World} {n : Int} {sv : Value} {ws : List (Int × Int)} {av : List AV} {vs : List Value} (hc : FDet Tryd.prog f (.c (.int .i64 n) :: .c (.rs 0 0 ws.length) :: av) [(0, .ro (ints (flI ws))), (100001, .ro tab64)] 1 (.c (.bool true)) [] 1)
    (ha : ∀ (R : Ren) (i : Nat) (v : AV), av[i]? = some v → ∃ u, vs[i]? = some u ∧ conV R v u) (hp : pairsAt W sv ws) (hL : laidMet Tryd.prog lays W) (hl : vs.length = av.length := by rfl) : Calls Tryd.prog f (.int .i64 n :: sv :: vs).toArray W fun e W' => e = .returned (.bool true) ∧ Below W.heap.size W W' := by
  have h64 := tab64_cells hL
  have hc0 : ∃ c t z, W.heap[1]? = some (.cells c t z) := by obtain ⟨c, t, z, h, _⟩ := h64; exact ⟨c, t, z, h⟩
  obtain ⟨b, off, c, t, z, hb, hcc, hs⟩ := pairs_block hp hc0
  obtain ⟨c2, t2, z2, hb2, hcc2⟩ := h64
  have hR : HRel (renL [(b, off)]) [(0, .ro (ints (flI ws))), (100001, .ro tab64)] W := by
    refine hrel_ro rfl fun i bl hi => ?_
    simp only [lk] at hi
    split at hi
    · rename_i e; subst e; injection hi with hi; subst hi; exact ⟨c, t, z, hb, hcc _⟩
    · split at hi
      · rename_i e; subst e; injection hi with hi; subst hi; exact ⟨c2, t2, z2, hb2, hcc2 _⟩
      · cases hi
  refine (hc.run W (renL [(b, off)]) _ (renL_ok _) (by simp [hl]) (fun i v hi => ?_) hR).mono ?_
  · match i, hi with
    | 0, hi => injection hi with hi; subst hi; exact ⟨_, by simp, rfl⟩
    | 1, hi => injection hi with hi; subst hi; exact ⟨_, by simp, hs _ _ rfl rfl⟩
    | i + 2, hi =>
      obtain ⟨u, hu, hcu⟩ := ha (renL [(b, off)]) i v (by simpa using hi)
      exact ⟨u, by simpa using hu, hcu⟩
  · rintro e w' ⟨u, r, hp', k', R', h1, ⟨h2, _, _⟩, _, _, _, h6, _, _, _, _, _, h12⟩
    subst h2
    have hu : u = .bool true := h6
    subst hu
    refine ⟨h1, (h12.mono ?_).below⟩
    rintro j ⟨i, bl, g1, g2, _⟩
    rw [allRo_sound (show allRo [(0, .ro (ints (flI ws))), (100001, .ro tab64)] = true from rfl) i bl g1] at g2
    cases g2
/-- A law of numbers and bools. -/
theorem calls_n3 {f : FuncId} {W : World} {av : List AV} {vs : List Value} (hc : FDet Tryd.prog f av [(100001, .ro tab64)] 0 (.c (.bool true)) [] 0)
    (ha : ∀ (R : Ren) (i : Nat) (v : AV), av[i]? = some v → ∃ u, vs[i]? = some u ∧ conV R v u) (hL : laidMet Tryd.prog lays W) (hl : vs.length = av.length := by rfl) : Calls Tryd.prog f vs.toArray W fun e W' => e = .returned (.bool true) ∧ Below W.heap.size W W' := by
  obtain ⟨c2, t2, z2, hb2, hcc2⟩ := tab64_cells hL
  have hR : HRel (renL []) [(100001, .ro tab64)] W := by
    refine hrel_ro rfl fun i bl hi => ?_
    simp only [lk] at hi
    split at hi
    · rename_i e; subst e; injection hi with hi; subst hi; exact ⟨c2, t2, z2, hb2, hcc2 _⟩
    · cases hi
  refine (hc.run W (renL []) _ (renL_ok _) (by simp [hl]) (fun i v hi => ?_) hR).mono ?_
  · obtain ⟨u, hu, hcu⟩ := ha (renL []) i v hi
    exact ⟨u, by simpa using hu, hcu⟩
  · rintro e w' ⟨u, r, hp', k', R', h1, ⟨h2, _, _⟩, _, _, _, h6, _, _, _, _, _, h12⟩
    subst h2
    have hu : u = .bool true := h6
    subst hu
    refine ⟨h1, (h12.mono ?_).below⟩
    rintro j ⟨i, bl, g1, g2, _⟩
    rw [allRo_sound (show allRo [(100001, .ro tab64)] = true from rfl) i bl g1] at g2
    cases g2
end Go.Proofs.YtimknijehaamlaaDoor
