/-
  Contract: any numbers made a graph; pairs or none.
-/
import Derived.Test.YtimknijehaamlaaDoorSw5
set_option linter.unusedSimpArgs false
set_option linter.unusedVariables false
namespace Go.Proofs.YtimknijehaamlaaDoor
open Go Go.AH Go.Lin
set_option maxRecDepth 100000
set_option maxHeartbeats 1000000

theorem tame_rs (n : Int) (ws : List (Int × Int)) {most : Nat} (h1 : 1 ≤ most) (h2 : most ≤ 16) (h4 : ws.length ≤ 9223372036854775807) (h : tameP n ws most ≠ []) : FDet Tryd.prog 17 [.c (.int .i64 n), .c (.rs 0 0 ws.length), .c (.int .i64 most)] [(0, .ro (ints (flI ws)))] 1 (.t [.c (.int .i64 (tameN n most : Nat)), .c (.rs 1 0 (tameP n ws most).length)]) [(1, .row 38 2 (ints (prs (tameP n ws most))))] 2 := by
  have := tame_spec n ws h1 h2 h4
  generalize tameP n ws most = P at *
  cases P with
  | nil => exact absurd rfl h
  | cons b L => exact FDet.post this _ _ ⟨rfl, ⟨⟨rfl, rfl, rfl⟩, trivial⟩, trivial⟩ ⟨⟨⟨rfl, rfl⟩, .inl rfl⟩, trivial⟩ (by simp [tupA, hpLt, tmLt, AV.lt, AE.lt, AC.lt, LL_cons, LL_nil, idOk, ABlk.lt, ints_LL, GB, tab64_LL, pC, castL, prs, tmV, tmH, tmK]) (by simp [tupA, hpLt, tmLt, AV.lt, AE.lt, AC.lt, LL_cons, LL_nil, idOk, ABlk.lt, ints_LL, GB, tab64_LL, pC, castL, prs, tmV, tmH, tmK]) rfl
theorem tame_ns (n : Int) (ws : List (Int × Int)) {most : Nat} (h1 : 1 ≤ most) (h2 : most ≤ 16) (h4 : ws.length ≤ 9223372036854775807) (h : tameP n ws most = []) : FDet Tryd.prog 17 [.c (.int .i64 n), .c (.rs 0 0 ws.length), .c (.int .i64 most)] [(0, .ro (ints (flI ws)))] 1 (.t [.c (.int .i64 (tameN n most : Nat)), .c (.rs 0 0 (tameP n ws most).length)]) [] 1 := by
  have := tame_spec n ws h1 h2 h4
  rw [h] at this ⊢
  exact FDet.post this _ _ ⟨rfl, rfl, trivial⟩ trivial (by simp [tupA, hpLt, tmLt, AV.lt, AE.lt, AC.lt, LL_cons, LL_nil, idOk, ABlk.lt, ints_LL, GB, tab64_LL, pC, castL, prs, tmV, tmH, tmK]) (by simp [tupA, hpLt, tmLt, AV.lt, AE.lt, AC.lt, LL_cons, LL_nil, idOk, ABlk.lt, ints_LL, GB, tab64_LL, pC, castL, prs, tmV, tmH, tmK]) rfl
end Go.Proofs.YtimknijehaamlaaDoor
