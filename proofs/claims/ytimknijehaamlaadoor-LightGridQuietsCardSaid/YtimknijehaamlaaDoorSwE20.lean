/-
  Contracts: the reference's Effect of a list that was made; solutions. (Plain.)
-/
import Derived.Test.YtimknijehaamlaaDoorSwE2
import Derived.Test.YtimknijehaamlaaDoorSwE0
set_option linter.unusedSimpArgs false
set_option linter.unusedVariables false
namespace Go.Proofs.YtimknijehaamlaaDoor
open Go Go.AH Go.Lin
set_option maxRecDepth 100000
set_option maxHeartbeats 1000000

theorem refEffect_sl {L : List Nat} {k n : Nat} (hL : ∀ j, L.getD j 0 < 2 ^ k) (hk : k ≤ 16) (hn : L.length = n) (hl : n ≤ 16) (x : Nat) : FDet Tryd.prog 36 [.c (.sl 0 0 n (some n)), .c (.int .i64 x)] [(0, .ro (ints (castL L)))] 1 (.c (.int .i64 (eff L x : Nat))) [] 1 := by
  subst hn
  exact FDet.wk (refEffect_spec hL hk hl x) ⟨⟨rfl, rfl, rfl⟩, rfl, trivial⟩ ⟨.inl rfl, trivial⟩
theorem solve_plain {n : Nat} {ws : List (Nat × Nat)} (h : Gr n ws) (own : Bool) (t : Nat) : (solP (bsR n (openR n ws own)) t).1 < 2 ^ n ∧ ((solP (bsR n (openR n ws own)) t).2 = 0 → eff (openR n ws own) (solP (bsR n (openR n ws own)) t).1 = t) := by
  have hS := openR_Sym h own
  have hI := inv_all (openR n ws own) n hS.len
  obtain ⟨_, s2, s3⟩ := hI.sol t
  exact ⟨s2, s3⟩
theorem iget (T : List Int) (i : Nat) : (ints T).getD (0 + Int.toNat ((i : Nat) : Int) * 1) (.int .i64 0) = .int .i64 (T.getD i 0) := by
  rw [show 0 + Int.toNat ((i : Nat) : Int) * 1 = i by simp]
  simp [ints, List.getD_eq_getElem?_getD]
theorem iset (T : List Int) (i : Nat) (v : Int) : (ints T).set (0 + Int.toNat ((i : Nat) : Int) * 1) (.int .i64 v) = ints (T.set i v) := by
  rw [show 0 + Int.toNat ((i : Nat) : Int) * 1 = i by simp]
  simp [ints, List.map_set]
end Go.Proofs.YtimknijehaamlaaDoor
