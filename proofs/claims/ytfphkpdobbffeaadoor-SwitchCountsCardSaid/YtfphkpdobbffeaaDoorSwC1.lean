/-
  Contracts: groups of places.
-/
import Derived.Test.YtfphkpdobbffeaaDoorSwT
import Derived.Test.YtfphkpdobbffeaaDoorAh24
set_option linter.unusedSimpArgs false
set_option linter.unusedVariables false
namespace Go.Proofs.YtfphkpdobbffeaaDoor
open Go Go.AH
set_option maxRecDepth 100000
set_option maxHeartbeats 1000000

def aloneSt (i : Nat) : List Int := (List.range 8).map fun j => if j < i then (j : Int) else 0
theorem aloneSt_len (i : Nat) : (aloneSt i).length = 8 := by simp [aloneSt]
theorem aloneSt_set {i : Nat} (h : i < 8) : (aloneSt i).set i (i : Int) = aloneSt (i + 1) := by
  have : i = 0 ∨ i = 1 ∨ i = 2 ∨ i = 3 ∨ i = 4 ∨ i = 5 ∨ i = 6 ∨ i = 7 := by omega
  rcases this with rfl | rfl | rfl | rfl | rfl | rfl | rfl | rfl <;> rfl
theorem alone_spec : FDet Tryd.prog 94 [] [] 0 (.g (ints (aloneSt 8))) [] 0 := by
  refine FSpec.of_body tok true Tryd.func94 rfl (by kernel_rfl) (by decide) (by simp) (by simp [hpLt]) (by decide) ?_
  (conv => whnf); (repeat ((first | (refine ⟨rfl, ?_⟩) | (refine ⟨trivial, ?_⟩) | (refine ⟨fun _ => ?_, fun h => absurd h (by decide)⟩) | (refine ⟨fun h => absurd h (by decide), fun _ => ?_⟩) | (refine ⟨by (first | exact Nat.le_of_ble_eq_true rfl | exact ⟨rfl, Nat.le_of_ble_eq_true rfl⟩ | exact ⟨Nat.le_of_ble_eq_true rfl, rfl⟩ | exact ⟨rfl, rfl⟩ | (with_reducible assumption) | exact ⟨by with_reducible assumption, rfl⟩ | ((with_reducible refine bsCond ?_); rfl) | ((with_reducible refine nilsCond ?_); rfl) | omega | exact ⟨rfl, by omega⟩ | exact ⟨by omega, rfl⟩ | exact ⟨by omega, by omega, by omega, by omega, rfl⟩ | decide | (unfold I64; omega) | exact ⟨by omega, by omega, by unfold I64; omega⟩  | exact ⟨trivial, fun q hq => absurd hq List.not_mem_nil⟩ | (simp [AV.all, AC.all, AE.all, ABlk.all, avAll, holes, rgN, outside, ints_LA, LA_nil, LA_cons] <;> fail) | exact ⟨by omega, by show _ < (64 : Int); omega⟩), ?_⟩)); (conv => whnf)))
  refine Tr.loop (md := true) (X := Nat) (st := fun i => ⟨[(3, .c (.int .i64 i)), (1, .c (.ptr 1 0)), (0, .c (.ptr 0 0))], [(1, .own (ints (aloneSt i))), (0, .own (ints (aloneSt 0)))], 2, 11, 0⟩) (inv := fun i => i ≤ 8) (μ := fun i => 8 - i) (x0 := 0) (l := []) tok (by decide) ?_ ?_
  · refine Sub.nil ?_ ?_ ?_
    · exact ⟨rfl, rfl, (by simp), rfl, (by simp [tupA, hpLt, tmLt, AV.lt, AE.lt, AC.lt, LL_cons, LL_nil, idOk, ABlk.lt, ints_LL, GB]), (by simp [tupA, hpLt, tmLt, AV.lt, AE.lt, AC.lt, LL_cons, LL_nil, idOk, ABlk.lt, ints_LL, GB])⟩
    · exact ⟨rfl, rfl, rfl, trivial⟩
    · exact ⟨rfl, rfl, trivial⟩
  · intro i hi
    (conv => whnf); (repeat ((first | (refine ⟨rfl, ?_⟩) | (refine ⟨trivial, ?_⟩) | (refine ⟨fun _ => ?_, fun h => absurd h (by decide)⟩) | (refine ⟨fun h => absurd h (by decide), fun _ => ?_⟩) | (refine ⟨by (first | exact Nat.le_of_ble_eq_true rfl | exact ⟨rfl, Nat.le_of_ble_eq_true rfl⟩ | exact ⟨Nat.le_of_ble_eq_true rfl, rfl⟩ | exact ⟨rfl, rfl⟩ | (with_reducible assumption) | exact ⟨by with_reducible assumption, rfl⟩ | ((with_reducible refine bsCond ?_); rfl) | ((with_reducible refine nilsCond ?_); rfl) | omega | exact ⟨rfl, by omega⟩ | exact ⟨by omega, rfl⟩ | exact ⟨by omega, by omega, by omega, by omega, rfl⟩ | decide | (unfold I64; omega) | exact ⟨by omega, by omega, by unfold I64; omega⟩  | exact ⟨trivial, fun q hq => absurd hq List.not_mem_nil⟩ | (simp [AV.all, AC.all, AE.all, ABlk.all, avAll, holes, rgN, outside, ints_LA, LA_nil, LA_cons] <;> fail) | exact ⟨by omega, by show _ < (64 : Int); omega⟩), ?_⟩)); (conv => whnf)))
    refine ⟨fun h => ?_, fun h => ?_⟩ <;> simp only [decide_eq_true_eq, decide_eq_false_iff_not] at h
    · (conv => whnf); (repeat ((first | (refine ⟨rfl, ?_⟩) | (refine ⟨trivial, ?_⟩) | (refine ⟨fun _ => ?_, fun h => absurd h (by decide)⟩) | (refine ⟨fun h => absurd h (by decide), fun _ => ?_⟩) | (refine ⟨by (first | exact Nat.le_of_ble_eq_true rfl | exact ⟨rfl, Nat.le_of_ble_eq_true rfl⟩ | exact ⟨Nat.le_of_ble_eq_true rfl, rfl⟩ | exact ⟨rfl, rfl⟩ | (with_reducible assumption) | exact ⟨by with_reducible assumption, rfl⟩ | ((with_reducible refine bsCond ?_); rfl) | ((with_reducible refine nilsCond ?_); rfl) | omega | exact ⟨rfl, by omega⟩ | exact ⟨by omega, rfl⟩ | exact ⟨by omega, by omega, by omega, by omega, rfl⟩ | decide | (unfold I64; omega) | exact ⟨by omega, by omega, by unfold I64; omega⟩  | exact ⟨trivial, fun q hq => absurd hq List.not_mem_nil⟩ | (simp [AV.all, AC.all, AE.all, ABlk.all, avAll, holes, rgN, outside, ints_LA, LA_nil, LA_cons] <;> fail) | exact ⟨by omega, by show _ < (64 : Int); omega⟩), ?_⟩)); (conv => whnf)))
      refine ⟨⟨rfl, by simp [ints_len, aloneSt_len]; omega⟩, ?_⟩
      (conv => whnf); (repeat ((first | (refine ⟨rfl, ?_⟩) | (refine ⟨trivial, ?_⟩) | (refine ⟨fun _ => ?_, fun h => absurd h (by decide)⟩) | (refine ⟨fun h => absurd h (by decide), fun _ => ?_⟩) | (refine ⟨by (first | exact Nat.le_of_ble_eq_true rfl | exact ⟨rfl, Nat.le_of_ble_eq_true rfl⟩ | exact ⟨Nat.le_of_ble_eq_true rfl, rfl⟩ | exact ⟨rfl, rfl⟩ | (with_reducible assumption) | exact ⟨by with_reducible assumption, rfl⟩ | ((with_reducible refine bsCond ?_); rfl) | ((with_reducible refine nilsCond ?_); rfl) | omega | exact ⟨rfl, by omega⟩ | exact ⟨by omega, rfl⟩ | exact ⟨by omega, by omega, by omega, by omega, rfl⟩ | decide | (unfold I64; omega) | exact ⟨by omega, by omega, by unfold I64; omega⟩  | exact ⟨trivial, fun q hq => absurd hq List.not_mem_nil⟩ | (simp [AV.all, AC.all, AE.all, ABlk.all, avAll, holes, rgN, outside, ints_LA, LA_nil, LA_cons] <;> fail) | exact ⟨by omega, by show _ < (64 : Int); omega⟩), ?_⟩)); (conv => whnf)))
      refine Again.mk (i + 1) (Sub.nil ?_ ?_ ?_) (by omega) (by omega)
      · exact ⟨rfl, rfl, (by simp), rfl, (by simp [tupA, hpLt, tmLt, AV.lt, AE.lt, AC.lt, LL_cons, LL_nil, idOk, ABlk.lt, ints_LL, GB]), (by simp [tupA, hpLt, tmLt, AV.lt, AE.lt, AC.lt, LL_cons, LL_nil, idOk, ABlk.lt, ints_LL, GB])⟩
      · exact ⟨rfl, rfl, rfl, trivial⟩
      · refine ⟨?_, rfl, trivial⟩
        show ABlk.own _ = ABlk.own _
        simp [ints_set, aloneSt_set (show i < 8 by omega)]
    · obtain rfl : i = 8 := by omega
      (conv => whnf); (repeat ((first | (refine ⟨rfl, ?_⟩) | (refine ⟨trivial, ?_⟩) | (refine ⟨fun _ => ?_, fun h => absurd h (by decide)⟩) | (refine ⟨fun h => absurd h (by decide), fun _ => ?_⟩) | (refine ⟨by (first | exact Nat.le_of_ble_eq_true rfl | exact ⟨rfl, Nat.le_of_ble_eq_true rfl⟩ | exact ⟨Nat.le_of_ble_eq_true rfl, rfl⟩ | exact ⟨rfl, rfl⟩ | (with_reducible assumption) | exact ⟨by with_reducible assumption, rfl⟩ | ((with_reducible refine bsCond ?_); rfl) | ((with_reducible refine nilsCond ?_); rfl) | omega | exact ⟨rfl, by omega⟩ | exact ⟨by omega, rfl⟩ | exact ⟨by omega, by omega, by omega, by omega, rfl⟩ | decide | (unfold I64; omega) | exact ⟨by omega, by omega, by unfold I64; omega⟩  | exact ⟨trivial, fun q hq => absurd hq List.not_mem_nil⟩ | (simp [AV.all, AC.all, AE.all, ABlk.all, avAll, holes, rgN, outside, ints_LA, LA_nil, LA_cons] <;> fail) | exact ⟨by omega, by show _ < (64 : Int); omega⟩), ?_⟩)); (conv => whnf)))
      exact Fin.nil [] ⟨rfl, rfl, rfl⟩ (ints_LL _ _) trivial trivial rfl (by decide)

/-- Eight places, each with one that is no higher. -/
def Grp (xs : List Int) : Prop := xs.length = 8 ∧ ∀ i, i < 8 → 0 ≤ xs.getD i 0 ∧ xs.getD i 0 ≤ i
def rootF (xs : List Int) : Nat → Nat → Nat
  | 0, n => n
  | f + 1, n => if xs.getD n 0 = n then n else rootF xs f (xs.getD n 0).toNat
def root (xs : List Int) (n : Nat) : Nat := rootF xs (n + 1) n
theorem rootF_enough {xs : List Int} (h : Grp xs) : ∀ f g n, n < 8 → n < f → n < g → rootF xs f n = rootF xs g n
  | 0, _, _, _, h1, _ => by omega
  | _, 0, _, _, _, h2 => by omega
  | f + 1, g + 1, n, hn, h1, h2 => by
    simp only [rootF]
    have := h.2 n hn
    split
    · rfl
    · exact rootF_enough h f g _ (by omega) (by omega) (by omega)
theorem root_stop {xs : List Int} {n : Nat} (h : xs.getD n 0 = n) : root xs n = n := by simp only [root, rootF, if_pos h]
theorem root_go {xs : List Int} (h : Grp xs) {n : Nat} (hn : n < 8) (hne : xs.getD n 0 ≠ n) : root xs n = root xs (xs.getD n 0).toNat := by
  have := h.2 n hn
  simp only [root]
  rw [show rootF xs (n + 1) n = rootF xs n (xs.getD n 0).toNat by simp only [rootF, if_neg hne]]
  exact rootF_enough h _ _ _ (by omega) (by omega) (by omega)
theorem root_le {xs : List Int} (h : Grp xs) {n : Nat} (hn : n < 8) : root xs n ≤ n := by
  have : ∀ f n, n < 8 → rootF xs f n ≤ n := by
    intro f
    induction f with
    | zero => intro n _; exact Nat.le_refl _
    | succ f ih =>
      intro n hn
      have h1 := h.2 n hn
      simp only [rootF]
      split
      · exact Nat.le_refl _
      · have := ih (xs.getD n 0).toNat (by omega); omega
  exact this _ n hn

theorem first_spec {xs : List Int} (h : Grp xs) {x : Nat} (hx : x < 8) : FDet Tryd.prog 110 [.c (.ptr 0 0), .c (.int .i64 x)] [(0, .ro (ints xs))] 1 (.c (.int .i64 (root xs x))) [] 1 := by
  refine FSpec.of_body tok true Tryd.func110 rfl (by kernel_rfl) (by decide) (by simp [AV.lt, AC.lt, idOk]) (by simp [hpLt, idOk, ABlk.lt, ints_LL]) (by show 2 ≤ _; decide) ?_
  (conv => whnf); (repeat ((first | (refine ⟨rfl, ?_⟩) | (refine ⟨trivial, ?_⟩) | (refine ⟨fun _ => ?_, fun h => absurd h (by decide)⟩) | (refine ⟨fun h => absurd h (by decide), fun _ => ?_⟩) | (refine ⟨by (first | exact Nat.le_of_ble_eq_true rfl | exact ⟨rfl, Nat.le_of_ble_eq_true rfl⟩ | exact ⟨Nat.le_of_ble_eq_true rfl, rfl⟩ | exact ⟨rfl, rfl⟩ | (with_reducible assumption) | exact ⟨by with_reducible assumption, rfl⟩ | ((with_reducible refine bsCond ?_); rfl) | ((with_reducible refine nilsCond ?_); rfl) | omega | exact ⟨rfl, by omega⟩ | exact ⟨by omega, rfl⟩ | exact ⟨by omega, by omega, by omega, by omega, rfl⟩ | decide | (unfold I64; omega) | exact ⟨by omega, by omega, by unfold I64; omega⟩  | exact ⟨trivial, fun q hq => absurd hq List.not_mem_nil⟩ | (simp [AV.all, AC.all, AE.all, ABlk.all, avAll, holes, rgN, outside, ints_LA, LA_nil, LA_cons] <;> fail) | exact ⟨by omega, by show _ < (64 : Int); omega⟩), ?_⟩)); (conv => whnf)))
  refine Tr.loop (md := true) (X := Nat) (st := fun n => ⟨[(0, .c (.ptr 0 0)), (1, .c (.int .i64 n))], [(0, .ro (ints xs))], 1, 18, 1⟩) (inv := fun n => n < 8 ∧ root xs n = root xs x) (μ := fun n => n) (x0 := x) (l := []) tok ⟨hx, rfl⟩ ?_ ?_
  · exact Sub.nil ⟨rfl, rfl, (by simp), rfl, (by simp [tupA, hpLt, tmLt, AV.lt, AE.lt, AC.lt, LL_cons, LL_nil, idOk, ABlk.lt, ints_LL, GB]), (by simp [tupA, hpLt, tmLt, AV.lt, AE.lt, AC.lt, LL_cons, LL_nil, idOk, ABlk.lt, ints_LL, GB])⟩ ⟨rfl, rfl, trivial⟩ ⟨rfl, trivial⟩
  · rintro n ⟨hn, hr⟩
    have hg := h.2 n hn
    (conv => whnf); (repeat ((first | (refine ⟨rfl, ?_⟩) | (refine ⟨trivial, ?_⟩) | (refine ⟨fun _ => ?_, fun h => absurd h (by decide)⟩) | (refine ⟨fun h => absurd h (by decide), fun _ => ?_⟩) | (refine ⟨by (first | exact Nat.le_of_ble_eq_true rfl | exact ⟨rfl, Nat.le_of_ble_eq_true rfl⟩ | exact ⟨Nat.le_of_ble_eq_true rfl, rfl⟩ | exact ⟨rfl, rfl⟩ | (with_reducible assumption) | exact ⟨by with_reducible assumption, rfl⟩ | ((with_reducible refine bsCond ?_); rfl) | ((with_reducible refine nilsCond ?_); rfl) | omega | exact ⟨rfl, by omega⟩ | exact ⟨by omega, rfl⟩ | exact ⟨by omega, by omega, by omega, by omega, rfl⟩ | decide | (unfold I64; omega) | exact ⟨by omega, by omega, by unfold I64; omega⟩  | exact ⟨trivial, fun q hq => absurd hq List.not_mem_nil⟩ | (simp [AV.all, AC.all, AE.all, ABlk.all, avAll, holes, rgN, outside, ints_LA, LA_nil, LA_cons] <;> fail) | exact ⟨by omega, by show _ < (64 : Int); omega⟩), ?_⟩)); (conv => whnf)))
    refine ⟨by simp [ints_len, h.1]; omega, ?_⟩
    simp only [ints_getD, Int.toNat_natCast, Nat.zero_add, Nat.mul_one]
    (conv => whnf); (repeat ((first | (refine ⟨rfl, ?_⟩) | (refine ⟨trivial, ?_⟩) | (refine ⟨fun _ => ?_, fun h => absurd h (by decide)⟩) | (refine ⟨fun h => absurd h (by decide), fun _ => ?_⟩) | (refine ⟨by (first | exact Nat.le_of_ble_eq_true rfl | exact ⟨rfl, Nat.le_of_ble_eq_true rfl⟩ | exact ⟨Nat.le_of_ble_eq_true rfl, rfl⟩ | exact ⟨rfl, rfl⟩ | (with_reducible assumption) | exact ⟨by with_reducible assumption, rfl⟩ | ((with_reducible refine bsCond ?_); rfl) | ((with_reducible refine nilsCond ?_); rfl) | omega | exact ⟨rfl, by omega⟩ | exact ⟨by omega, rfl⟩ | exact ⟨by omega, by omega, by omega, by omega, rfl⟩ | decide | (unfold I64; omega) | exact ⟨by omega, by omega, by unfold I64; omega⟩  | exact ⟨trivial, fun q hq => absurd hq List.not_mem_nil⟩ | (simp [AV.all, AC.all, AE.all, ABlk.all, avAll, holes, rgN, outside, ints_LA, LA_nil, LA_cons] <;> fail) | exact ⟨by omega, by show _ < (64 : Int); omega⟩), ?_⟩)); (conv => whnf)))
    refine ⟨fun hc => ?_, fun hc => ?_⟩ <;> simp only [decide_eq_true_eq, decide_eq_false_iff_not, Decidable.not_not] at hc
    · (conv => whnf); (repeat ((first | (refine ⟨rfl, ?_⟩) | (refine ⟨trivial, ?_⟩) | (refine ⟨fun _ => ?_, fun h => absurd h (by decide)⟩) | (refine ⟨fun h => absurd h (by decide), fun _ => ?_⟩) | (refine ⟨by (first | exact Nat.le_of_ble_eq_true rfl | exact ⟨rfl, Nat.le_of_ble_eq_true rfl⟩ | exact ⟨Nat.le_of_ble_eq_true rfl, rfl⟩ | exact ⟨rfl, rfl⟩ | (with_reducible assumption) | exact ⟨by with_reducible assumption, rfl⟩ | ((with_reducible refine bsCond ?_); rfl) | ((with_reducible refine nilsCond ?_); rfl) | omega | exact ⟨rfl, by omega⟩ | exact ⟨by omega, rfl⟩ | exact ⟨by omega, by omega, by omega, by omega, rfl⟩ | decide | (unfold I64; omega) | exact ⟨by omega, by omega, by unfold I64; omega⟩  | exact ⟨trivial, fun q hq => absurd hq List.not_mem_nil⟩ | (simp [AV.all, AC.all, AE.all, ABlk.all, avAll, holes, rgN, outside, ints_LA, LA_nil, LA_cons] <;> fail) | exact ⟨by omega, by show _ < (64 : Int); omega⟩), ?_⟩)); (conv => whnf)))
      refine ⟨by simp [ints_len, h.1]; omega, ?_⟩
      simp only [ints_getD, Int.toNat_natCast, Nat.zero_add, Nat.mul_one]
      (conv => whnf); (repeat ((first | (refine ⟨rfl, ?_⟩) | (refine ⟨trivial, ?_⟩) | (refine ⟨fun _ => ?_, fun h => absurd h (by decide)⟩) | (refine ⟨fun h => absurd h (by decide), fun _ => ?_⟩) | (refine ⟨by (first | exact Nat.le_of_ble_eq_true rfl | exact ⟨rfl, Nat.le_of_ble_eq_true rfl⟩ | exact ⟨Nat.le_of_ble_eq_true rfl, rfl⟩ | exact ⟨rfl, rfl⟩ | (with_reducible assumption) | exact ⟨by with_reducible assumption, rfl⟩ | ((with_reducible refine bsCond ?_); rfl) | ((with_reducible refine nilsCond ?_); rfl) | omega | exact ⟨rfl, by omega⟩ | exact ⟨by omega, rfl⟩ | exact ⟨by omega, by omega, by omega, by omega, rfl⟩ | decide | (unfold I64; omega) | exact ⟨by omega, by omega, by unfold I64; omega⟩  | exact ⟨trivial, fun q hq => absurd hq List.not_mem_nil⟩ | (simp [AV.all, AC.all, AE.all, ABlk.all, avAll, holes, rgN, outside, ints_LA, LA_nil, LA_cons] <;> fail) | exact ⟨by omega, by show _ < (64 : Int); omega⟩), ?_⟩)); (conv => whnf)))
      refine Again.mk (xs.getD n 0).toNat (Sub.nil ⟨rfl, rfl, (by simp), rfl, (by simp [tupA, hpLt, tmLt, AV.lt, AE.lt, AC.lt, LL_cons, LL_nil, idOk, ABlk.lt, ints_LL, GB]), (by simp [tupA, hpLt, tmLt, AV.lt, AE.lt, AC.lt, LL_cons, LL_nil, idOk, ABlk.lt, ints_LL, GB])⟩ ⟨rfl, ?_, trivial⟩ ⟨rfl, trivial⟩) ⟨by omega, by rw [← root_go h hn hc]; exact hr⟩ (by omega)
      show AV.c _ = AV.c _
      rw [Int.toNat_of_nonneg hg.1]
    · (conv => whnf); (repeat ((first | (refine ⟨rfl, ?_⟩) | (refine ⟨trivial, ?_⟩) | (refine ⟨fun _ => ?_, fun h => absurd h (by decide)⟩) | (refine ⟨fun h => absurd h (by decide), fun _ => ?_⟩) | (refine ⟨by (first | exact Nat.le_of_ble_eq_true rfl | exact ⟨rfl, Nat.le_of_ble_eq_true rfl⟩ | exact ⟨Nat.le_of_ble_eq_true rfl, rfl⟩ | exact ⟨rfl, rfl⟩ | (with_reducible assumption) | exact ⟨by with_reducible assumption, rfl⟩ | ((with_reducible refine bsCond ?_); rfl) | ((with_reducible refine nilsCond ?_); rfl) | omega | exact ⟨rfl, by omega⟩ | exact ⟨by omega, rfl⟩ | exact ⟨by omega, by omega, by omega, by omega, rfl⟩ | decide | (unfold I64; omega) | exact ⟨by omega, by omega, by unfold I64; omega⟩  | exact ⟨trivial, fun q hq => absurd hq List.not_mem_nil⟩ | (simp [AV.all, AC.all, AE.all, ABlk.all, avAll, holes, rgN, outside, ints_LA, LA_nil, LA_cons] <;> fail) | exact ⟨by omega, by show _ < (64 : Int); omega⟩), ?_⟩)); (conv => whnf)))
      exact Fin.nil [] ⟨by rw [← hr, root_stop hc]; rfl, rfl, rfl⟩ trivial trivial trivial rfl (by simp [GB])

def joinL (xs : List Int) (a b : Nat) : List Int := xs.set (max (root xs a) (root xs b)) (min (root xs a) (root xs b) : Nat)
theorem join_spec {xs : List Int} (h : Grp xs) {a b : Nat} (ha : a < 8) (hb : b < 8) : FDet Tryd.prog 95 [.c (.ptr 0 0), .g [.int .i64 a, .int .i64 b]] [(0, .own (ints xs))] 1 (.c (.bool (decide (root xs a ≠ root xs b)))) [(0, .own (ints (joinL xs a b)))] 1 := by
  have hra := root_le h ha
  have hrb := root_le h hb
  refine FSpec.of_body tok true Tryd.func95 rfl (by kernel_rfl) (by decide) (by simp [AV.lt, AC.lt, idOk, LL]) (by simp [hpLt, idOk, ABlk.lt, ints_LL]) (by show 2 ≤ _; decide) ?_
  (conv => whnf); (repeat ((first | (refine ⟨rfl, ?_⟩) | (refine ⟨trivial, ?_⟩) | (refine ⟨fun _ => ?_, fun h => absurd h (by decide)⟩) | (refine ⟨fun h => absurd h (by decide), fun _ => ?_⟩) | (refine ⟨by (first | exact Nat.le_of_ble_eq_true rfl | exact ⟨rfl, Nat.le_of_ble_eq_true rfl⟩ | exact ⟨Nat.le_of_ble_eq_true rfl, rfl⟩ | exact ⟨rfl, rfl⟩ | (with_reducible assumption) | exact ⟨by with_reducible assumption, rfl⟩ | ((with_reducible refine bsCond ?_); rfl) | ((with_reducible refine nilsCond ?_); rfl) | omega | exact ⟨rfl, by omega⟩ | exact ⟨by omega, rfl⟩ | exact ⟨by omega, by omega, by omega, by omega, rfl⟩ | decide | (unfold I64; omega) | exact ⟨by omega, by omega, by unfold I64; omega⟩  | exact ⟨trivial, fun q hq => absurd hq List.not_mem_nil⟩ | (simp [AV.all, AC.all, AE.all, ABlk.all, avAll, holes, rgN, outside, ints_LA, LA_nil, LA_cons] <;> fail) | exact ⟨by omega, by show _ < (64 : Int); omega⟩), ?_⟩)); (conv => whnf)))
  refine Tr.draw (md := true) [⟨[], [8, 9, 11, 12, 13], []⟩, ⟨[], [7, 11, 12, 13], [0]⟩, ⟨[1], [7, 11, 12, 13], [0]⟩, ⟨[0, 1, 2], [11, 12, 13], []⟩, ⟨[], [7, 8, 9, 10, 12, 13], [0, 1, 2, 3]⟩, ⟨[], [7, 8, 9, 10, 11], [0, 1, 2, 3, 4]⟩, ⟨[5], [7, 8, 9, 10, 11], [0, 1, 2, 3, 4]⟩] tok (by kernel_rfl) (by kernel_rfl) ?_
  (conv => whnf); (repeat ((first | (refine ⟨rfl, ?_⟩) | (refine ⟨trivial, ?_⟩) | (refine ⟨fun _ => ?_, fun h => absurd h (by decide)⟩) | (refine ⟨fun h => absurd h (by decide), fun _ => ?_⟩) | (refine ⟨by (first | exact Nat.le_of_ble_eq_true rfl | exact ⟨rfl, Nat.le_of_ble_eq_true rfl⟩ | exact ⟨Nat.le_of_ble_eq_true rfl, rfl⟩ | exact ⟨rfl, rfl⟩ | (with_reducible assumption) | exact ⟨by with_reducible assumption, rfl⟩ | ((with_reducible refine bsCond ?_); rfl) | ((with_reducible refine nilsCond ?_); rfl) | omega | exact ⟨rfl, by omega⟩ | exact ⟨by omega, rfl⟩ | exact ⟨by omega, by omega, by omega, by omega, rfl⟩ | decide | (unfold I64; omega) | exact ⟨by omega, by omega, by unfold I64; omega⟩  | exact ⟨trivial, fun q hq => absurd hq List.not_mem_nil⟩ | (simp [AV.all, AC.all, AE.all, ABlk.all, avAll, holes, rgN, outside, ints_LA, LA_nil, LA_cons] <;> fail) | exact ⟨by omega, by show _ < (64 : Int); omega⟩), ?_⟩)); (conv => whnf)))
  refine CallQ.ro [0] (.c (.int .i64 (root xs a))) (first_spec h ha) rfl rfl ⟨⟨.inl (by decide), ?_⟩, trivial⟩ rfl ?_
  · exact congrArg some (ints_ren _ _).symm
  (conv => whnf); (repeat ((first | (refine ⟨rfl, ?_⟩) | (refine ⟨trivial, ?_⟩) | (refine ⟨fun _ => ?_, fun h => absurd h (by decide)⟩) | (refine ⟨fun h => absurd h (by decide), fun _ => ?_⟩) | (refine ⟨by (first | exact Nat.le_of_ble_eq_true rfl | exact ⟨rfl, Nat.le_of_ble_eq_true rfl⟩ | exact ⟨Nat.le_of_ble_eq_true rfl, rfl⟩ | exact ⟨rfl, rfl⟩ | (with_reducible assumption) | exact ⟨by with_reducible assumption, rfl⟩ | ((with_reducible refine bsCond ?_); rfl) | ((with_reducible refine nilsCond ?_); rfl) | omega | exact ⟨rfl, by omega⟩ | exact ⟨by omega, rfl⟩ | exact ⟨by omega, by omega, by omega, by omega, rfl⟩ | decide | (unfold I64; omega) | exact ⟨by omega, by omega, by unfold I64; omega⟩  | exact ⟨trivial, fun q hq => absurd hq List.not_mem_nil⟩ | (simp [AV.all, AC.all, AE.all, ABlk.all, avAll, holes, rgN, outside, ints_LA, LA_nil, LA_cons] <;> fail) | exact ⟨by omega, by show _ < (64 : Int); omega⟩), ?_⟩)); (conv => whnf)))
  refine CallA.ro [0] (.c (.int .i64 (root xs b))) (first_spec h hb) rfl rfl ⟨⟨.inl (by decide), ?_⟩, trivial⟩ rfl ?_
  · exact congrArg some (ints_ren _ _).symm
  (conv => whnf); (repeat ((first | (refine ⟨rfl, ?_⟩) | (refine ⟨trivial, ?_⟩) | (refine ⟨fun _ => ?_, fun h => absurd h (by decide)⟩) | (refine ⟨fun h => absurd h (by decide), fun _ => ?_⟩) | (refine ⟨by (first | exact Nat.le_of_ble_eq_true rfl | exact ⟨rfl, Nat.le_of_ble_eq_true rfl⟩ | exact ⟨Nat.le_of_ble_eq_true rfl, rfl⟩ | exact ⟨rfl, rfl⟩ | (with_reducible assumption) | exact ⟨by with_reducible assumption, rfl⟩ | ((with_reducible refine bsCond ?_); rfl) | ((with_reducible refine nilsCond ?_); rfl) | omega | exact ⟨rfl, by omega⟩ | exact ⟨by omega, rfl⟩ | exact ⟨by omega, by omega, by omega, by omega, rfl⟩ | decide | (unfold I64; omega) | exact ⟨by omega, by omega, by unfold I64; omega⟩  | exact ⟨trivial, fun q hq => absurd hq List.not_mem_nil⟩ | (simp [AV.all, AC.all, AE.all, ABlk.all, avAll, holes, rgN, outside, ints_LA, LA_nil, LA_cons] <;> fail) | exact ⟨by omega, by show _ < (64 : Int); omega⟩), ?_⟩)); (conv => whnf)))
  refine ⟨⟨rfl, by simp only [ints_len, h.1]; omega⟩, ?_⟩
  (conv => whnf); (repeat ((first | (refine ⟨rfl, ?_⟩) | (refine ⟨trivial, ?_⟩) | (refine ⟨fun _ => ?_, fun h => absurd h (by decide)⟩) | (refine ⟨fun h => absurd h (by decide), fun _ => ?_⟩) | (refine ⟨by (first | exact Nat.le_of_ble_eq_true rfl | exact ⟨rfl, Nat.le_of_ble_eq_true rfl⟩ | exact ⟨Nat.le_of_ble_eq_true rfl, rfl⟩ | exact ⟨rfl, rfl⟩ | (with_reducible assumption) | exact ⟨by with_reducible assumption, rfl⟩ | ((with_reducible refine bsCond ?_); rfl) | ((with_reducible refine nilsCond ?_); rfl) | omega | exact ⟨rfl, by omega⟩ | exact ⟨by omega, rfl⟩ | exact ⟨by omega, by omega, by omega, by omega, rfl⟩ | decide | (unfold I64; omega) | exact ⟨by omega, by omega, by unfold I64; omega⟩  | exact ⟨trivial, fun q hq => absurd hq List.not_mem_nil⟩ | (simp [AV.all, AC.all, AE.all, ABlk.all, avAll, holes, rgN, outside, ints_LA, LA_nil, LA_cons] <;> fail) | exact ⟨by omega, by show _ < (64 : Int); omega⟩), ?_⟩)); (conv => whnf)))
  refine Fin.nil [(0, .own (ints (joinL xs a b)))] ⟨?_, rfl, rfl⟩ trivial ⟨?_, trivial⟩ (by simp [tupA, hpLt, tmLt, AV.lt, AE.lt, AC.lt, LL_cons, LL_nil, idOk, ABlk.lt, ints_LL, GB]) rfl (by simp [GB])
  · show AV.c (.bool _) = AV.c (.bool _)
    simp; omega
  · show ABlk.own _ = ABlk.own _
    have e : (0 + (max ((root xs a : Nat) : Int) ((root xs b : Nat) : Int)).toNat * 1) = max (root xs a) (root xs b) := by omega
    have e2 : (min ((root xs a : Nat) : Int) ((root xs b : Nat) : Int)) = ((min (root xs a) (root xs b) : Nat) : Int) := by omega
    rw [e, e2, ints_set]; rfl
end Go.Proofs.YtfphkpdobbffeaaDoor
