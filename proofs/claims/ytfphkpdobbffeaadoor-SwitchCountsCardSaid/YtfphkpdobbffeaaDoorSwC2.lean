/-
  Contracts: sets of places and wires as numbers.
-/
import Derived.Test.YtfphkpdobbffeaaDoorSwC1
import Derived.Test.YtfphkpdobbffeaaDoorAh22
set_option linter.unusedSimpArgs false
set_option linter.unusedVariables false
namespace Go.Proofs.YtfphkpdobbffeaaDoor
open Go Go.AH
set_option maxRecDepth 100000
set_option maxHeartbeats 1000000

/-- The table of bits.TrailingZeros64. -/
def tabI : List Int := [0, 1, 56, 2, 57, 49, 28, 3, 61, 58, 42, 50, 38, 29, 17, 4, 62, 47, 59, 36, 45, 43, 51, 22, 53, 39, 33, 30, 24, 18, 12, 5, 63, 55, 48, 27, 60, 41, 37, 16, 46, 35, 44, 21, 52, 32, 23, 11, 54, 26, 40, 15, 34, 20, 31, 10, 25, 14, 19, 9, 13, 8, 7, 6]
def tab64 : List AC := tabI.map (AC.int .u8)
theorem tab64_getD (i : Nat) : tab64.getD i (.int .u8 0) = .int .u8 (tabI.getD i 0) := by
  simp [tab64, List.getD_eq_getElem?_getD]
theorem tab64_LL (n : Nat) : LL n tab64 := fun x hx => by
  obtain ⟨y, _, rfl⟩ := List.mem_map.1 hx; trivial
theorem tab64_ren (q : Nat → Nat) : tab64.map (AC.ren q) = tab64 := by
  simp [tab64, Function.comp_def, AC.ren]
theorem tab64_len : tab64.length = 64 := rfl

def tzF : Nat → Nat → Nat
  | 0, _ => 0
  | f + 1, n => if n % 2 = 1 then 0 else tzF f (n / 2) + 1
def tz (n : Nat) : Nat := tzF 10 n

def dbIdx (n : Int) : Int := (IntKind.u64.wrap (IntKind.u64.wrap ((BitVec.ofInt 64 n &&& BitVec.ofInt 64 (IntKind.u64.wrap (0 - n))).toNat) * 285870213051353865)).fdiv (2 ^ (min (58 : Int).toNat 64))
theorem dbIdx_ok : ∀ n : Nat, n < 1024 → 0 < n → (0 ≤ dbIdx n ∧ dbIdx n < 64) ∧ tabI.getD (dbIdx n).toNat 0 = tz n ∧ IntKind.i64.wrap (tz n) = tz n := by
  decide +kernel

theorem tz64_spec {n : Nat} (hn : n < 1024) (h0 : 0 < n) : FDet Tryd.prog 116 [.c (.int .u64 n)] [(100002, .ro tab64)] 0 (.c (.int .i64 (tz n))) [] 0 := by
  obtain ⟨k1, k2, k3⟩ := dbIdx_ok n hn h0
  refine FSpec.of_body tok false Tryd.func116 rfl (by kernel_rfl) (by decide) (by simp [AV.lt, AC.lt, idOk]) (by simp [hpLt, idOk, ABlk.lt, tab64_LL, GB]) (by show 1 ≤ _; decide) ?_
  (conv => whnf); (repeat ((first | (refine ⟨rfl, ?_⟩) | (refine ⟨trivial, ?_⟩) | (refine ⟨fun _ => ?_, fun h => absurd h (by decide)⟩) | (refine ⟨fun h => absurd h (by decide), fun _ => ?_⟩) | (refine ⟨by (first | exact Nat.le_of_ble_eq_true rfl | exact ⟨rfl, Nat.le_of_ble_eq_true rfl⟩ | exact ⟨Nat.le_of_ble_eq_true rfl, rfl⟩ | exact ⟨rfl, rfl⟩ | (with_reducible assumption) | exact ⟨by with_reducible assumption, rfl⟩ | ((with_reducible refine bsCond ?_); rfl) | ((with_reducible refine nilsCond ?_); rfl) | omega | exact ⟨rfl, by omega⟩ | exact ⟨by omega, rfl⟩ | exact ⟨by omega, by omega, by omega, by omega, rfl⟩ | decide | (unfold I64; omega) | exact ⟨by omega, by omega, by unfold I64; omega⟩  | exact ⟨trivial, fun q hq => absurd hq List.not_mem_nil⟩ | (simp [AV.all, AC.all, AE.all, ABlk.all, avAll, holes, rgN, outside, ints_LA, LA_nil, LA_cons] <;> fail) | exact ⟨by omega, by show _ < (64 : Int); omega⟩), ?_⟩)); (conv => whnf)))
  refine ⟨fun hc => ?_, fun hc => ?_⟩ <;> simp only [decide_eq_true_eq, decide_eq_false_iff_not, Decidable.not_not] at hc
  · omega
  (conv => whnf); (repeat ((first | (refine ⟨rfl, ?_⟩) | (refine ⟨trivial, ?_⟩) | (refine ⟨fun _ => ?_, fun h => absurd h (by decide)⟩) | (refine ⟨fun h => absurd h (by decide), fun _ => ?_⟩) | (refine ⟨by (first | exact Nat.le_of_ble_eq_true rfl | exact ⟨rfl, Nat.le_of_ble_eq_true rfl⟩ | exact ⟨Nat.le_of_ble_eq_true rfl, rfl⟩ | exact ⟨rfl, rfl⟩ | (with_reducible assumption) | exact ⟨by with_reducible assumption, rfl⟩ | ((with_reducible refine bsCond ?_); rfl) | ((with_reducible refine nilsCond ?_); rfl) | omega | exact ⟨rfl, by omega⟩ | exact ⟨by omega, rfl⟩ | exact ⟨by omega, by omega, by omega, by omega, rfl⟩ | decide | (unfold I64; omega) | exact ⟨by omega, by omega, by unfold I64; omega⟩  | exact ⟨trivial, fun q hq => absurd hq List.not_mem_nil⟩ | (simp [AV.all, AC.all, AE.all, ABlk.all, avAll, holes, rgN, outside, ints_LA, LA_nil, LA_cons] <;> fail) | exact ⟨by omega, by show _ < (64 : Int); omega⟩), ?_⟩)); (conv => whnf)))
  refine ⟨k1, ?_⟩
  (conv => whnf); (repeat ((first | (refine ⟨rfl, ?_⟩) | (refine ⟨trivial, ?_⟩) | (refine ⟨fun _ => ?_, fun h => absurd h (by decide)⟩) | (refine ⟨fun h => absurd h (by decide), fun _ => ?_⟩) | (refine ⟨by (first | exact Nat.le_of_ble_eq_true rfl | exact ⟨rfl, Nat.le_of_ble_eq_true rfl⟩ | exact ⟨Nat.le_of_ble_eq_true rfl, rfl⟩ | exact ⟨rfl, rfl⟩ | (with_reducible assumption) | exact ⟨by with_reducible assumption, rfl⟩ | ((with_reducible refine bsCond ?_); rfl) | ((with_reducible refine nilsCond ?_); rfl) | omega | exact ⟨rfl, by omega⟩ | exact ⟨by omega, rfl⟩ | exact ⟨by omega, by omega, by omega, by omega, rfl⟩ | decide | (unfold I64; omega) | exact ⟨by omega, by omega, by unfold I64; omega⟩  | exact ⟨trivial, fun q hq => absurd hq List.not_mem_nil⟩ | (simp [AV.all, AC.all, AE.all, ABlk.all, avAll, holes, rgN, outside, ints_LA, LA_nil, LA_cons] <;> fail) | exact ⟨by omega, by show _ < (64 : Int); omega⟩), ?_⟩)); (conv => whnf)))
  refine ⟨by rw [tab64_len]; show 0 + (dbIdx n).toNat * 1 + 1 ≤ 64; omega, ?_⟩
  rw [tab64_getD, show (0 + Int.toNat _ * 1) = (dbIdx n).toNat from by rw [Nat.zero_add, Nat.mul_one]; rfl, k2]
  (conv => whnf); (repeat ((first | (refine ⟨rfl, ?_⟩) | (refine ⟨trivial, ?_⟩) | (refine ⟨fun _ => ?_, fun h => absurd h (by decide)⟩) | (refine ⟨fun h => absurd h (by decide), fun _ => ?_⟩) | (refine ⟨by (first | exact Nat.le_of_ble_eq_true rfl | exact ⟨rfl, Nat.le_of_ble_eq_true rfl⟩ | exact ⟨Nat.le_of_ble_eq_true rfl, rfl⟩ | exact ⟨rfl, rfl⟩ | (with_reducible assumption) | exact ⟨by with_reducible assumption, rfl⟩ | ((with_reducible refine bsCond ?_); rfl) | ((with_reducible refine nilsCond ?_); rfl) | omega | exact ⟨rfl, by omega⟩ | exact ⟨by omega, rfl⟩ | exact ⟨by omega, by omega, by omega, by omega, rfl⟩ | decide | (unfold I64; omega) | exact ⟨by omega, by omega, by unfold I64; omega⟩  | exact ⟨trivial, fun q hq => absurd hq List.not_mem_nil⟩ | (simp [AV.all, AC.all, AE.all, ABlk.all, avAll, holes, rgN, outside, ints_LA, LA_nil, LA_cons] <;> fail) | exact ⟨by omega, by show _ < (64 : Int); omega⟩), ?_⟩)); (conv => whnf)))
  exact Fin.nil [] ⟨by show AV.c (.int .i64 (IntKind.i64.wrap (tz n))) = _; rw [k3], rfl, rfl⟩ trivial trivial trivial rfl (by simp [GB])
theorem tz_spec {n : Nat} (hn : n < 1024) (h0 : 0 < n) : FDet Tryd.prog 99 [.c (.int .u64 n)] [(100002, .ro tab64)] 0 (.c (.int .i64 (tz n))) [] 0 := by
  refine FSpec.of_body tok false Tryd.func99 rfl (by kernel_rfl) (by decide) (by simp [AV.lt, AC.lt, idOk]) (by simp [hpLt, idOk, ABlk.lt, tab64_LL, GB]) (by show 1 ≤ _; decide) ?_
  (conv => whnf); (repeat ((first | (refine ⟨rfl, ?_⟩) | (refine ⟨trivial, ?_⟩) | (refine ⟨fun _ => ?_, fun h => absurd h (by decide)⟩) | (refine ⟨fun h => absurd h (by decide), fun _ => ?_⟩) | (refine ⟨by (first | exact Nat.le_of_ble_eq_true rfl | exact ⟨rfl, Nat.le_of_ble_eq_true rfl⟩ | exact ⟨Nat.le_of_ble_eq_true rfl, rfl⟩ | exact ⟨rfl, rfl⟩ | (with_reducible assumption) | exact ⟨by with_reducible assumption, rfl⟩ | ((with_reducible refine bsCond ?_); rfl) | ((with_reducible refine nilsCond ?_); rfl) | omega | exact ⟨rfl, by omega⟩ | exact ⟨by omega, rfl⟩ | exact ⟨by omega, by omega, by omega, by omega, rfl⟩ | decide | (unfold I64; omega) | exact ⟨by omega, by omega, by unfold I64; omega⟩  | exact ⟨trivial, fun q hq => absurd hq List.not_mem_nil⟩ | (simp [AV.all, AC.all, AE.all, ABlk.all, avAll, holes, rgN, outside, ints_LA, LA_nil, LA_cons] <;> fail) | exact ⟨by omega, by show _ < (64 : Int); omega⟩), ?_⟩)); (conv => whnf)))
  refine CallA.ro [] (.c (.int .i64 (tz n))) (tz64_spec hn h0) rfl rfl ⟨⟨.inr (by decide), ?_⟩, trivial⟩ rfl ?_
  · exact congrArg some (tab64_ren _).symm
  (conv => whnf); (repeat ((first | (refine ⟨rfl, ?_⟩) | (refine ⟨trivial, ?_⟩) | (refine ⟨fun _ => ?_, fun h => absurd h (by decide)⟩) | (refine ⟨fun h => absurd h (by decide), fun _ => ?_⟩) | (refine ⟨by (first | exact Nat.le_of_ble_eq_true rfl | exact ⟨rfl, Nat.le_of_ble_eq_true rfl⟩ | exact ⟨Nat.le_of_ble_eq_true rfl, rfl⟩ | exact ⟨rfl, rfl⟩ | (with_reducible assumption) | exact ⟨by with_reducible assumption, rfl⟩ | ((with_reducible refine bsCond ?_); rfl) | ((with_reducible refine nilsCond ?_); rfl) | omega | exact ⟨rfl, by omega⟩ | exact ⟨by omega, rfl⟩ | exact ⟨by omega, by omega, by omega, by omega, rfl⟩ | decide | (unfold I64; omega) | exact ⟨by omega, by omega, by unfold I64; omega⟩  | exact ⟨trivial, fun q hq => absurd hq List.not_mem_nil⟩ | (simp [AV.all, AC.all, AE.all, ABlk.all, avAll, holes, rgN, outside, ints_LA, LA_nil, LA_cons] <;> fail) | exact ⟨by omega, by show _ < (64 : Int); omega⟩), ?_⟩)); (conv => whnf)))
  exact Fin.nil [] ⟨rfl, rfl, rfl⟩ trivial trivial trivial rfl (by simp [GB])

/-- The elements of a set, rising. -/
def memN (n : Nat) : List Nat := (List.range 10).filter n.testBit
def mem (n : Nat) : List Int := (memN n).map Int.ofNat
theorem memN_step : ∀ n, n < 1024 → 0 < n → memN n = tz n :: memN (n &&& (n - 1)) ∧ (n &&& (n - 1)) < n := by decide +kernel
theorem memN_zero : memN 0 = [] := by decide
theorem mem_step {n : Nat} (hn : n < 1024) (h0 : 0 < n) : mem n = (tz n : Int) :: mem (n &&& (n - 1)) := by
  simp only [mem, (memN_step n hn h0).1]; rfl
end Go.Proofs.YtfphkpdobbffeaaDoor
