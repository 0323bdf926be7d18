/-
  Contracts: a position, as sets; read.
-/
import Derived.Test.YtfphkpdobbffeaaDoorSw6
import Derived.Laws.RangeString
import Derived.Test.YtfphkpdobbffeaaDoorAh5
set_option linter.unusedSimpArgs false
set_option linter.unusedVariables false
namespace Go.Proofs.YtfphkpdobbffeaaDoor
open Go Go.AH
set_option maxRecDepth 100000
set_option maxHeartbeats 1000000

def bitsN (q : Nat → Bool) : Nat → Nat
  | 0 => 0
  | i + 1 => if q i = true then bitsN q i ||| 2 ^ i else bitsN q i
theorem bitsN_bit (q : Nat → Bool) (j : Nat) : ∀ n, (bitsN q n).testBit j = (decide (j < n) && q j)
  | 0 => by simp [bitsN]
  | n + 1 => by
    have ih := bitsN_bit q j n
    rw [bitsN]
    split
    · rename_i h
      rw [Nat.testBit_or, ih, Nat.testBit_two_pow]
      by_cases e : n = j
      · subst e; simp [h]
      · have : decide (j < n + 1) = decide (j < n) := by simp; omega
        rw [this]; simp [e]
    · rename_i h
      rw [ih]
      by_cases e : n = j
      · subst e; simp [h]
      · have : decide (j < n + 1) = decide (j < n) := by simp; omega
        rw [this]
theorem bitsN_lt (q : Nat → Bool) : ∀ n, bitsN q n < 2 ^ n
  | 0 => by simp [bitsN]
  | n + 1 => by
    have ih := bitsN_lt q n
    have h2 : 2 ^ n < 2 ^ (n + 1) := (Nat.pow_lt_pow_iff_right (by omega)).2 (by omega)
    rw [bitsN]
    split
    · exact or_lt (by omega) h2
    · omega
theorem posL_ext {n f k f' k' : Nat} (h : ∀ i, i < n → f.testBit i = f'.testBit i ∧ k.testBit i = k'.testBit i) : posL n f k = posL n f' k' := by
  refine List.map_congr_left fun i hi => ?_
  obtain ⟨a, b⟩ := h i (List.mem_range.1 hi)
  rw [a, b]
/-- The free wires, and the kept ones, of bytes. -/
def fB (n : Nat) (l : List UInt8) : Nat := bitsN (fun i => l.getD i 0 == 46) n
def kB (n : Nat) (l : List UInt8) : Nat := bitsN (fun i => l.getD i 0 == 43) n
theorem fB_lt (n : Nat) (l : List UInt8) : fB n l < 2 ^ n := bitsN_lt _ _
theorem kB_lt (n : Nat) (l : List UInt8) : kB n l < 2 ^ n := bitsN_lt _ _
theorem fkB_dis (n : Nat) (l : List UInt8) (i : Nat) (h : (fB n l).testBit i = true) : (kB n l).testBit i = false := by
  rw [fB, bitsN_bit] at h
  rw [kB, bitsN_bit]
  simp only [Bool.and_eq_true, decide_eq_true_eq, beq_iff_eq] at h
  rw [h.2]; simp
theorem pos_of_ok {n : Nat} {l : List UInt8} (h : okPos n l = true) : l = posL n (fB n l) (kB n l) := by
  simp only [okPos, Bool.and_eq_true, beq_iff_eq, List.all_eq_true] at h
  apply List.ext_getElem (by rw [posL_len]; exact h.1)
  intro i h1 h2
  have h3 : i < n := by omega
  have hp := h.2 _ (List.getElem_mem h1)
  simp only [posL, List.getElem_map, List.getElem_range, fB, kB, bitsN_bit, h3, decide_true, Bool.true_and, List.getD_eq_getElem?_getD, List.getElem?_eq_getElem h1, Option.getD_some]
  simp only [isP, Bool.or_eq_true, beq_iff_eq] at hp
  rcases hp with (hp | hp) | hp <;> rw [hp] <;> decide
theorem ok_pos (n f k : Nat) : okPos n (posL n f k) = true := by
  simp only [okPos, Bool.and_eq_true, beq_iff_eq, List.all_eq_true]
  refine ⟨posL_len n f k, fun c hc => ?_⟩
  obtain ⟨i, _, rfl⟩ := List.mem_map.1 hc
  split
  · rfl
  · split <;> rfl
theorem pos_decode {n f k i : Nat} (h : i < n) : Utf8.decode (posB n f k) i = ((if f.testBit i = true then 46 else if k.testBit i = true then 43 else 45), 1) := by
  have hs := posB_size n f k
  have hl : i < (posB n f k).size := by omega
  have hg : (posB n f k)[i]'hl = (posL n f k).getD i 0 := by
    rw [List.getD_eq_getElem?_getD, List.getElem?_eq_getElem (by rw [posL_len]; exact h)]
    rfl
  rw [posL_getD h] at hg
  rw [decode_ascii _ _ hl (by rw [hg]; split; decide; split <;> decide), hg]
  split
  · rfl
  · split <;> rfl
theorem setTo_all0 {n f : Nat} (hf : f < 2 ^ n) : setTo n 0 f n = f := setTo_all hf fun i h => by simp at h
theorem read_spec {n f k : Nat} (hn : n ≤ 10) (hf : f < 2 ^ n) (hk : k < 2 ^ n) (hd : ∀ i, f.testBit i = true → k.testBit i = false) : FDet Tryd.prog 82 [.c (.str (posB n f k))] [] 0 (.g [.int .i64 f, .int .i64 k]) [] 0 := by
  have hsz := posB_size n f k
  refine FSpec.of_body tok true Tryd.func82 rfl (by kernel_rfl) (by decide) (by simp [tupA, hpLt, tmLt, AV.lt, AE.lt, AC.lt, LL_cons, LL_nil, idOk, ABlk.lt, ints_LL, GB, tab64_LL, gC, wB, giC, noneB, gst, tC, pC]) (by simp [tupA, hpLt, tmLt, AV.lt, AE.lt, AC.lt, LL_cons, LL_nil, idOk, ABlk.lt, ints_LL, GB, tab64_LL, gC, wB, giC, noneB, gst, tC, pC]) (by show 1 ≤ _; decide) ?_
  (conv => whnf); (repeat ((first | (refine ⟨rfl, ?_⟩) | (refine ⟨trivial, ?_⟩) | (refine Wk.yes ?_) | (refine Wk.no ?_) | (refine Wk.and ?_)); (conv => whnf)))
  refine Tr.loop (md := true) (X := Nat) (st := fun i => ⟨[(0, .c (.str (posB n f k))), (2, .c (.ptr 0 0)), (3, .c (.ptr 1 0)), (7, .c (.ptr 2 0))], [(2, .si (posB n f k) i), (1, .own [.int .i64 (setTo n 0 f i), .int .i64 (setTo n f k i)]), (0, .own [.int .i64 0, .int .i64 0])], 3, 32, 0⟩) (inv := fun i => i ≤ n) (μ := fun i => n - i) (x0 := 0) (l := []) tok (by omega) ?_ ?_
  · exact Sub.nil ⟨rfl, rfl, (by simp [tab64_LL, gC, wB, giC, noneB, gst, tC, pC]), rfl, (by simp [tupA, hpLt, tmLt, AV.lt, AE.lt, AC.lt, LL_cons, LL_nil, idOk, ABlk.lt, ints_LL, GB, tab64_LL, gC, wB, giC, noneB, gst, tC, pC]), (by simp [tupA, hpLt, tmLt, AV.lt, AE.lt, AC.lt, LL_cons, LL_nil, idOk, ABlk.lt, ints_LL, GB, tab64_LL, gC, wB, giC, noneB, gst, tC, pC])⟩ (by (repeat (first | exact trivial | refine ⟨trivial, ?_⟩ | refine ⟨rfl, ?_⟩))) (by (repeat (first | exact trivial | refine ⟨trivial, ?_⟩ | refine ⟨rfl, ?_⟩)))
  · intro i hi
    (conv => whnf); (repeat ((first | (refine ⟨rfl, ?_⟩) | (refine ⟨trivial, ?_⟩) | (refine Wk.yes ?_) | (refine Wk.no ?_) | (refine Wk.and ?_)); (conv => whnf)))
    rw [hsz]
    refine ⟨fun hc => ?_, fun hc => ?_⟩ <;> (try simp only [decide_eq_true_eq, decide_eq_false_iff_not, Decidable.not_not, Bool.not_true, Bool.not_false, ne_eq, cond_true, cond_false, Bool.not_eq_true', Bool.not_eq_false'] at hc)
    · have hde := pos_decode (f := f) (k := k) hc
      have hpi : 2 ^ i < 2048 := pow_small (by omega)
      have h1 := setTo_lt n 0 f i
      have h2 := setTo_lt n f k i
      have s1 : setTo n 0 f (i + 1) = if f.testBit i = true then setTo n 0 f i ||| 2 ^ i else setTo n 0 f i := by rw [setTo]; simp
      have s2 : setTo n f k (i + 1) = if f.testBit i = true then setTo n f k i else if k.testBit i = true then setTo n f k i ||| 2 ^ i else setTo n f k i := rfl
      rw [hde]
      by_cases hf1 : f.testBit i = true
      · rw [if_pos hf1] at s1 s2 ⊢
        (conv => whnf); (repeat ((first | (refine ⟨rfl, ?_⟩) | (refine ⟨trivial, ?_⟩) | (refine Wk.yes ?_) | (refine Wk.no ?_) | (refine Wk.and ?_)); (conv => whnf)))
        rw [wrapU (by omega)]
        refine ⟨⟨by omega, by omega, by rw [shl1 rfl]; unfold I64; omega⟩, ?_⟩
        rw [shl1 rfl]
        (conv => whnf); (repeat ((first | (refine ⟨rfl, ?_⟩) | (refine ⟨trivial, ?_⟩) | (refine Wk.yes ?_) | (refine Wk.no ?_) | (refine Wk.and ?_)); (conv => whnf)))
        refine Again.mk (i + 1) (Sub.nil ⟨rfl, rfl, (by simp [tab64_LL, gC, wB, giC, noneB, gst, tC, pC]), rfl, (by simp [tupA, hpLt, tmLt, AV.lt, AE.lt, AC.lt, LL_cons, LL_nil, idOk, ABlk.lt, ints_LL, GB, tab64_LL, gC, wB, giC, noneB, gst, tC, pC]), (by simp [tupA, hpLt, tmLt, AV.lt, AE.lt, AC.lt, LL_cons, LL_nil, idOk, ABlk.lt, ints_LL, GB, tab64_LL, gC, wB, giC, noneB, gst, tC, pC])⟩ (by (repeat (first | exact trivial | refine ⟨trivial, ?_⟩ | refine ⟨rfl, ?_⟩))) ⟨rfl, by show ABlk.own _ = ABlk.own _; rw [s1, s2]; rfl, rfl, trivial⟩) (by omega) (by omega)
      · rw [if_neg hf1] at s1 s2 ⊢
        by_cases hk1 : k.testBit i = true
        · rw [if_pos hk1] at s2 ⊢
          (conv => whnf); (repeat ((first | (refine ⟨rfl, ?_⟩) | (refine ⟨trivial, ?_⟩) | (refine Wk.yes ?_) | (refine Wk.no ?_) | (refine Wk.and ?_)); (conv => whnf)))
          rw [wrapU (by omega)]
          refine ⟨⟨by omega, by omega, by rw [shl1 rfl]; unfold I64; omega⟩, ?_⟩
          rw [shl1 rfl]
          (conv => whnf); (repeat ((first | (refine ⟨rfl, ?_⟩) | (refine ⟨trivial, ?_⟩) | (refine Wk.yes ?_) | (refine Wk.no ?_) | (refine Wk.and ?_)); (conv => whnf)))
          refine Again.mk (i + 1) (Sub.nil ⟨rfl, rfl, (by simp [tab64_LL, gC, wB, giC, noneB, gst, tC, pC]), rfl, (by simp [tupA, hpLt, tmLt, AV.lt, AE.lt, AC.lt, LL_cons, LL_nil, idOk, ABlk.lt, ints_LL, GB, tab64_LL, gC, wB, giC, noneB, gst, tC, pC]), (by simp [tupA, hpLt, tmLt, AV.lt, AE.lt, AC.lt, LL_cons, LL_nil, idOk, ABlk.lt, ints_LL, GB, tab64_LL, gC, wB, giC, noneB, gst, tC, pC])⟩ (by (repeat (first | exact trivial | refine ⟨trivial, ?_⟩ | refine ⟨rfl, ?_⟩))) ⟨rfl, by show ABlk.own _ = ABlk.own _; rw [s1, s2]; rfl, rfl, trivial⟩) (by omega) (by omega)
        · rw [if_neg hk1] at s2 ⊢
          (conv => whnf); (repeat ((first | (refine ⟨rfl, ?_⟩) | (refine ⟨trivial, ?_⟩) | (refine Wk.yes ?_) | (refine Wk.no ?_) | (refine Wk.and ?_)); (conv => whnf)))
          refine Again.mk (i + 1) (Sub.nil ⟨rfl, rfl, (by simp [tab64_LL, gC, wB, giC, noneB, gst, tC, pC]), rfl, (by simp [tupA, hpLt, tmLt, AV.lt, AE.lt, AC.lt, LL_cons, LL_nil, idOk, ABlk.lt, ints_LL, GB, tab64_LL, gC, wB, giC, noneB, gst, tC, pC]), (by simp [tupA, hpLt, tmLt, AV.lt, AE.lt, AC.lt, LL_cons, LL_nil, idOk, ABlk.lt, ints_LL, GB, tab64_LL, gC, wB, giC, noneB, gst, tC, pC])⟩ (by (repeat (first | exact trivial | refine ⟨trivial, ?_⟩ | refine ⟨rfl, ?_⟩))) ⟨rfl, by show ABlk.own _ = ABlk.own _; rw [s1, s2], rfl, trivial⟩) (by omega) (by omega)
    · obtain rfl : i = n := by omega
      (conv => whnf); (repeat ((first | (refine ⟨rfl, ?_⟩) | (refine ⟨trivial, ?_⟩) | (refine Wk.yes ?_) | (refine Wk.no ?_) | (refine Wk.and ?_)); (conv => whnf)))
      rw [setTo_all0 hf, setTo_all hk hd]
      exact AH.Fin.nil [] ⟨rfl, rfl, rfl⟩ (by first | exact trivial | (simp [tupA, hpLt, tmLt, AV.lt, AE.lt, AC.lt, LL_cons, LL_nil, idOk, ABlk.lt, ints_LL, GB, tab64_LL, gC, wB, giC, noneB, gst, tC, pC]; done) | (simp [tupA, hpLt, tmLt, AV.lt, AE.lt, AC.lt, LL_cons, LL_nil, idOk, ABlk.lt, ints_LL, GB, tab64_LL, gC, wB, giC, noneB, gst, tC, pC, rdn, wrn]; done)) trivial trivial rfl (by simp [GB])
end Go.Proofs.YtfphkpdobbffeaaDoor

/-
  Contracts: Position by the reference; the position of any string.
-/
namespace Go.Proofs.YtfphkpdobbffeaaDoor
open Go Go.AH
set_option maxRecDepth 100000
set_option maxHeartbeats 1000000

theorem take_succ_all {l : List UInt8} {i : Nat} (h : i < l.length) : ((l.take (i + 1)).all isP) = ((l.take i).all isP && isP (l.getD i 0)) := by
  rw [List.take_add_one, List.all_append, List.getD_eq_getElem?_getD, List.getElem?_eq_getElem h]
  simp
theorem all_take {l : List UInt8} {i : Nat} (h : ((l.take i).all isP) = false) : l.all isP = false := by
  cases hq : l.all isP with
  | false => rfl
  | true =>
    rw [List.all_eq_true] at hq
    have : (l.take i).all isP = true := List.all_eq_true.2 fun c hc => hq c (List.mem_of_mem_take hc)
    rw [this] at h; cases h
theorem isP_ne (c : UInt8) : isP c = (decide ((c.toNat : Int) = 46) || decide ((c.toNat : Int) = 43) || decide ((c.toNat : Int) = 45)) := by
  have : ∀ n, n < 256 → isP (UInt8.ofNat n) = (decide (n = 46) || decide (n = 43) || decide (n = 45)) := by decide +kernel
  have h := this c.toNat c.toNat_lt
  rw [UInt8.ofNat_toNat] at h
  rw [h]
  congr 1
  · congr 1
    · exact decide_eq_decide.2 (by omega)
    · exact decide_eq_decide.2 (by omega)
  · exact decide_eq_decide.2 (by omega)
theorem positionR_spec {g : Gm} (hg : g.ok) (l : List UInt8) (hl : l.length ≤ 1000) : FDet Tryd.prog 49 [.g (gC g 0), .c (.str (bs l))] [(0, wB g)] 1 (.c (.bool (okPos g.ws.length l))) [] 1 := by
  have hs := bs_size l
  have hgl := hg.len
  refine FSpec.of_body tok true Tryd.func49 rfl (by kernel_rfl) (by decide) (by simp [tupA, hpLt, tmLt, AV.lt, AE.lt, AC.lt, LL_cons, LL_nil, idOk, ABlk.lt, ints_LL, GB, tab64_LL, gC, wB, giC, noneB, gst, tC, pC]) (by simp [tupA, hpLt, tmLt, AV.lt, AE.lt, AC.lt, LL_cons, LL_nil, idOk, ABlk.lt, ints_LL, GB, tab64_LL, gC, wB, giC, noneB, gst, tC, pC]) (by show 2 ≤ _; decide) ?_
  (conv => whnf); (repeat ((first | (refine ⟨rfl, ?_⟩) | (refine ⟨trivial, ?_⟩) | (refine Wk.yes ?_) | (refine Wk.no ?_) | (refine Wk.and ?_)); (conv => whnf)))
  refine Tr.loop (md := true) (X := Nat) (st := fun i => ⟨[(1, .c (.str (bs l))), (2, .c (.ptr 1 0)), (5, .c (.int .i64 i))], [(1, .own (gC g 0)), (0, wB g)], 2, 34, 1⟩) (inv := fun i => i ≤ l.length ∧ (l.take i).all isP = true) (μ := fun i => l.length - i) (x0 := 0) (l := []) tok ⟨by omega, by simp⟩ ?_ ?_
  · exact Sub.nil ⟨rfl, rfl, (by simp [tab64_LL, gC, wB, giC, noneB, gst, tC, pC]), rfl, (by simp [tupA, hpLt, tmLt, AV.lt, AE.lt, AC.lt, LL_cons, LL_nil, idOk, ABlk.lt, ints_LL, GB, tab64_LL, gC, wB, giC, noneB, gst, tC, pC]), (by simp [tupA, hpLt, tmLt, AV.lt, AE.lt, AC.lt, LL_cons, LL_nil, idOk, ABlk.lt, ints_LL, GB, tab64_LL, gC, wB, giC, noneB, gst, tC, pC])⟩ (by (repeat (first | exact trivial | refine ⟨trivial, ?_⟩ | refine ⟨rfl, ?_⟩))) (by (repeat (first | exact trivial | refine ⟨trivial, ?_⟩ | refine ⟨rfl, ?_⟩)))
  · rintro i ⟨hi, ha⟩
    have hts := fun h => take_succ_all (l := l) (i := i) h
    (conv => whnf); (repeat ((first | (refine ⟨rfl, ?_⟩) | (refine ⟨trivial, ?_⟩) | (refine Wk.yes ?_) | (refine Wk.no ?_) | (refine Wk.and ?_)); (conv => whnf)))
    rw [hs]
    refine ⟨fun hc => ?_, fun hc => ?_⟩ <;> (try simp only [decide_eq_true_eq, decide_eq_false_iff_not, Decidable.not_not, Bool.not_true, Bool.not_false, ne_eq, cond_true, cond_false, Bool.not_eq_true', Bool.not_eq_false'] at hc)
    · have hat : (bs l).data.toList.getD (Int.toNat (i : Int)) 0 = l.getD i 0 := by rw [Int.toNat_natCast]; rfl
      have hc2 := hts (by omega)
      rw [ha, Bool.true_and, isP_ne] at hc2
      generalize hx : l.getD i 0 = c at *
      (conv => whnf); (repeat ((first | (refine ⟨rfl, ?_⟩) | (refine ⟨trivial, ?_⟩) | (refine Wk.yes ?_) | (refine Wk.no ?_) | (refine Wk.and ?_)); (conv => whnf)))
      rw [hat]
      by_cases e1 : ((c.toNat : Nat) : Int) = 46
      · rw [decide_eq_false (show ¬ (((c.toNat : Nat) : Int) ≠ 46) from fun h => h e1)]
        (conv => whnf); (repeat ((first | (refine ⟨rfl, ?_⟩) | (refine ⟨trivial, ?_⟩) | (refine Wk.yes ?_) | (refine Wk.no ?_) | (refine Wk.and ?_)); (conv => whnf)))
        refine Again.mk (i + 1) (Sub.nil ⟨rfl, rfl, (by simp [tab64_LL, gC, wB, giC, noneB, gst, tC, pC]), rfl, (by simp [tupA, hpLt, tmLt, AV.lt, AE.lt, AC.lt, LL_cons, LL_nil, idOk, ABlk.lt, ints_LL, GB, tab64_LL, gC, wB, giC, noneB, gst, tC, pC]), (by simp [tupA, hpLt, tmLt, AV.lt, AE.lt, AC.lt, LL_cons, LL_nil, idOk, ABlk.lt, ints_LL, GB, tab64_LL, gC, wB, giC, noneB, gst, tC, pC])⟩ (by (repeat (first | exact trivial | refine ⟨trivial, ?_⟩ | refine ⟨rfl, ?_⟩))) (by (repeat (first | exact trivial | refine ⟨trivial, ?_⟩ | refine ⟨rfl, ?_⟩)))) (⟨by omega, by rw [hc2]; simp [e1]⟩) (by omega)
      · rw [decide_eq_true (show ((c.toNat : Nat) : Int) ≠ 46 from e1)]
        (conv => whnf); (repeat ((first | (refine ⟨rfl, ?_⟩) | (refine ⟨trivial, ?_⟩) | (refine Wk.yes ?_) | (refine Wk.no ?_) | (refine Wk.and ?_)); (conv => whnf)))
        rw [hat]
        by_cases e2 : ((c.toNat : Nat) : Int) = 43
        · rw [decide_eq_false (show ¬ (((c.toNat : Nat) : Int) ≠ 43) from fun h => h e2)]
          (conv => whnf); (repeat ((first | (refine ⟨rfl, ?_⟩) | (refine ⟨trivial, ?_⟩) | (refine Wk.yes ?_) | (refine Wk.no ?_) | (refine Wk.and ?_)); (conv => whnf)))
          refine Again.mk (i + 1) (Sub.nil ⟨rfl, rfl, (by simp [tab64_LL, gC, wB, giC, noneB, gst, tC, pC]), rfl, (by simp [tupA, hpLt, tmLt, AV.lt, AE.lt, AC.lt, LL_cons, LL_nil, idOk, ABlk.lt, ints_LL, GB, tab64_LL, gC, wB, giC, noneB, gst, tC, pC]), (by simp [tupA, hpLt, tmLt, AV.lt, AE.lt, AC.lt, LL_cons, LL_nil, idOk, ABlk.lt, ints_LL, GB, tab64_LL, gC, wB, giC, noneB, gst, tC, pC])⟩ (by (repeat (first | exact trivial | refine ⟨trivial, ?_⟩ | refine ⟨rfl, ?_⟩))) (by (repeat (first | exact trivial | refine ⟨trivial, ?_⟩ | refine ⟨rfl, ?_⟩)))) (⟨by omega, by rw [hc2]; simp [e2]⟩) (by omega)
        · rw [decide_eq_true (show ((c.toNat : Nat) : Int) ≠ 43 from e2)]
          (conv => whnf); (repeat ((first | (refine ⟨rfl, ?_⟩) | (refine ⟨trivial, ?_⟩) | (refine Wk.yes ?_) | (refine Wk.no ?_) | (refine Wk.and ?_)); (conv => whnf)))
          rw [hat]
          by_cases e3 : ((c.toNat : Nat) : Int) = 45
          · rw [decide_eq_false (show ¬ (((c.toNat : Nat) : Int) ≠ 45) from fun h => h e3)]
            (conv => whnf); (repeat ((first | (refine ⟨rfl, ?_⟩) | (refine ⟨trivial, ?_⟩) | (refine Wk.yes ?_) | (refine Wk.no ?_) | (refine Wk.and ?_)); (conv => whnf)))
            refine Again.mk (i + 1) (Sub.nil ⟨rfl, rfl, (by simp [tab64_LL, gC, wB, giC, noneB, gst, tC, pC]), rfl, (by simp [tupA, hpLt, tmLt, AV.lt, AE.lt, AC.lt, LL_cons, LL_nil, idOk, ABlk.lt, ints_LL, GB, tab64_LL, gC, wB, giC, noneB, gst, tC, pC]), (by simp [tupA, hpLt, tmLt, AV.lt, AE.lt, AC.lt, LL_cons, LL_nil, idOk, ABlk.lt, ints_LL, GB, tab64_LL, gC, wB, giC, noneB, gst, tC, pC])⟩ (by (repeat (first | exact trivial | refine ⟨trivial, ?_⟩ | refine ⟨rfl, ?_⟩))) (by (repeat (first | exact trivial | refine ⟨trivial, ?_⟩ | refine ⟨rfl, ?_⟩)))) (⟨by omega, by rw [hc2]; simp [e3]⟩) (by omega)
          · have hok : okPos g.ws.length l = false := by
              have h3 : ((l.take (i + 1)).all isP) = false := by rw [hc2]; simp [e1, e2, e3]
              rw [okPos, all_take h3, Bool.and_false]
            rw [hok, decide_eq_true (show ((c.toNat : Nat) : Int) ≠ 45 from e3)]
            (conv => whnf); (repeat ((first | (refine ⟨rfl, ?_⟩) | (refine ⟨trivial, ?_⟩) | (refine Wk.yes ?_) | (refine Wk.no ?_) | (refine Wk.and ?_)); (conv => whnf)))
            exact AH.Fin.nil [] ⟨rfl, rfl, rfl⟩ (by first | exact trivial | (simp [tupA, hpLt, tmLt, AV.lt, AE.lt, AC.lt, LL_cons, LL_nil, idOk, ABlk.lt, ints_LL, GB, tab64_LL, gC, wB, giC, noneB, gst, tC, pC]; done) | (simp [tupA, hpLt, tmLt, AV.lt, AE.lt, AC.lt, LL_cons, LL_nil, idOk, ABlk.lt, ints_LL, GB, tab64_LL, gC, wB, giC, noneB, gst, tC, pC, rdn, wrn]; done)) trivial trivial rfl (by simp [GB])
    · obtain rfl : i = l.length := by omega
      rw [List.take_length] at ha
      (conv => whnf); (repeat ((first | (refine ⟨rfl, ?_⟩) | (refine ⟨trivial, ?_⟩) | (refine Wk.yes ?_) | (refine Wk.no ?_) | (refine Wk.and ?_)); (conv => whnf)))
      exact AH.Fin.nil [] ⟨by rw [okPos, ha, Bool.and_true]; show AV.c (.bool (decide (((bs l).size : Int) = (g.ws.length : Int)))) = _; rw [hs]; congr 2; rw [Bool.eq_iff_iff]; simp; omega, rfl, rfl⟩ (by first | exact trivial | (simp [tupA, hpLt, tmLt, AV.lt, AE.lt, AC.lt, LL_cons, LL_nil, idOk, ABlk.lt, ints_LL, GB, tab64_LL, gC, wB, giC, noneB, gst, tC, pC]; done) | (simp [tupA, hpLt, tmLt, AV.lt, AE.lt, AC.lt, LL_cons, LL_nil, idOk, ABlk.lt, ints_LL, GB, tab64_LL, gC, wB, giC, noneB, gst, tC, pC, rdn, wrn]; done)) trivial trivial rfl (by simp [GB])
end Go.Proofs.YtfphkpdobbffeaaDoor

/-
  Contract: the position of any string.
-/
namespace Go.Proofs.YtfphkpdobbffeaaDoor
open Go Go.AH
set_option maxRecDepth 100000
set_option maxHeartbeats 1000000

def u8s (l : List UInt8) : List AC := l.map fun c => AC.int .u8 (c.toNat : Int)
theorem u8s_LL (n : Nat) (l : List UInt8) : LL n (u8s l) := fun x hx => by
  obtain ⟨c, _, rfl⟩ := List.mem_map.1 hx; trivial
theorem u8s_ren (q : Nat → Nat) (l : List UInt8) : (u8s l).map (AC.ren q) = u8s l := by
  simp only [u8s, List.map_map]; rfl
theorem u8s_len (l : List UInt8) : (u8s l).length = l.length := by simp [u8s]
theorem bytesA_u8s : ∀ (l : List UInt8) (k : List UInt8 → Prop), bytesA (u8s l) k ↔ k l
  | [], k => Iff.rfl
  | c :: l, k => by
    have hc : c.toNat < 256 := c.toNat_lt
    show ((0 ≤ (c.toNat : Int) ∧ (c.toNat : Int) < 256) ∧ bytesA (u8s l) fun m => k (UInt8.ofNat (c.toNat : Int).toNat :: m)) ↔ k (c :: l)
    rw [bytesA_u8s l, Int.toNat_natCast, UInt8.ofNat_toNat]
    constructor
    · exact fun h => h.2
    · exact fun h => ⟨⟨by omega, by omega⟩, h⟩
theorem u8Eq {e z : Nat} {q : Nat → Nat} {xs : List UInt8} {cs : List AC} (h : cs = u8s xs) : some (ABlk.row e z cs) = some ((ABlk.row e z (u8s xs)).ren q) := by
  simp only [ABlk.ren, u8s_ren, h]
/-- The sign of a byte. -/
def dig (l : List UInt8) (i : Nat) : UInt8 := if i < l.length then ([46, 43, 45] : List UInt8).getD ((l.getD i 0).toNat % 3) 0 else 46
def posOf (l : List UInt8) (n : Nat) : List UInt8 := (List.range n).map (dig l)
theorem posOf_succ (l : List UInt8) (i : Nat) : posOf l (i + 1) = posOf l i ++ [dig l i] := by simp [posOf, List.range_succ]
theorem posOf_len (l : List UInt8) (n : Nat) : (posOf l n).length = n := by simp [posOf]
theorem posOf_ok (l : List UInt8) (n : Nat) : okPos n (posOf l n) = true := by
  simp only [okPos, Bool.and_eq_true, beq_iff_eq, List.all_eq_true]
  refine ⟨posOf_len l n, fun c hc => ?_⟩
  obtain ⟨i, _, rfl⟩ := List.mem_map.1 hc
  rw [dig]
  split
  · have : (l.getD i 0).toNat % 3 < 3 := Nat.mod_lt _ (by omega)
    generalize (l.getD i 0).toNat % 3 = j at *
    rcases j with _ | _ | _ | j <;> first | rfl | omega
  · rfl
def uV : List UInt8 → AC
  | [] => .nils
  | _ :: l => .row 2 (l.length + 1)
def uH : List UInt8 → List (Nat × ABlk)
  | [] => []
  | x :: l => [(2, .row 5 1 (u8s (x :: l)))]
def uK : List UInt8 → Nat
  | [] => 2
  | _ => 3
theorem wBren (g : Gm) (q : Nat → Nat) : some (wB g) = some (ABlk.ren q (wB g)) := by rw [wB, ABlk.ren, ints_ren]
theorem wrapI {x : Nat} (h : x < 1000000) : IntKind.i64.wrap (x : Int) = x := by
  exact AH.wrap_small _ _ (by omega) (by show (x : Int) < 2 ^ 64; omega) (by intro _; show (x : Int) < 2 ^ 63; omega)
theorem mod3 (c : UInt8) : ((⟨#[46, 43, 45]⟩ : ByteArray).data.toList.getD (((c.toNat : Nat) : Int) % 3).toNat 0) = ([46, 43, 45] : List UInt8).getD (c.toNat % 3) 0 := by
  rw [show (((c.toNat : Nat) : Int) % 3).toNat = c.toNat % 3 by omega]
theorem position_spec {g : Gm} (hg : g.ok) (l : List UInt8) : FDet Tryd.prog 41 [.g (gC g 0), .c (.str (bs l))] [(0, wB g)] 1 (.c (.str (bs (posOf l g.ws.length)))) [] 1 := by
  have hs := bs_size l
  have hgl := hg.len
  refine FSpec.of_body tok true Tryd.func41 rfl (by kernel_rfl) (by decide) (by simp [tupA, hpLt, tmLt, AV.lt, AE.lt, AC.lt, LL_cons, LL_nil, idOk, ABlk.lt, ints_LL, GB, tab64_LL, gC, wB, giC, noneB, gst, tC, pC, u8s_LL, uV, uH, uK]) (by simp [tupA, hpLt, tmLt, AV.lt, AE.lt, AC.lt, LL_cons, LL_nil, idOk, ABlk.lt, ints_LL, GB, tab64_LL, gC, wB, giC, noneB, gst, tC, pC, u8s_LL, uV, uH, uK]) (by show 2 ≤ _; decide) ?_
  (conv => whnf); (repeat ((first | (refine ⟨rfl, ?_⟩) | (refine ⟨trivial, ?_⟩) | (refine Wk.yes ?_) | (refine Wk.no ?_) | (refine Wk.and ?_)); (conv => whnf)))
  refine Tr.loop (md := true) (X := Nat × List UInt8) (st := fun p => ⟨[(1, .c (.str (bs l))), (2, .c (.ptr 1 0)), (5, .c (uV p.2)), (6, .c (.int .i64 p.1))], uH p.2 ++ [(1, .own (gC g 0)), (0, wB g)], uK p.2, 31, 1⟩) (inv := fun p => p.1 ≤ g.ws.length ∧ p.2 = posOf l p.1) (μ := fun p => g.ws.length - p.1) (x0 := (0, [])) (l := []) tok ⟨Nat.zero_le _, rfl⟩ ?_ ?_
  · exact Sub.nil ⟨rfl, rfl, (by simp [tab64_LL, gC, wB, giC, noneB, gst, tC, pC, u8s_LL, uV, uH, uK]), rfl, (by simp [tupA, hpLt, tmLt, AV.lt, AE.lt, AC.lt, LL_cons, LL_nil, idOk, ABlk.lt, ints_LL, GB, tab64_LL, gC, wB, giC, noneB, gst, tC, pC, u8s_LL, uV, uH, uK]), (by simp [tupA, hpLt, tmLt, AV.lt, AE.lt, AC.lt, LL_cons, LL_nil, idOk, ABlk.lt, ints_LL, GB, tab64_LL, gC, wB, giC, noneB, gst, tC, pC, u8s_LL, uV, uH, uK])⟩ ⟨rfl, rfl, rfl, rfl, trivial⟩ ⟨rfl, rfl, trivial⟩
  · rintro ⟨i, m⟩ ⟨hi, hm⟩
    dsimp only at hi hm
    have hml := posOf_len l i
    have hms := posOf_succ l i
    rw [← hm] at hml hms
    rcases m with _ | ⟨x, m⟩
    · dsimp only [uV, uH, uK, List.nil_append]
      (conv => whnf); (repeat ((first | (refine ⟨rfl, ?_⟩) | (refine ⟨trivial, ?_⟩) | (refine Wk.yes ?_) | (refine Wk.no ?_) | (refine Wk.and ?_)); (conv => whnf)))
      refine ⟨fun hc => ?_, fun hc => ?_⟩ <;> (try simp only [decide_eq_true_eq, decide_eq_false_iff_not, Decidable.not_not, Bool.not_true, Bool.not_false, ne_eq, cond_true, cond_false, Bool.not_eq_true', Bool.not_eq_false'] at hc)
      · (conv => whnf); (repeat ((first | (refine ⟨rfl, ?_⟩) | (refine ⟨trivial, ?_⟩) | (refine Wk.yes ?_) | (refine Wk.no ?_) | (refine Wk.and ?_)); (conv => whnf)))
        rw [hs]
        by_cases hi2 : i < l.length
        · have hdg : dig l i = ([46, 43, 45] : List UInt8).getD ((l.getD i 0).toNat % 3) 0 := by rw [dig, if_pos hi2]
          have hat : (bs l).data.toList.getD (Int.toNat (i : Int)) 0 = l.getD i 0 := by rw [Int.toNat_natCast]; rfl
          rw [decide_eq_true (show (i : Int) < (l.length : Int) by omega)]
          (conv => whnf); (repeat ((first | (refine ⟨rfl, ?_⟩) | (refine ⟨trivial, ?_⟩) | (refine Wk.yes ?_) | (refine Wk.no ?_) | (refine Wk.and ?_)); (conv => whnf)))
          rw [hat, wrapI (by have := (l.getD i 0).toNat_lt; omega)]
          generalize l.getD i 0 = c at *
          have hc8 : c.toNat < 256 := c.toNat_lt
          refine ⟨⟨by omega, by decide⟩, ?_⟩
          refine ⟨⟨by omega, by show ((c.toNat : Nat) : Int) % 3 < 3; omega⟩, ?_⟩
          rw [mod3]
          obtain ⟨d, hd⟩ : ∃ d, d = ([46, 43, 45] : List UInt8).getD (c.toNat % 3) 0 := ⟨_, rfl⟩
          rw [← hd] at hdg ⊢
          (conv => whnf); (repeat ((first | (refine ⟨rfl, ?_⟩) | (refine ⟨trivial, ?_⟩) | (refine Wk.yes ?_) | (refine Wk.no ?_) | (refine Wk.and ?_)); (conv => whnf)))
          refine Again.mk (i + 1, [d]) (Sub.new [(2, 3)] ⟨rfl, rfl, Nat.le_of_ble_eq_true rfl, Nat.le_of_ble_eq_true rfl⟩ rfl ⟨rfl, rfl, rfl, rfl, trivial⟩ ⟨u8Eq rfl, rfl, wBren _ _, trivial⟩ rfl (by simp [tupA, hpLt, tmLt, AV.lt, AE.lt, AC.lt, LL_cons, LL_nil, idOk, ABlk.lt, ints_LL, GB, tab64_LL, gC, wB, giC, noneB, gst, tC, pC, u8s_LL, uV, uH, uK]) (by simp [tupA, hpLt, tmLt, AV.lt, AE.lt, AC.lt, LL_cons, LL_nil, idOk, ABlk.lt, ints_LL, GB, tab64_LL, gC, wB, giC, noneB, gst, tC, pC, u8s_LL, uV, uH, uK])) ⟨by omega, by show [d] = posOf l (i + 1); rw [hms, hdg]; rfl⟩ (by show g.ws.length - (i + 1) < g.ws.length - i; omega)
        · have hdg : dig l i = 46 := by rw [dig, if_neg hi2]
          rw [decide_eq_false (show ¬ (i : Int) < (l.length : Int) by omega)]
          (conv => whnf); (repeat ((first | (refine ⟨rfl, ?_⟩) | (refine ⟨trivial, ?_⟩) | (refine Wk.yes ?_) | (refine Wk.no ?_) | (refine Wk.and ?_)); (conv => whnf)))
          refine Again.mk (i + 1, [46]) (Sub.new [(2, 3)] ⟨rfl, rfl, Nat.le_of_ble_eq_true rfl, Nat.le_of_ble_eq_true rfl⟩ rfl ⟨rfl, rfl, rfl, rfl, trivial⟩ ⟨u8Eq rfl, rfl, wBren _ _, trivial⟩ rfl (by simp [tupA, hpLt, tmLt, AV.lt, AE.lt, AC.lt, LL_cons, LL_nil, idOk, ABlk.lt, ints_LL, GB, tab64_LL, gC, wB, giC, noneB, gst, tC, pC, u8s_LL, uV, uH, uK]) (by simp [tupA, hpLt, tmLt, AV.lt, AE.lt, AC.lt, LL_cons, LL_nil, idOk, ABlk.lt, ints_LL, GB, tab64_LL, gC, wB, giC, noneB, gst, tC, pC, u8s_LL, uV, uH, uK])) ⟨by omega, by show [46] = posOf l (i + 1); rw [hms, hdg]; rfl⟩ (by show g.ws.length - (i + 1) < g.ws.length - i; omega)
      · obtain rfl : i = g.ws.length := by omega
        (conv => whnf); (repeat ((first | (refine ⟨rfl, ?_⟩) | (refine ⟨trivial, ?_⟩) | (refine Wk.yes ?_) | (refine Wk.no ?_) | (refine Wk.and ?_)); (conv => whnf)))
        exact AH.Fin.nil [] ⟨by rw [← hm]; rfl, rfl, rfl⟩ (by first | exact trivial | (simp [tupA, hpLt, tmLt, AV.lt, AE.lt, AC.lt, LL_cons, LL_nil, idOk, ABlk.lt, ints_LL, GB, tab64_LL, gC, wB, giC, noneB, gst, tC, pC, u8s_LL, uV, uH, uK]; done) | (simp [tupA, hpLt, tmLt, AV.lt, AE.lt, AC.lt, LL_cons, LL_nil, idOk, ABlk.lt, ints_LL, GB, tab64_LL, gC, wB, giC, noneB, gst, tC, pC, u8s_LL, uV, uH, uK, rdn, wrn]; done)) trivial trivial rfl (by simp [GB])
    · dsimp only [uV, uH, uK, List.cons_append, List.nil_append]
      (conv => whnf); (repeat ((first | (refine ⟨rfl, ?_⟩) | (refine ⟨trivial, ?_⟩) | (refine Wk.yes ?_) | (refine Wk.no ?_) | (refine Wk.and ?_)); (conv => whnf)))
      refine ⟨fun hc => ?_, fun hc => ?_⟩ <;> (try simp only [decide_eq_true_eq, decide_eq_false_iff_not, Decidable.not_not, Bool.not_true, Bool.not_false, ne_eq, cond_true, cond_false, Bool.not_eq_true', Bool.not_eq_false'] at hc)
      · (conv => whnf); (repeat ((first | (refine ⟨rfl, ?_⟩) | (refine ⟨trivial, ?_⟩) | (refine Wk.yes ?_) | (refine Wk.no ?_) | (refine Wk.and ?_)); (conv => whnf)))
        rw [hs]
        by_cases hi2 : i < l.length
        · have hdg : dig l i = ([46, 43, 45] : List UInt8).getD ((l.getD i 0).toNat % 3) 0 := by rw [dig, if_pos hi2]
          have hat : (bs l).data.toList.getD (Int.toNat (i : Int)) 0 = l.getD i 0 := by rw [Int.toNat_natCast]; rfl
          rw [decide_eq_true (show (i : Int) < (l.length : Int) by omega)]
          (conv => whnf); (repeat ((first | (refine ⟨rfl, ?_⟩) | (refine ⟨trivial, ?_⟩) | (refine Wk.yes ?_) | (refine Wk.no ?_) | (refine Wk.and ?_)); (conv => whnf)))
          rw [hat, wrapI (by have := (l.getD i 0).toNat_lt; omega)]
          generalize l.getD i 0 = c at *
          have hc8 : c.toNat < 256 := c.toNat_lt
          refine ⟨⟨by omega, by decide⟩, ?_⟩
          refine ⟨⟨by omega, by show ((c.toNat : Nat) : Int) % 3 < 3; omega⟩, ?_⟩
          rw [mod3]
          obtain ⟨d, hd⟩ : ∃ d, d = ([46, 43, 45] : List UInt8).getD (c.toNat % 3) 0 := ⟨_, rfl⟩
          rw [← hd] at hdg ⊢
          (conv => whnf); (repeat ((first | (refine ⟨rfl, ?_⟩) | (refine ⟨trivial, ?_⟩) | (refine Wk.yes ?_) | (refine Wk.no ?_) | (refine Wk.and ?_)); (conv => whnf)))
          refine ⟨⟨Nat.le_of_ble_eq_true rfl, rfl, rfl, by rw [u8s_len]; simp, by show ((m.length + 1 + 1 : Nat) : Int) * 1 ≤ _; have : m.length + 1 = i := hml; omega, by have : m.length + 1 = i := hml; omega⟩, ?_⟩
          (conv => whnf); (repeat ((first | (refine ⟨rfl, ?_⟩) | (refine ⟨trivial, ?_⟩) | (refine Wk.yes ?_) | (refine Wk.no ?_) | (refine Wk.and ?_)); (conv => whnf)))
          have e : (m ++ [d]).length = m.length + 1 := by simp
          refine Again.mk (i + 1, x :: (m ++ [d])) (Sub.new [(2, 4)] ⟨rfl, rfl, Nat.le_of_ble_eq_true rfl, Nat.le_of_ble_eq_true rfl⟩ rfl ⟨rfl, rfl, by show some (AV.c (.row 4 (m.length + 1 + 1))) = some (AV.c (.row 4 ((m ++ [d]).length + 1))); rw [e], rfl, trivial⟩ ⟨u8Eq (by show u8s (x :: m) ++ [.int .u8 d.toNat] = _; simp [u8s]), rfl, wBren _ _, trivial⟩ rfl (by simp [tupA, hpLt, tmLt, AV.lt, AE.lt, AC.lt, LL_cons, LL_nil, idOk, ABlk.lt, ints_LL, GB, tab64_LL, gC, wB, giC, noneB, gst, tC, pC, u8s_LL, uV, uH, uK]) (by simp [tupA, hpLt, tmLt, AV.lt, AE.lt, AC.lt, LL_cons, LL_nil, idOk, ABlk.lt, ints_LL, GB, tab64_LL, gC, wB, giC, noneB, gst, tC, pC, u8s_LL, uV, uH, uK])) ⟨by omega, by show x :: (m ++ [d]) = posOf l (i + 1); rw [hms, hdg]; rfl⟩ (by show g.ws.length - (i + 1) < g.ws.length - i; omega)
        · have hdg : dig l i = 46 := by rw [dig, if_neg hi2]
          rw [decide_eq_false (show ¬ (i : Int) < (l.length : Int) by omega)]
          (conv => whnf); (repeat ((first | (refine ⟨rfl, ?_⟩) | (refine ⟨trivial, ?_⟩) | (refine Wk.yes ?_) | (refine Wk.no ?_) | (refine Wk.and ?_)); (conv => whnf)))
          refine ⟨⟨Nat.le_of_ble_eq_true rfl, rfl, rfl, by rw [u8s_len]; simp, by show ((m.length + 1 + 1 : Nat) : Int) * 1 ≤ _; have : m.length + 1 = i := hml; omega, by have : m.length + 1 = i := hml; omega⟩, ?_⟩
          (conv => whnf); (repeat ((first | (refine ⟨rfl, ?_⟩) | (refine ⟨trivial, ?_⟩) | (refine Wk.yes ?_) | (refine Wk.no ?_) | (refine Wk.and ?_)); (conv => whnf)))
          have e : (m ++ [(46 : UInt8)]).length = m.length + 1 := by simp
          refine Again.mk (i + 1, x :: (m ++ [46])) (Sub.new [(2, 4)] ⟨rfl, rfl, Nat.le_of_ble_eq_true rfl, Nat.le_of_ble_eq_true rfl⟩ rfl ⟨rfl, rfl, by show some (AV.c (.row 4 (m.length + 1 + 1))) = some (AV.c (.row 4 ((m ++ [(46 : UInt8)]).length + 1))); rw [e], rfl, trivial⟩ ⟨u8Eq (by show u8s (x :: m) ++ [.int .u8 46] = _; simp [u8s]), rfl, wBren _ _, trivial⟩ rfl (by simp [tupA, hpLt, tmLt, AV.lt, AE.lt, AC.lt, LL_cons, LL_nil, idOk, ABlk.lt, ints_LL, GB, tab64_LL, gC, wB, giC, noneB, gst, tC, pC, u8s_LL, uV, uH, uK]) (by simp [tupA, hpLt, tmLt, AV.lt, AE.lt, AC.lt, LL_cons, LL_nil, idOk, ABlk.lt, ints_LL, GB, tab64_LL, gC, wB, giC, noneB, gst, tC, pC, u8s_LL, uV, uH, uK])) ⟨by omega, by show x :: (m ++ [46]) = posOf l (i + 1); rw [hms, hdg]; rfl⟩ (by show g.ws.length - (i + 1) < g.ws.length - i; omega)
      · obtain rfl : i = g.ws.length := by omega
        (conv => whnf); (repeat ((first | (refine ⟨rfl, ?_⟩) | (refine ⟨trivial, ?_⟩) | (refine Wk.yes ?_) | (refine Wk.no ?_) | (refine Wk.and ?_)); (conv => whnf)))
        refine ⟨by rw [u8s_len]; simp, ?_⟩
        rw [List.take_of_length_le (by rw [u8s_len]; simp), bytesA_u8s]
        (conv => whnf); (repeat ((first | (refine ⟨rfl, ?_⟩) | (refine ⟨trivial, ?_⟩) | (refine Wk.yes ?_) | (refine Wk.no ?_) | (refine Wk.and ?_)); (conv => whnf)))
        exact AH.Fin.nil [] ⟨by rw [← hm]; rfl, rfl, rfl⟩ (by first | exact trivial | (simp [tupA, hpLt, tmLt, AV.lt, AE.lt, AC.lt, LL_cons, LL_nil, idOk, ABlk.lt, ints_LL, GB, tab64_LL, gC, wB, giC, noneB, gst, tC, pC, u8s_LL, uV, uH, uK]; done) | (simp [tupA, hpLt, tmLt, AV.lt, AE.lt, AC.lt, LL_cons, LL_nil, idOk, ABlk.lt, ints_LL, GB, tab64_LL, gC, wB, giC, noneB, gst, tC, pC, u8s_LL, uV, uH, uK, rdn, wrn]; done)) trivial trivial rfl (by simp [GB])
end Go.Proofs.YtfphkpdobbffeaaDoor

/-
  Contracts: Joined, Wins, Best, of any string.
-/
namespace Go.Proofs.YtfphkpdobbffeaaDoor
open Go Go.AH
set_option maxRecDepth 100000
set_option maxHeartbeats 1000000

theorem chk_pos {g : Gm} (hg : g.game) (f k : Nat) : FDet Tryd.prog 47 [.g (gC g 0), .c (.str (posB g.ws.length f k))] [(0, wB g), (100002, .ro tab64)] 1 (.c (.int .i64 0)) [] 1 := by
  have := checkPos_spec hg (posL g.ws.length f k) (by rw [posL_len]; have := hg.ok.len; omega)
  rw [ok_pos] at this
  exact this
theorem chk_bad {g : Gm} (hg : g.game) {l : List UInt8} (hl : l.length ≤ 1000) (h : okPos g.ws.length l = false) : FDet Tryd.prog 47 [.g (gC g 0), .c (.str (bs l))] [(0, wB g), (100002, .ro tab64)] 1 (.c (.int .i64 1)) [] 1 := by
  have := checkPos_spec hg l hl
  rw [h] at this
  exact this
theorem joinedP_spec {g : Gm} (hg : g.game) {f k : Nat} (hf : f < 2 ^ g.ws.length) (hk : k < 2 ^ g.ws.length) (hd : ∀ i, f.testBit i = true → k.testBit i = false) : FDet Tryd.prog 48 [.g (gC g 0), .c (.str (posB g.ws.length f k))] [(0, wB g), (100002, .ro tab64)] 1 (.t [.c (.bool (joinedB g k)), .c (.int .i64 0)]) [] 1 := by
  have hc := chk_pos hg f k
  have hr := read_spec hg.ok.len hf hk hd
  refine FSpec.of_body tok true Tryd.func48 rfl (by kernel_rfl) (by decide) (by simp [tupA, hpLt, tmLt, AV.lt, AE.lt, AC.lt, LL_cons, LL_nil, idOk, ABlk.lt, ints_LL, GB, tab64_LL, gC, wB, giC, noneB, gst, tC, pC]) (by simp [tupA, hpLt, tmLt, AV.lt, AE.lt, AC.lt, LL_cons, LL_nil, idOk, ABlk.lt, ints_LL, GB, tab64_LL, gC, wB, giC, noneB, gst, tC, pC]) (by show 2 ≤ _; decide) ?_
  (conv => whnf); (repeat ((first | (refine ⟨rfl, ?_⟩) | (refine ⟨trivial, ?_⟩) | (refine Wk.yes ?_) | (refine Wk.no ?_) | (refine Wk.and ?_)); (conv => whnf)))
  refine CallA.ro [0] (.c (.int .i64 0)) (hc) (by first | rfl | exact congrArg AV.g (ints_ren _ _) | (simp [ints_ren, AV.ren, ABlk.ren, AC.ren, AE.ren, qq]; done)) rfl (by (repeat (first | exact trivial | refine ⟨⟨(by first | exact .inl (by decide) | exact .inr (by decide)), (by first | rfl | exact congrArg some (ints_ren _ _).symm | exact congrArg ABlk.own (ints_ren _ _).symm | exact congrArg some (tab64_ren _).symm)⟩, ?_⟩))) (by first | rfl | exact congrArg AV.g (ints_ren _ _) | (simp [ints_ren, AV.ren, ABlk.ren, AC.ren, AE.ren, qq]; done)) ?_
  (conv => whnf); (repeat ((first | (refine ⟨rfl, ?_⟩) | (refine ⟨trivial, ?_⟩) | (refine Wk.yes ?_) | (refine Wk.no ?_) | (refine Wk.and ?_)); (conv => whnf)))
  refine Tr.draw (md := true) [⟨[], [14, 15, 16], []⟩, ⟨[], [13], [0]⟩, ⟨[1], [13], [0]⟩, ⟨[1, 2], [13], [0]⟩] tok (by kernel_rfl) (by kernel_rfl) ?_
  (conv => whnf); (repeat ((first | (refine ⟨rfl, ?_⟩) | (refine ⟨trivial, ?_⟩) | (refine Wk.yes ?_) | (refine Wk.no ?_) | (refine Wk.and ?_)); (conv => whnf)))
  refine CallQ.ro [] (.g [.int .i64 f, .int .i64 k]) (hr) (by first | rfl | exact congrArg AV.g (ints_ren _ _) | (simp [ints_ren, AV.ren, ABlk.ren, AC.ren, AE.ren, qq]; done)) rfl (by (repeat (first | exact trivial | refine ⟨⟨(by first | exact .inl (by decide) | exact .inr (by decide)), (by first | rfl | exact congrArg some (ints_ren _ _).symm | exact congrArg ABlk.own (ints_ren _ _).symm | exact congrArg some (tab64_ren _).symm)⟩, ?_⟩))) (by first | rfl | exact congrArg AV.g (ints_ren _ _) | (simp [ints_ren, AV.ren, ABlk.ren, AC.ren, AE.ren, qq]; done)) ?_
  (conv => whnf); (repeat ((first | (refine ⟨rfl, ?_⟩) | (refine ⟨trivial, ?_⟩) | (refine Wk.yes ?_) | (refine Wk.no ?_) | (refine Wk.and ?_)); (conv => whnf)))
  refine CallA.ro [0] (.c (.bool (joinedB g k))) (joined_spec hg.ok hk) (by first | rfl | exact congrArg AV.g (ints_ren _ _) | (simp [ints_ren, AV.ren, ABlk.ren, AC.ren, AE.ren, qq]; done)) rfl (by (repeat (first | exact trivial | refine ⟨⟨(by first | exact .inl (by decide) | exact .inr (by decide)), (by first | rfl | exact congrArg some (ints_ren _ _).symm | exact congrArg ABlk.own (ints_ren _ _).symm | exact congrArg some (tab64_ren _).symm)⟩, ?_⟩))) (by first | rfl | exact congrArg AV.g (ints_ren _ _) | (simp [ints_ren, AV.ren, ABlk.ren, AC.ren, AE.ren, qq]; done)) ?_
  (conv => whnf); (repeat ((first | (refine ⟨rfl, ?_⟩) | (refine ⟨trivial, ?_⟩) | (refine Wk.yes ?_) | (refine Wk.no ?_) | (refine Wk.and ?_)); (conv => whnf)))
  exact AH.Fin.nil [] ⟨rfl, rfl, rfl⟩ (by first | exact trivial | (simp [tupA, hpLt, tmLt, AV.lt, AE.lt, AC.lt, LL_cons, LL_nil, idOk, ABlk.lt, ints_LL, GB, tab64_LL, gC, wB, giC, noneB, gst, tC, pC]; done) | (simp [tupA, hpLt, tmLt, AV.lt, AE.lt, AC.lt, LL_cons, LL_nil, idOk, ABlk.lt, ints_LL, GB, tab64_LL, gC, wB, giC, noneB, gst, tC, pC, rdn, wrn]; done)) trivial trivial rfl (by simp [GB])
theorem joinedBad_spec {g : Gm} (hg : g.game) {l : List UInt8} (hl : l.length ≤ 1000) (h : okPos g.ws.length l = false) : FDet Tryd.prog 48 [.g (gC g 0), .c (.str (bs l))] [(0, wB g), (100002, .ro tab64)] 1 (.t [.c (.bool false), .c (.int .i64 1)]) [] 1 := by
  have hc := chk_bad hg hl h
  refine FSpec.of_body tok true Tryd.func48 rfl (by kernel_rfl) (by decide) (by simp [tupA, hpLt, tmLt, AV.lt, AE.lt, AC.lt, LL_cons, LL_nil, idOk, ABlk.lt, ints_LL, GB, tab64_LL, gC, wB, giC, noneB, gst, tC, pC]) (by simp [tupA, hpLt, tmLt, AV.lt, AE.lt, AC.lt, LL_cons, LL_nil, idOk, ABlk.lt, ints_LL, GB, tab64_LL, gC, wB, giC, noneB, gst, tC, pC]) (by show 2 ≤ _; decide) ?_
  (conv => whnf); (repeat ((first | (refine ⟨rfl, ?_⟩) | (refine ⟨trivial, ?_⟩) | (refine Wk.yes ?_) | (refine Wk.no ?_) | (refine Wk.and ?_)); (conv => whnf)))
  refine CallA.ro [0] (.c (.int .i64 1)) (hc) (by first | rfl | exact congrArg AV.g (ints_ren _ _) | (simp [ints_ren, AV.ren, ABlk.ren, AC.ren, AE.ren, qq]; done)) rfl (by (repeat (first | exact trivial | refine ⟨⟨(by first | exact .inl (by decide) | exact .inr (by decide)), (by first | rfl | exact congrArg some (ints_ren _ _).symm | exact congrArg ABlk.own (ints_ren _ _).symm | exact congrArg some (tab64_ren _).symm)⟩, ?_⟩))) (by first | rfl | exact congrArg AV.g (ints_ren _ _) | (simp [ints_ren, AV.ren, ABlk.ren, AC.ren, AE.ren, qq]; done)) ?_
  (conv => whnf); (repeat ((first | (refine ⟨rfl, ?_⟩) | (refine ⟨trivial, ?_⟩) | (refine Wk.yes ?_) | (refine Wk.no ?_) | (refine Wk.and ?_)); (conv => whnf)))
  exact AH.Fin.nil [] ⟨rfl, rfl, rfl⟩ (by first | exact trivial | (simp [tupA, hpLt, tmLt, AV.lt, AE.lt, AC.lt, LL_cons, LL_nil, idOk, ABlk.lt, ints_LL, GB, tab64_LL, gC, wB, giC, noneB, gst, tC, pC]; done) | (simp [tupA, hpLt, tmLt, AV.lt, AE.lt, AC.lt, LL_cons, LL_nil, idOk, ABlk.lt, ints_LL, GB, tab64_LL, gC, wB, giC, noneB, gst, tC, pC, rdn, wrn]; done)) trivial trivial rfl (by simp [GB])
theorem winsBad_spec {g : Gm} (hg : g.game) {l : List UInt8} (hl : l.length ≤ 1000) (h : okPos g.ws.length l = false) (c : Bool) : FDet Tryd.prog 40 [.g (gC g 0), .c (.str (bs l)), .c (.bool c)] [(0, wB g), (100002, .ro tab64)] 1 (.t [.c (.bool false), .c (.int .i64 1)]) [] 1 := by
  have hc := chk_bad hg hl h
  refine FSpec.of_body tok true Tryd.func40 rfl (by kernel_rfl) (by decide) (by simp [tupA, hpLt, tmLt, AV.lt, AE.lt, AC.lt, LL_cons, LL_nil, idOk, ABlk.lt, ints_LL, GB, tab64_LL, gC, wB, giC, noneB, gst, tC, pC]) (by simp [tupA, hpLt, tmLt, AV.lt, AE.lt, AC.lt, LL_cons, LL_nil, idOk, ABlk.lt, ints_LL, GB, tab64_LL, gC, wB, giC, noneB, gst, tC, pC]) (by show 3 ≤ _; decide) ?_
  (conv => whnf); (repeat ((first | (refine ⟨rfl, ?_⟩) | (refine ⟨trivial, ?_⟩) | (refine Wk.yes ?_) | (refine Wk.no ?_) | (refine Wk.and ?_)); (conv => whnf)))
  refine CallA.ro [0] (.c (.int .i64 1)) (hc) (by first | rfl | exact congrArg AV.g (ints_ren _ _) | (simp [ints_ren, AV.ren, ABlk.ren, AC.ren, AE.ren, qq]; done)) rfl (by (repeat (first | exact trivial | refine ⟨⟨(by first | exact .inl (by decide) | exact .inr (by decide)), (by first | rfl | exact congrArg some (ints_ren _ _).symm | exact congrArg ABlk.own (ints_ren _ _).symm | exact congrArg some (tab64_ren _).symm)⟩, ?_⟩))) (by first | rfl | exact congrArg AV.g (ints_ren _ _) | (simp [ints_ren, AV.ren, ABlk.ren, AC.ren, AE.ren, qq]; done)) ?_
  (conv => whnf); (repeat ((first | (refine ⟨rfl, ?_⟩) | (refine ⟨trivial, ?_⟩) | (refine Wk.yes ?_) | (refine Wk.no ?_) | (refine Wk.and ?_)); (conv => whnf)))
  exact AH.Fin.nil [] ⟨rfl, rfl, rfl⟩ (by first | exact trivial | (simp [tupA, hpLt, tmLt, AV.lt, AE.lt, AC.lt, LL_cons, LL_nil, idOk, ABlk.lt, ints_LL, GB, tab64_LL, gC, wB, giC, noneB, gst, tC, pC]; done) | (simp [tupA, hpLt, tmLt, AV.lt, AE.lt, AC.lt, LL_cons, LL_nil, idOk, ABlk.lt, ints_LL, GB, tab64_LL, gC, wB, giC, noneB, gst, tC, pC, rdn, wrn]; done)) trivial trivial rfl (by simp [GB])
theorem bestBad_spec {g : Gm} (hg : g.game) {l : List UInt8} (hl : l.length ≤ 1000) (h : okPos g.ws.length l = false) (c : Bool) : FDet Tryd.prog 43 [.g (gC g 0), .c (.str (bs l)), .c (.bool c)] [(0, wB g), (100002, .ro tab64)] 1 (.t [.c (.int .i64 0), .c (.bool false), .c (.int .i64 1)]) [] 1 := by
  have hc := chk_bad hg hl h
  refine FSpec.of_body tok true Tryd.func43 rfl (by kernel_rfl) (by decide) (by simp [tupA, hpLt, tmLt, AV.lt, AE.lt, AC.lt, LL_cons, LL_nil, idOk, ABlk.lt, ints_LL, GB, tab64_LL, gC, wB, giC, noneB, gst, tC, pC]) (by simp [tupA, hpLt, tmLt, AV.lt, AE.lt, AC.lt, LL_cons, LL_nil, idOk, ABlk.lt, ints_LL, GB, tab64_LL, gC, wB, giC, noneB, gst, tC, pC]) (by show 3 ≤ _; decide) ?_
  (conv => whnf); (repeat ((first | (refine ⟨rfl, ?_⟩) | (refine ⟨trivial, ?_⟩) | (refine Wk.yes ?_) | (refine Wk.no ?_) | (refine Wk.and ?_)); (conv => whnf)))
  refine CallA.ro [0] (.c (.int .i64 1)) (hc) (by first | rfl | exact congrArg AV.g (ints_ren _ _) | (simp [ints_ren, AV.ren, ABlk.ren, AC.ren, AE.ren, qq]; done)) rfl (by (repeat (first | exact trivial | refine ⟨⟨(by first | exact .inl (by decide) | exact .inr (by decide)), (by first | rfl | exact congrArg some (ints_ren _ _).symm | exact congrArg ABlk.own (ints_ren _ _).symm | exact congrArg some (tab64_ren _).symm)⟩, ?_⟩))) (by first | rfl | exact congrArg AV.g (ints_ren _ _) | (simp [ints_ren, AV.ren, ABlk.ren, AC.ren, AE.ren, qq]; done)) ?_
  (conv => whnf); (repeat ((first | (refine ⟨rfl, ?_⟩) | (refine ⟨trivial, ?_⟩) | (refine Wk.yes ?_) | (refine Wk.no ?_) | (refine Wk.and ?_)); (conv => whnf)))
  exact AH.Fin.nil [] ⟨rfl, rfl, rfl⟩ (by first | exact trivial | (simp [tupA, hpLt, tmLt, AV.lt, AE.lt, AC.lt, LL_cons, LL_nil, idOk, ABlk.lt, ints_LL, GB, tab64_LL, gC, wB, giC, noneB, gst, tC, pC]; done) | (simp [tupA, hpLt, tmLt, AV.lt, AE.lt, AC.lt, LL_cons, LL_nil, idOk, ABlk.lt, ints_LL, GB, tab64_LL, gC, wB, giC, noneB, gst, tC, pC, rdn, wrn]; done)) trivial trivial rfl (by simp [GB])
theorem winsP_spec {g : Gm} (hg : g.game) {f k : Nat} (hf : f < 2 ^ g.ws.length) (hk : k < 2 ^ g.ws.length) (hd : ∀ i, f.testBit i = true → k.testBit i = false) (c : Bool) : FDet Tryd.prog 40 [.g (gC g 0), .c (.str (posB g.ws.length f k)), .c (.bool c)] [(0, wB g), (100002, .ro tab64)] 1 (.t [.c (.bool (W g f k c)), .c (.int .i64 0)]) [] 1 := by
  have hc := chk_pos hg f k
  have hr := read_spec hg.ok.len hf hk hd
  have hS := short_all hg.ok f hf k c hk
  refine FSpec.of_body tok true Tryd.func40 rfl (by kernel_rfl) (by decide) (by simp [tupA, hpLt, tmLt, AV.lt, AE.lt, AC.lt, LL_cons, LL_nil, idOk, ABlk.lt, ints_LL, GB, tab64_LL, gC, wB, giC, noneB, gst, tC, pC]) (by simp [tupA, hpLt, tmLt, AV.lt, AE.lt, AC.lt, LL_cons, LL_nil, idOk, ABlk.lt, ints_LL, GB, tab64_LL, gC, wB, giC, noneB, gst, tC, pC]) (by show 3 ≤ _; decide) ?_
  (conv => whnf); (repeat ((first | (refine ⟨rfl, ?_⟩) | (refine ⟨trivial, ?_⟩) | (refine Wk.yes ?_) | (refine Wk.no ?_) | (refine Wk.and ?_)); (conv => whnf)))
  refine CallA.ro [0] (.c (.int .i64 0)) (hc) (by first | rfl | exact congrArg AV.g (ints_ren _ _) | (simp [ints_ren, AV.ren, ABlk.ren, AC.ren, AE.ren, qq]; done)) rfl (by (repeat (first | exact trivial | refine ⟨⟨(by first | exact .inl (by decide) | exact .inr (by decide)), (by first | rfl | exact congrArg some (ints_ren _ _).symm | exact congrArg ABlk.own (ints_ren _ _).symm | exact congrArg some (tab64_ren _).symm)⟩, ?_⟩))) (by first | rfl | exact congrArg AV.g (ints_ren _ _) | (simp [ints_ren, AV.ren, ABlk.ren, AC.ren, AE.ren, qq]; done)) ?_
  (conv => whnf); (repeat ((first | (refine ⟨rfl, ?_⟩) | (refine ⟨trivial, ?_⟩) | (refine Wk.yes ?_) | (refine Wk.no ?_) | (refine Wk.and ?_)); (conv => whnf)))
  refine CallA.det [0] (.c (.ptr 3 0)) ([(1, .own (gC g 0)), (0, wB g), (100002, .ro tab64), (2, .mi (MI g)), (3, .own (pC g 0 2))]) (newP_mi g) (by first | rfl | exact congrArg AV.g (ints_ren _ _) | (simp [ints_ren, AV.ren, ABlk.ren, AC.ren, AE.ren, qq]; done)) rfl (by (repeat (first | exact trivial | refine ⟨⟨(by first | exact .inl (by decide) | exact .inr (by decide)), (by first | rfl | exact congrArg some (ints_ren _ _).symm | exact congrArg ABlk.own (ints_ren _ _).symm | exact congrArg some (tab64_ren _).symm)⟩, ?_⟩))) (by first | rfl | exact congrArg AV.g (ints_ren _ _) | (simp [ints_ren, AV.ren, ABlk.ren, AC.ren, AE.ren, qq]; done)) (by first | rfl | (simp [behind, gone, lk, up, del, qq, ABlk.wr, GB, ints_ren, AV.ren, ABlk.ren, AC.ren, AE.ren]; done) | (simp [behind, gone, lk, up, del, qq, ABlk.wr, GB, ints_ren, AV.ren, ABlk.ren, AC.ren, AE.ren]; rfl)) ?_
  (conv => whnf); (repeat ((first | (refine ⟨rfl, ?_⟩) | (refine ⟨trivial, ?_⟩) | (refine Wk.yes ?_) | (refine Wk.no ?_) | (refine Wk.and ?_)); (conv => whnf)))
  refine CallA.ro [] (.g [.int .i64 f, .int .i64 k]) (hr) (by first | rfl | exact congrArg AV.g (ints_ren _ _) | (simp [ints_ren, AV.ren, ABlk.ren, AC.ren, AE.ren, qq]; done)) rfl (by (repeat (first | exact trivial | refine ⟨⟨(by first | exact .inl (by decide) | exact .inr (by decide)), (by first | rfl | exact congrArg some (ints_ren _ _).symm | exact congrArg ABlk.own (ints_ren _ _).symm | exact congrArg some (tab64_ren _).symm)⟩, ?_⟩))) (by first | rfl | exact congrArg AV.g (ints_ren _ _) | (simp [ints_ren, AV.ren, ABlk.ren, AC.ren, AE.ren, qq]; done)) ?_
  (conv => whnf); (repeat ((first | (refine ⟨rfl, ?_⟩) | (refine ⟨trivial, ?_⟩) | (refine Wk.yes ?_) | (refine Wk.no ?_) | (refine Wk.and ?_)); (conv => whnf)))
  refine CallA.det [0, 3, 2] (.c (.bool (W g f k c))) ([(1, .own (gC g 0)), (0, wB g), (100002, .ro tab64), (3, .own (pC g 0 2)), (2, .mi (MI g))]) (hS) (by first | rfl | exact congrArg AV.g (ints_ren _ _) | (simp [ints_ren, AV.ren, ABlk.ren, AC.ren, AE.ren, qq]; done)) rfl (by (repeat (first | exact trivial | refine ⟨⟨(by first | exact .inl (by decide) | exact .inr (by decide)), (by first | rfl | exact congrArg some (ints_ren _ _).symm | exact congrArg ABlk.own (ints_ren _ _).symm | exact congrArg some (tab64_ren _).symm)⟩, ?_⟩))) (by first | rfl | exact congrArg AV.g (ints_ren _ _) | (simp [ints_ren, AV.ren, ABlk.ren, AC.ren, AE.ren, qq]; done)) (by first | rfl | (simp [behind, gone, lk, up, del, qq, ABlk.wr, GB, ints_ren, AV.ren, ABlk.ren, AC.ren, AE.ren]; done) | (simp [behind, gone, lk, up, del, qq, ABlk.wr, GB, ints_ren, AV.ren, ABlk.ren, AC.ren, AE.ren]; rfl)) ?_
  (conv => whnf); (repeat ((first | (refine ⟨rfl, ?_⟩) | (refine ⟨trivial, ?_⟩) | (refine Wk.yes ?_) | (refine Wk.no ?_) | (refine Wk.and ?_)); (conv => whnf)))
  exact AH.Fin.nil [] ⟨rfl, rfl, rfl⟩ (by first | exact trivial | (simp [tupA, hpLt, tmLt, AV.lt, AE.lt, AC.lt, LL_cons, LL_nil, idOk, ABlk.lt, ints_LL, GB, tab64_LL, gC, wB, giC, noneB, gst, tC, pC]; done) | (simp [tupA, hpLt, tmLt, AV.lt, AE.lt, AC.lt, LL_cons, LL_nil, idOk, ABlk.lt, ints_LL, GB, tab64_LL, gC, wB, giC, noneB, gst, tC, pC, rdn, wrn]; done)) trivial trivial rfl (by simp [GB])
theorem bestP_spec {g : Gm} (hg : g.game) {f k : Nat} (hf : f < 2 ^ g.ws.length) (hk : k < 2 ^ g.ws.length) (hd : ∀ i, f.testBit i = true → k.testBit i = false) (c : Bool) : FDet Tryd.prog 43 [.g (gC g 0), .c (.str (posB g.ws.length f k)), .c (.bool c)] [(0, wB g), (100002, .ro tab64)] 1 (.t [.c (.int .i64 ((goodO g f k c).getD 0)), .c (.bool (goodO g f k c).isSome), .c (.int .i64 0)]) [] 1 := by
  have hc := chk_pos hg f k
  have hr := read_spec hg.ok.len hf hk hd
  have hG := good_of_short hg.ok hf (fun f' h => short_all hg.ok f' (by omega)) k c hk
  refine FSpec.of_body tok true Tryd.func43 rfl (by kernel_rfl) (by decide) (by simp [tupA, hpLt, tmLt, AV.lt, AE.lt, AC.lt, LL_cons, LL_nil, idOk, ABlk.lt, ints_LL, GB, tab64_LL, gC, wB, giC, noneB, gst, tC, pC]) (by simp [tupA, hpLt, tmLt, AV.lt, AE.lt, AC.lt, LL_cons, LL_nil, idOk, ABlk.lt, ints_LL, GB, tab64_LL, gC, wB, giC, noneB, gst, tC, pC]) (by show 3 ≤ _; decide) ?_
  (conv => whnf); (repeat ((first | (refine ⟨rfl, ?_⟩) | (refine ⟨trivial, ?_⟩) | (refine Wk.yes ?_) | (refine Wk.no ?_) | (refine Wk.and ?_)); (conv => whnf)))
  refine CallA.ro [0] (.c (.int .i64 0)) (hc) (by first | rfl | exact congrArg AV.g (ints_ren _ _) | (simp [ints_ren, AV.ren, ABlk.ren, AC.ren, AE.ren, qq]; done)) rfl (by (repeat (first | exact trivial | refine ⟨⟨(by first | exact .inl (by decide) | exact .inr (by decide)), (by first | rfl | exact congrArg some (ints_ren _ _).symm | exact congrArg ABlk.own (ints_ren _ _).symm | exact congrArg some (tab64_ren _).symm)⟩, ?_⟩))) (by first | rfl | exact congrArg AV.g (ints_ren _ _) | (simp [ints_ren, AV.ren, ABlk.ren, AC.ren, AE.ren, qq]; done)) ?_
  (conv => whnf); (repeat ((first | (refine ⟨rfl, ?_⟩) | (refine ⟨trivial, ?_⟩) | (refine Wk.yes ?_) | (refine Wk.no ?_) | (refine Wk.and ?_)); (conv => whnf)))
  refine CallA.det [0] (.c (.ptr 3 0)) ([(1, .own (gC g 0)), (0, wB g), (100002, .ro tab64), (2, .mi (MI g)), (3, .own (pC g 0 2))]) (newP_mi g) (by first | rfl | exact congrArg AV.g (ints_ren _ _) | (simp [ints_ren, AV.ren, ABlk.ren, AC.ren, AE.ren, qq]; done)) rfl (by (repeat (first | exact trivial | refine ⟨⟨(by first | exact .inl (by decide) | exact .inr (by decide)), (by first | rfl | exact congrArg some (ints_ren _ _).symm | exact congrArg ABlk.own (ints_ren _ _).symm | exact congrArg some (tab64_ren _).symm)⟩, ?_⟩))) (by first | rfl | exact congrArg AV.g (ints_ren _ _) | (simp [ints_ren, AV.ren, ABlk.ren, AC.ren, AE.ren, qq]; done)) (by first | rfl | (simp [behind, gone, lk, up, del, qq, ABlk.wr, GB, ints_ren, AV.ren, ABlk.ren, AC.ren, AE.ren]; done) | (simp [behind, gone, lk, up, del, qq, ABlk.wr, GB, ints_ren, AV.ren, ABlk.ren, AC.ren, AE.ren]; rfl)) ?_
  (conv => whnf); (repeat ((first | (refine ⟨rfl, ?_⟩) | (refine ⟨trivial, ?_⟩) | (refine Wk.yes ?_) | (refine Wk.no ?_) | (refine Wk.and ?_)); (conv => whnf)))
  refine CallA.ro [] (.g [.int .i64 f, .int .i64 k]) (hr) (by first | rfl | exact congrArg AV.g (ints_ren _ _) | (simp [ints_ren, AV.ren, ABlk.ren, AC.ren, AE.ren, qq]; done)) rfl (by (repeat (first | exact trivial | refine ⟨⟨(by first | exact .inl (by decide) | exact .inr (by decide)), (by first | rfl | exact congrArg some (ints_ren _ _).symm | exact congrArg ABlk.own (ints_ren _ _).symm | exact congrArg some (tab64_ren _).symm)⟩, ?_⟩))) (by first | rfl | exact congrArg AV.g (ints_ren _ _) | (simp [ints_ren, AV.ren, ABlk.ren, AC.ren, AE.ren, qq]; done)) ?_
  (conv => whnf); (repeat ((first | (refine ⟨rfl, ?_⟩) | (refine ⟨trivial, ?_⟩) | (refine Wk.yes ?_) | (refine Wk.no ?_) | (refine Wk.and ?_)); (conv => whnf)))
  refine CallA.det [0, 3, 2] (.t [.c (.int .i64 ((goodO g f k c).getD 0)), .c (.bool (goodO g f k c).isSome)]) ([(1, .own (gC g 0)), (0, wB g), (100002, .ro tab64), (3, .own (pC g 0 2)), (2, .mi (MI g))]) (hG) (by first | rfl | exact congrArg AV.g (ints_ren _ _) | (simp [ints_ren, AV.ren, ABlk.ren, AC.ren, AE.ren, qq]; done)) rfl (by (repeat (first | exact trivial | refine ⟨⟨(by first | exact .inl (by decide) | exact .inr (by decide)), (by first | rfl | exact congrArg some (ints_ren _ _).symm | exact congrArg ABlk.own (ints_ren _ _).symm | exact congrArg some (tab64_ren _).symm)⟩, ?_⟩))) (by first | rfl | exact congrArg AV.g (ints_ren _ _) | (simp [ints_ren, AV.ren, ABlk.ren, AC.ren, AE.ren, qq]; done)) (by first | rfl | (simp [behind, gone, lk, up, del, qq, ABlk.wr, GB, ints_ren, AV.ren, ABlk.ren, AC.ren, AE.ren]; done) | (simp [behind, gone, lk, up, del, qq, ABlk.wr, GB, ints_ren, AV.ren, ABlk.ren, AC.ren, AE.ren]; rfl)) ?_
  (conv => whnf); (repeat ((first | (refine ⟨rfl, ?_⟩) | (refine ⟨trivial, ?_⟩) | (refine Wk.yes ?_) | (refine Wk.no ?_) | (refine Wk.and ?_)); (conv => whnf)))
  exact AH.Fin.nil [] ⟨rfl, rfl, rfl⟩ (by first | exact trivial | (simp [tupA, hpLt, tmLt, AV.lt, AE.lt, AC.lt, LL_cons, LL_nil, idOk, ABlk.lt, ints_LL, GB, tab64_LL, gC, wB, giC, noneB, gst, tC, pC]; done) | (simp [tupA, hpLt, tmLt, AV.lt, AE.lt, AC.lt, LL_cons, LL_nil, idOk, ABlk.lt, ints_LL, GB, tab64_LL, gC, wB, giC, noneB, gst, tC, pC, rdn, wrn]; done)) trivial trivial rfl (by simp [GB])
end Go.Proofs.YtfphkpdobbffeaaDoor

/-
  Contracts at games without wires; the law SwitchPositions, as a contract.
-/
namespace Go.Proofs.YtfphkpdobbffeaaDoor
open Go Go.AH
set_option maxRecDepth 100000
set_option maxHeartbeats 1000000

theorem nilW {g : Gm} (h : g.ws = []) {fn : FuncId} {args : List AV} {r : AV} {k' : Nat} (h1 : FDet Tryd.prog fn (.g (gC g 0) :: args) [(0, wB g), (100002, .ro tab64)] 1 r [] k')
    (hw : wkVs [(0, .ro []), (100002, .ro tab64)] args args) (ha : ∀ v ∈ args, v.all (· ≠ 0)) (hr : r.all (· ≠ 0)) : FDet Tryd.prog fn (.g (gN g) :: args) [(100002, .ro tab64)] 1 r [] k' := by
  rw [show wB g = .ro [] by rw [wB, h]; rfl] at h1
  refine FDet.nil0 h1 _ 100002 tab64 rfl ⟨.inr ⟨rfl, rfl, rfl, by show g.ws.length = 0; rw [h]; rfl, trivial⟩, hw⟩ ?_ ?_ hr
  · intro v hv
    rcases List.mem_cons.1 hv with rfl | hv
    · exact gN_all g _ _ (by simp)
    · exact ha v hv
  · intro p hp; simp at hp; subst hp; exact ⟨by decide, tab_all _⟩
theorem nilR {g : Gm} (h : g.ws = []) {fn : FuncId} {args : List AV} {r : AV} {k' : Nat} (h1 : FDet Tryd.prog fn (.g (gC g 0) :: args) [(0, wB g)] 1 r [] k')
    (hw : wkVs [(0, wB g), (100002, .ro tab64)] args args) (hw2 : wkVs [(0, .ro []), (100002, .ro tab64)] args args) (ha : ∀ v ∈ args, v.all (· ≠ 0)) (hr : r.all (· ≠ 0)) : FDet Tryd.prog fn (.g (gN g) :: args) [(100002, .ro tab64)] 1 r [] k' :=
  nilW h (FDet.wk h1 (args' := .g (gC g 0) :: args) (hp' := [(0, wB g), (100002, .ro tab64)]) ⟨.inl rfl, hw⟩ ⟨.inl rfl, trivial⟩) hw2 ha hr
theorem all1 (x : ByteArray) (p : Nat → Prop) : ∀ v ∈ [AV.c (.str x)], v.all p := by
  intro v hv; simp at hv; subst hv; trivial
theorem all2 (x : ByteArray) (b : Bool) (p : Nat → Prop) : ∀ v ∈ [AV.c (.str x), .c (.bool b)], v.all p := by
  intro v hv; simp at hv; rcases hv with rfl | rfl <;> trivial
theorem all_t2 (a b : AC) (ha : a.prim = true) (hb : b.prim = true) (p : Nat → Prop) : AV.all p (.t [.c a, .c b]) := by
  intro e he; simp at he; rcases he with rfl | rfl
  · cases a <;> first | trivial | cases ha
  · cases b <;> first | trivial | cases hb
theorem all_t3 (a b c : AC) (ha : a.prim = true) (hb : b.prim = true) (hc : c.prim = true) (p : Nat → Prop) : AV.all p (.t [.c a, .c b, .c c]) := by
  intro e he; simp at he; rcases he with rfl | rfl | rfl
  · cases a <;> first | trivial | cases ha
  · cases b <;> first | trivial | cases hb
  · cases c <;> first | trivial | cases hc
theorem checkPos_nil {g : Gm} (hg : g.game) (h : g.ws = []) (l : List UInt8) (hl : l.length ≤ 1000) : FDet Tryd.prog 47 [.g (gN g), .c (.str (bs l))] [(100002, .ro tab64)] 1 (.c (.int .i64 (cond (okPos g.ws.length l) 0 1))) [] 1 :=
  nilW h (checkPos_spec hg l hl) ⟨rfl, trivial⟩ (all1 _ _) trivial
theorem joinedP_nil {g : Gm} (hg : g.game) (h : g.ws = []) {f k : Nat} (hf : f < 2 ^ g.ws.length) (hk : k < 2 ^ g.ws.length) (hd : ∀ i, f.testBit i = true → k.testBit i = false) : FDet Tryd.prog 48 [.g (gN g), .c (.str (posB g.ws.length f k))] [(100002, .ro tab64)] 1 (.t [.c (.bool (joinedB g k)), .c (.int .i64 0)]) [] 1 :=
  nilW h (joinedP_spec hg hf hk hd) ⟨rfl, trivial⟩ (all1 _ _) (all_t2 _ _ rfl rfl _)
theorem winsP_nil {g : Gm} (hg : g.game) (h : g.ws = []) {f k : Nat} (hf : f < 2 ^ g.ws.length) (hk : k < 2 ^ g.ws.length) (hd : ∀ i, f.testBit i = true → k.testBit i = false) (c : Bool) : FDet Tryd.prog 40 [.g (gN g), .c (.str (posB g.ws.length f k)), .c (.bool c)] [(100002, .ro tab64)] 1 (.t [.c (.bool (W g f k c)), .c (.int .i64 0)]) [] 1 :=
  nilW h (winsP_spec hg hf hk hd c) ⟨rfl, rfl, trivial⟩ (all2 _ _ _) (all_t2 _ _ rfl rfl _)
theorem bestP_nil {g : Gm} (hg : g.game) (h : g.ws = []) {f k : Nat} (hf : f < 2 ^ g.ws.length) (hk : k < 2 ^ g.ws.length) (hd : ∀ i, f.testBit i = true → k.testBit i = false) (c : Bool) : FDet Tryd.prog 43 [.g (gN g), .c (.str (posB g.ws.length f k)), .c (.bool c)] [(100002, .ro tab64)] 1 (.t [.c (.int .i64 ((goodO g f k c).getD 0)), .c (.bool (goodO g f k c).isSome), .c (.int .i64 0)]) [] 1 :=
  nilW h (bestP_spec hg hf hk hd c) ⟨rfl, rfl, trivial⟩ (all2 _ _ _) (all_t3 _ _ _ rfl rfl rfl _)
theorem joinedBad_nil {g : Gm} (hg : g.game) (h : g.ws = []) {l : List UInt8} (hl : l.length ≤ 1000) (hb : okPos g.ws.length l = false) : FDet Tryd.prog 48 [.g (gN g), .c (.str (bs l))] [(100002, .ro tab64)] 1 (.t [.c (.bool false), .c (.int .i64 1)]) [] 1 :=
  nilW h (joinedBad_spec hg hl hb) ⟨rfl, trivial⟩ (all1 _ _) (all_t2 _ _ rfl rfl _)
theorem winsBad_nil {g : Gm} (hg : g.game) (h : g.ws = []) {l : List UInt8} (hl : l.length ≤ 1000) (hb : okPos g.ws.length l = false) (c : Bool) : FDet Tryd.prog 40 [.g (gN g), .c (.str (bs l)), .c (.bool c)] [(100002, .ro tab64)] 1 (.t [.c (.bool false), .c (.int .i64 1)]) [] 1 :=
  nilW h (winsBad_spec hg hl hb c) ⟨rfl, rfl, trivial⟩ (all2 _ _ _) (all_t2 _ _ rfl rfl _)
theorem bestBad_nil {g : Gm} (hg : g.game) (h : g.ws = []) {l : List UInt8} (hl : l.length ≤ 1000) (hb : okPos g.ws.length l = false) (c : Bool) : FDet Tryd.prog 43 [.g (gN g), .c (.str (bs l)), .c (.bool c)] [(100002, .ro tab64)] 1 (.t [.c (.int .i64 0), .c (.bool false), .c (.int .i64 1)]) [] 1 :=
  nilW h (bestBad_spec hg hl hb c) ⟨rfl, rfl, trivial⟩ (all2 _ _ _) (all_t3 _ _ _ rfl rfl rfl _)
theorem positionR_nil {g : Gm} (hg : g.ok) (h : g.ws = []) (l : List UInt8) (hl : l.length ≤ 1000) : FDet Tryd.prog 49 [.g (gN g), .c (.str (bs l))] [(100002, .ro tab64)] 1 (.c (.bool (okPos g.ws.length l))) [] 1 :=
  nilR h (positionR_spec hg l hl) ⟨rfl, trivial⟩ ⟨rfl, trivial⟩ (all1 _ _) trivial
theorem position_nil {g : Gm} (hg : g.ok) (h : g.ws = []) (l : List UInt8) : FDet Tryd.prog 41 [.g (gN g), .c (.str (bs l))] [(100002, .ro tab64)] 1 (.c (.str (bs (posOf l g.ws.length)))) [] 1 :=
  nilR h (position_spec hg l) ⟨rfl, trivial⟩ ⟨rfl, trivial⟩ (all1 _ _) trivial
theorem joinedR_nil {g : Gm} (hg : g.ok) (h : g.ws = []) {f k : Nat} (hk : k < 2 ^ g.ws.length) (hd : ∀ i, f.testBit i = true → k.testBit i = false) : FDet Tryd.prog 50 [.g (gN g), .c (.str (posB g.ws.length f k))] [(100002, .ro tab64)] 1 (.c (.bool (joinedB g k))) [] 1 :=
  nilR h (joinedR_spec hg hk hd) ⟨rfl, trivial⟩ ⟨rfl, trivial⟩ (all1 _ _) trivial
end Go.Proofs.YtfphkpdobbffeaaDoor

/-
  The law SwitchPositions, as a contract.
-/
namespace Go.Proofs.YtfphkpdobbffeaaDoor
open Go Go.AH
set_option maxRecDepth 100000
set_option maxHeartbeats 1000000

theorem cut11 (p : List UInt8) : (bs p).extract ((none : Option Int).getD 0).toNat ((some (min ((bs p).size : Int) 11)).getD ((bs p).size : Int)).toNat = bs (p.take 11) := by
  rw [bs_size, bs, ext_bytes]
  simp only [Option.getD_none, Option.getD_some]
  rw [show (min (p.length : Int) 11).toNat = min p.length 11 by omega]
  simp only [bs, Int.toNat_zero, List.drop_zero, Nat.sub_zero]
  congr 2
  rcases Nat.le_total p.length 11 with h | h
  · rw [Nat.min_eq_left h, List.take_of_length_le (Nat.le_refl _), List.take_of_length_le h]
  · rw [Nat.min_eq_right h]
theorem positions_nil (x : Rw) (p : List UInt8) (h4 : x.ws.length ≤ 9223372036854775807) (hws : (tame x 8 10).ws = []) : FDet Tryd.prog 12 [.g (rC x 0), .c (.str (bs p))] [(0, rB x), (100002, .ro tab64), (100000, noneB)] 1 (.c (.bool true)) [] 1 := by
  have hgm := tame_game x (pl := 8) (most := 10) (by omega) (by omega) (by omega)
  have hgl := hgm.ok.len
  have ht := tame_nil (x := x) (pl := 8) (most := 10) (by omega) (by omega) (by omega) h4 hws
  generalize tame x 8 10 = g at *
  have hs0 : (p.take 11).length ≤ 11 := by rw [List.length_take]; omega
  have hpo := posOf_len p g.ws.length
  refine FSpec.of_body tok true Tryd.func12 rfl (by kernel_rfl) (by decide) (by simp [tupA, hpLt, tmLt, AV.lt, AE.lt, AC.lt, LL_cons, LL_nil, idOk, ABlk.lt, ints_LL, GB, tab64_LL, gC, wB, giC, noneB, gst, tC, pC, gN, gR, rC, rB]) (by simp [tupA, hpLt, tmLt, AV.lt, AE.lt, AC.lt, LL_cons, LL_nil, idOk, ABlk.lt, ints_LL, GB, tab64_LL, gC, wB, giC, noneB, gst, tC, pC, gN, gR, rC, rB]) (by show 2 ≤ _; decide) ?_
  (conv => whnf); (repeat ((first | (refine ⟨rfl, ?_⟩) | (refine ⟨trivial, ?_⟩) | (refine Wk.yes ?_) | (refine Wk.no ?_) | (refine Wk.and ?_)); (conv => whnf)))
  refine CallA.ro [0] (.g (gN g)) (ht) (by first | rfl | exact congrArg AV.g (ints_ren _ _) | (simp [ints_ren, AV.ren, ABlk.ren, AC.ren, AE.ren, qq]; done)) rfl (by (repeat (first | exact trivial | refine ⟨⟨(by first | exact .inl (by decide) | exact .inr (by decide)), (by first | rfl | exact congrArg some (ints_ren _ _).symm | exact congrArg ABlk.own (ints_ren _ _).symm | exact congrArg some (tab64_ren _).symm)⟩, ?_⟩))) (by first | rfl | exact congrArg AV.g (ints_ren _ _) | (simp [ints_ren, AV.ren, ABlk.ren, AC.ren, AE.ren, qq]; done)) ?_
  (conv => whnf); (repeat ((first | (refine ⟨rfl, ?_⟩) | (refine ⟨trivial, ?_⟩) | (refine Wk.yes ?_) | (refine Wk.no ?_) | (refine Wk.and ?_)); (conv => whnf)))
  refine CallA.ro [0] (.g (gN g)) (given_nil) (by first | rfl | exact congrArg AV.g (ints_ren _ _) | (simp [ints_ren, AV.ren, ABlk.ren, AC.ren, AE.ren, qq]; done)) rfl (by (repeat (first | exact trivial | refine ⟨⟨(by first | exact .inl (by decide) | exact .inr (by decide)), (by first | rfl | exact congrArg some (ints_ren _ _).symm | exact congrArg ABlk.own (ints_ren _ _).symm | exact congrArg some (tab64_ren _).symm)⟩, ?_⟩))) (by first | rfl | exact congrArg AV.g (ints_ren _ _) | (simp [ints_ren, AV.ren, ABlk.ren, AC.ren, AE.ren, qq]; done)) ?_
  (conv => whnf); (repeat ((first | (refine ⟨rfl, ?_⟩) | (refine ⟨trivial, ?_⟩) | (refine Wk.yes ?_) | (refine Wk.no ?_) | (refine Wk.and ?_)); (conv => whnf)))
  refine ⟨⟨Int.le_refl 0, by show (0 : Int) ≤ min ((bs p).size : Int) 11; omega, by show min ((bs p).size : Int) 11 ≤ ((bs p).size : Int); omega⟩, ?_⟩
  rw [cut11]
  (conv => whnf); (repeat ((first | (refine ⟨rfl, ?_⟩) | (refine ⟨trivial, ?_⟩) | (refine Wk.yes ?_) | (refine Wk.no ?_) | (refine Wk.and ?_)); (conv => whnf)))
  refine Tr.loop (md := true) (X := Nat × List UInt8) (st := fun q => ⟨[(1, .c (.str (bs p))), (5, .c (.ptr 2 0)), (6, .c (.ptr 3 0)), (7, .c (.str (bs q.2))), (8, .c (.int .i64 q.1))], [(3, .own (gN g)), (2, .own (gN g)), (1, .own (rC x 0)), (0, rB x), (100002, .ro tab64), (100000, noneB)], 4, 90, 1⟩) (inv := fun q => q.1 ≤ 2 ∧ q.2.length ≤ 1000) (μ := fun q => 2 - q.1) (x0 := (0, p.take 11)) (l := []) tok ⟨by omega, by show (p.take 11).length ≤ 1000; omega⟩ ?_ ?_
  · exact Sub.nil ⟨rfl, rfl, (by simp [tab64_LL, gC, wB, giC, noneB, gst, tC, pC, gN, gR, rC, rB]), rfl, (by simp [tupA, hpLt, tmLt, AV.lt, AE.lt, AC.lt, LL_cons, LL_nil, idOk, ABlk.lt, ints_LL, GB, tab64_LL, gC, wB, giC, noneB, gst, tC, pC, gN, gR, rC, rB]), (by simp [tupA, hpLt, tmLt, AV.lt, AE.lt, AC.lt, LL_cons, LL_nil, idOk, ABlk.lt, ints_LL, GB, tab64_LL, gC, wB, giC, noneB, gst, tC, pC, gN, gR, rC, rB])⟩ (by (repeat (first | exact trivial | refine ⟨trivial, ?_⟩ | refine ⟨rfl, ?_⟩))) (by (repeat (first | exact trivial | refine ⟨trivial, ?_⟩ | refine ⟨rfl, ?_⟩)))
  · rintro ⟨i, s⟩ ⟨hi, hs⟩
    dsimp only at hi hs
    dsimp only
    (conv => whnf); (repeat ((first | (refine ⟨rfl, ?_⟩) | (refine ⟨trivial, ?_⟩) | (refine Wk.yes ?_) | (refine Wk.no ?_) | (refine Wk.and ?_)); (conv => whnf)))
    refine ⟨fun hc => ?_, fun hc => ?_⟩ <;> (try simp only [decide_eq_true_eq, decide_eq_false_iff_not, Decidable.not_not, Bool.not_true, Bool.not_false, ne_eq, cond_true, cond_false, Bool.not_eq_true', Bool.not_eq_false'] at hc)
    · have hck := checkPos_nil hgm hws s hs
      have hpr := positionR_nil hgm.ok hws s hs
      have hpn := position_nil hgm.ok hws p
      cases hok : okPos g.ws.length s with
      | true =>
        rw [hok] at hck hpr
        obtain ⟨f, k, hf, hk, hd, rfl⟩ : ∃ f k, f < 2 ^ g.ws.length ∧ k < 2 ^ g.ws.length ∧ (∀ i, f.testBit i = true → k.testBit i = false) ∧ s = posL g.ws.length f k := ⟨_, _, fB_lt _ _, kB_lt _ _, fkB_dis _ _, pos_of_ok hok⟩
        have hjp := joinedP_nil hgm hws hf hk hd
        have hjr := joinedR_nil hgm.ok hws hk hd
        generalize joinedB g k = J at *
        (conv => whnf); (repeat ((first | (refine ⟨rfl, ?_⟩) | (refine ⟨trivial, ?_⟩) | (refine Wk.yes ?_) | (refine Wk.no ?_) | (refine Wk.and ?_)); (conv => whnf)))
        refine CallA.ro [0] (.c (.int .i64 0)) (hck) (by first | rfl | exact congrArg AV.g (ints_ren _ _) | (simp [ints_ren, AV.ren, ABlk.ren, AC.ren, AE.ren, qq]; done)) rfl (by (repeat (first | exact trivial | refine ⟨⟨(by first | exact .inl (by decide) | exact .inr (by decide)), (by first | rfl | exact congrArg some (ints_ren _ _).symm | exact congrArg ABlk.own (ints_ren _ _).symm | exact congrArg some (tab64_ren _).symm)⟩, ?_⟩))) (by first | rfl | exact congrArg AV.g (ints_ren _ _) | (simp [ints_ren, AV.ren, ABlk.ren, AC.ren, AE.ren, qq]; done)) ?_
        (conv => whnf); (repeat ((first | (refine ⟨rfl, ?_⟩) | (refine ⟨trivial, ?_⟩) | (refine Wk.yes ?_) | (refine Wk.no ?_) | (refine Wk.and ?_)); (conv => whnf)))
        refine CallA.ro [0] (.t [.c (.bool J), .c (.int .i64 0)]) (hjp) (by first | rfl | exact congrArg AV.g (ints_ren _ _) | (simp [ints_ren, AV.ren, ABlk.ren, AC.ren, AE.ren, qq]; done)) rfl (by (repeat (first | exact trivial | refine ⟨⟨(by first | exact .inl (by decide) | exact .inr (by decide)), (by first | rfl | exact congrArg some (ints_ren _ _).symm | exact congrArg ABlk.own (ints_ren _ _).symm | exact congrArg some (tab64_ren _).symm)⟩, ?_⟩))) (by first | rfl | exact congrArg AV.g (ints_ren _ _) | (simp [ints_ren, AV.ren, ABlk.ren, AC.ren, AE.ren, qq]; done)) ?_
        (conv => whnf); (repeat ((first | (refine ⟨rfl, ?_⟩) | (refine ⟨trivial, ?_⟩) | (refine Wk.yes ?_) | (refine Wk.no ?_) | (refine Wk.and ?_)); (conv => whnf)))
        refine CallA.ro [0] (.c (.bool true)) (hpr) (by first | rfl | exact congrArg AV.g (ints_ren _ _) | (simp [ints_ren, AV.ren, ABlk.ren, AC.ren, AE.ren, qq]; done)) rfl (by (repeat (first | exact trivial | refine ⟨⟨(by first | exact .inl (by decide) | exact .inr (by decide)), (by first | rfl | exact congrArg some (ints_ren _ _).symm | exact congrArg ABlk.own (ints_ren _ _).symm | exact congrArg some (tab64_ren _).symm)⟩, ?_⟩))) (by first | rfl | exact congrArg AV.g (ints_ren _ _) | (simp [ints_ren, AV.ren, ABlk.ren, AC.ren, AE.ren, qq]; done)) ?_
        (conv => whnf); (repeat ((first | (refine ⟨rfl, ?_⟩) | (refine ⟨trivial, ?_⟩) | (refine Wk.yes ?_) | (refine Wk.no ?_) | (refine Wk.and ?_)); (conv => whnf)))
        refine CallA.ro [0] (.c (.bool J)) (hjr) (by first | rfl | exact congrArg AV.g (ints_ren _ _) | (simp [ints_ren, AV.ren, ABlk.ren, AC.ren, AE.ren, qq]; done)) rfl (by (repeat (first | exact trivial | refine ⟨⟨(by first | exact .inl (by decide) | exact .inr (by decide)), (by first | rfl | exact congrArg some (ints_ren _ _).symm | exact congrArg ABlk.own (ints_ren _ _).symm | exact congrArg some (tab64_ren _).symm)⟩, ?_⟩))) (by first | rfl | exact congrArg AV.g (ints_ren _ _) | (simp [ints_ren, AV.ren, ABlk.ren, AC.ren, AE.ren, qq]; done)) ?_
        (conv => whnf); (repeat ((first | (refine ⟨rfl, ?_⟩) | (refine ⟨trivial, ?_⟩) | (refine Wk.yes ?_) | (refine Wk.no ?_) | (refine Wk.and ?_)); (conv => whnf)))
        intro _
        (conv => whnf); (repeat ((first | (refine ⟨rfl, ?_⟩) | (refine ⟨trivial, ?_⟩) | (refine Wk.yes ?_) | (refine Wk.no ?_) | (refine Wk.and ?_)); (conv => whnf)))
        refine CallA.ro [0] (.c (.str (bs (posOf p g.ws.length)))) (hpn) (by first | rfl | exact congrArg AV.g (ints_ren _ _) | (simp [ints_ren, AV.ren, ABlk.ren, AC.ren, AE.ren, qq]; done)) rfl (by (repeat (first | exact trivial | refine ⟨⟨(by first | exact .inl (by decide) | exact .inr (by decide)), (by first | rfl | exact congrArg some (ints_ren _ _).symm | exact congrArg ABlk.own (ints_ren _ _).symm | exact congrArg some (tab64_ren _).symm)⟩, ?_⟩))) (by first | rfl | exact congrArg AV.g (ints_ren _ _) | (simp [ints_ren, AV.ren, ABlk.ren, AC.ren, AE.ren, qq]; done)) ?_
        (conv => whnf); (repeat ((first | (refine ⟨rfl, ?_⟩) | (refine ⟨trivial, ?_⟩) | (refine Wk.yes ?_) | (refine Wk.no ?_) | (refine Wk.and ?_)); (conv => whnf)))
        refine Again.mk ((i + 1, posOf p g.ws.length)) (Sub.nil ⟨rfl, rfl, (by simp [tab64_LL, gC, wB, giC, noneB, gst, tC, pC, gN, gR, rC, rB]), rfl, (by simp [tupA, hpLt, tmLt, AV.lt, AE.lt, AC.lt, LL_cons, LL_nil, idOk, ABlk.lt, ints_LL, GB, tab64_LL, gC, wB, giC, noneB, gst, tC, pC, gN, gR, rC, rB]), (by simp [tupA, hpLt, tmLt, AV.lt, AE.lt, AC.lt, LL_cons, LL_nil, idOk, ABlk.lt, ints_LL, GB, tab64_LL, gC, wB, giC, noneB, gst, tC, pC, gN, gR, rC, rB])⟩ (by (repeat (first | exact trivial | refine ⟨trivial, ?_⟩ | refine ⟨rfl, ?_⟩))) (by (repeat (first | exact trivial | refine ⟨trivial, ?_⟩ | refine ⟨rfl, ?_⟩)))) (⟨by omega, by show (posOf p g.ws.length).length ≤ 1000; omega⟩) (by omega)
      | false =>
        rw [hok] at hck hpr
        have hjb := joinedBad_nil hgm hws hs hok
        have hwb := winsBad_nil hgm hws hs hok false
        have hbb := bestBad_nil hgm hws hs hok true
        (conv => whnf); (repeat ((first | (refine ⟨rfl, ?_⟩) | (refine ⟨trivial, ?_⟩) | (refine Wk.yes ?_) | (refine Wk.no ?_) | (refine Wk.and ?_)); (conv => whnf)))
        refine CallA.ro [0] (.c (.int .i64 1)) (hck) (by first | rfl | exact congrArg AV.g (ints_ren _ _) | (simp [ints_ren, AV.ren, ABlk.ren, AC.ren, AE.ren, qq]; done)) rfl (by (repeat (first | exact trivial | refine ⟨⟨(by first | exact .inl (by decide) | exact .inr (by decide)), (by first | rfl | exact congrArg some (ints_ren _ _).symm | exact congrArg ABlk.own (ints_ren _ _).symm | exact congrArg some (tab64_ren _).symm)⟩, ?_⟩))) (by first | rfl | exact congrArg AV.g (ints_ren _ _) | (simp [ints_ren, AV.ren, ABlk.ren, AC.ren, AE.ren, qq]; done)) ?_
        (conv => whnf); (repeat ((first | (refine ⟨rfl, ?_⟩) | (refine ⟨trivial, ?_⟩) | (refine Wk.yes ?_) | (refine Wk.no ?_) | (refine Wk.and ?_)); (conv => whnf)))
        refine CallA.ro [0] (.t [.c (.bool false), .c (.int .i64 1)]) (hjb) (by first | rfl | exact congrArg AV.g (ints_ren _ _) | (simp [ints_ren, AV.ren, ABlk.ren, AC.ren, AE.ren, qq]; done)) rfl (by (repeat (first | exact trivial | refine ⟨⟨(by first | exact .inl (by decide) | exact .inr (by decide)), (by first | rfl | exact congrArg some (ints_ren _ _).symm | exact congrArg ABlk.own (ints_ren _ _).symm | exact congrArg some (tab64_ren _).symm)⟩, ?_⟩))) (by first | rfl | exact congrArg AV.g (ints_ren _ _) | (simp [ints_ren, AV.ren, ABlk.ren, AC.ren, AE.ren, qq]; done)) ?_
        (conv => whnf); (repeat ((first | (refine ⟨rfl, ?_⟩) | (refine ⟨trivial, ?_⟩) | (refine Wk.yes ?_) | (refine Wk.no ?_) | (refine Wk.and ?_)); (conv => whnf)))
        refine CallA.ro [0] (.c (.bool false)) (hpr) (by first | rfl | exact congrArg AV.g (ints_ren _ _) | (simp [ints_ren, AV.ren, ABlk.ren, AC.ren, AE.ren, qq]; done)) rfl (by (repeat (first | exact trivial | refine ⟨⟨(by first | exact .inl (by decide) | exact .inr (by decide)), (by first | rfl | exact congrArg some (ints_ren _ _).symm | exact congrArg ABlk.own (ints_ren _ _).symm | exact congrArg some (tab64_ren _).symm)⟩, ?_⟩))) (by first | rfl | exact congrArg AV.g (ints_ren _ _) | (simp [ints_ren, AV.ren, ABlk.ren, AC.ren, AE.ren, qq]; done)) ?_
        (conv => whnf); (repeat ((first | (refine ⟨rfl, ?_⟩) | (refine ⟨trivial, ?_⟩) | (refine Wk.yes ?_) | (refine Wk.no ?_) | (refine Wk.and ?_)); (conv => whnf)))
        refine CallA.ro [0] (.t [.c (.bool false), .c (.int .i64 1)]) (hwb) (by first | rfl | exact congrArg AV.g (ints_ren _ _) | (simp [ints_ren, AV.ren, ABlk.ren, AC.ren, AE.ren, qq]; done)) rfl (by (repeat (first | exact trivial | refine ⟨⟨(by first | exact .inl (by decide) | exact .inr (by decide)), (by first | rfl | exact congrArg some (ints_ren _ _).symm | exact congrArg ABlk.own (ints_ren _ _).symm | exact congrArg some (tab64_ren _).symm)⟩, ?_⟩))) (by first | rfl | exact congrArg AV.g (ints_ren _ _) | (simp [ints_ren, AV.ren, ABlk.ren, AC.ren, AE.ren, qq]; done)) ?_
        (conv => whnf); (repeat ((first | (refine ⟨rfl, ?_⟩) | (refine ⟨trivial, ?_⟩) | (refine Wk.yes ?_) | (refine Wk.no ?_) | (refine Wk.and ?_)); (conv => whnf)))
        refine CallA.ro [0] (.t [.c (.int .i64 0), .c (.bool false), .c (.int .i64 1)]) (hbb) (by first | rfl | exact congrArg AV.g (ints_ren _ _) | (simp [ints_ren, AV.ren, ABlk.ren, AC.ren, AE.ren, qq]; done)) rfl (by (repeat (first | exact trivial | refine ⟨⟨(by first | exact .inl (by decide) | exact .inr (by decide)), (by first | rfl | exact congrArg some (ints_ren _ _).symm | exact congrArg ABlk.own (ints_ren _ _).symm | exact congrArg some (tab64_ren _).symm)⟩, ?_⟩))) (by first | rfl | exact congrArg AV.g (ints_ren _ _) | (simp [ints_ren, AV.ren, ABlk.ren, AC.ren, AE.ren, qq]; done)) ?_
        (conv => whnf); (repeat ((first | (refine ⟨rfl, ?_⟩) | (refine ⟨trivial, ?_⟩) | (refine Wk.yes ?_) | (refine Wk.no ?_) | (refine Wk.and ?_)); (conv => whnf)))
        refine CallA.ro [0] (.c (.str (bs (posOf p g.ws.length)))) (hpn) (by first | rfl | exact congrArg AV.g (ints_ren _ _) | (simp [ints_ren, AV.ren, ABlk.ren, AC.ren, AE.ren, qq]; done)) rfl (by (repeat (first | exact trivial | refine ⟨⟨(by first | exact .inl (by decide) | exact .inr (by decide)), (by first | rfl | exact congrArg some (ints_ren _ _).symm | exact congrArg ABlk.own (ints_ren _ _).symm | exact congrArg some (tab64_ren _).symm)⟩, ?_⟩))) (by first | rfl | exact congrArg AV.g (ints_ren _ _) | (simp [ints_ren, AV.ren, ABlk.ren, AC.ren, AE.ren, qq]; done)) ?_
        (conv => whnf); (repeat ((first | (refine ⟨rfl, ?_⟩) | (refine ⟨trivial, ?_⟩) | (refine Wk.yes ?_) | (refine Wk.no ?_) | (refine Wk.and ?_)); (conv => whnf)))
        refine Again.mk ((i + 1, posOf p g.ws.length)) (Sub.nil ⟨rfl, rfl, (by simp [tab64_LL, gC, wB, giC, noneB, gst, tC, pC, gN, gR, rC, rB]), rfl, (by simp [tupA, hpLt, tmLt, AV.lt, AE.lt, AC.lt, LL_cons, LL_nil, idOk, ABlk.lt, ints_LL, GB, tab64_LL, gC, wB, giC, noneB, gst, tC, pC, gN, gR, rC, rB]), (by simp [tupA, hpLt, tmLt, AV.lt, AE.lt, AC.lt, LL_cons, LL_nil, idOk, ABlk.lt, ints_LL, GB, tab64_LL, gC, wB, giC, noneB, gst, tC, pC, gN, gR, rC, rB])⟩ (by (repeat (first | exact trivial | refine ⟨trivial, ?_⟩ | refine ⟨rfl, ?_⟩))) (by (repeat (first | exact trivial | refine ⟨trivial, ?_⟩ | refine ⟨rfl, ?_⟩)))) (⟨by omega, by show (posOf p g.ws.length).length ≤ 1000; omega⟩) (by omega)
    · (conv => whnf); (repeat ((first | (refine ⟨rfl, ?_⟩) | (refine ⟨trivial, ?_⟩) | (refine Wk.yes ?_) | (refine Wk.no ?_) | (refine Wk.and ?_)); (conv => whnf)))
      refine CallA.ro [] (.c (.bool true)) (awake_spec) (by first | rfl | exact congrArg AV.g (ints_ren _ _) | (simp [ints_ren, AV.ren, ABlk.ren, AC.ren, AE.ren, qq]; done)) rfl (by (repeat (first | exact trivial | refine ⟨⟨(by first | exact .inl (by decide) | exact .inr (by decide)), (by first | rfl | exact congrArg some (ints_ren _ _).symm | exact congrArg ABlk.own (ints_ren _ _).symm | exact congrArg some (tab64_ren _).symm)⟩, ?_⟩))) (by first | rfl | exact congrArg AV.g (ints_ren _ _) | (simp [ints_ren, AV.ren, ABlk.ren, AC.ren, AE.ren, qq]; done)) ?_
      (conv => whnf); (repeat ((first | (refine ⟨rfl, ?_⟩) | (refine ⟨trivial, ?_⟩) | (refine Wk.yes ?_) | (refine Wk.no ?_) | (refine Wk.and ?_)); (conv => whnf)))
      exact AH.Fin.nil [] ⟨rfl, rfl, rfl⟩ (by first | exact trivial | (simp [tupA, hpLt, tmLt, AV.lt, AE.lt, AC.lt, LL_cons, LL_nil, idOk, ABlk.lt, ints_LL, GB, tab64_LL, gC, wB, giC, noneB, gst, tC, pC, gN, gR, rC, rB]; done) | (simp [tupA, hpLt, tmLt, AV.lt, AE.lt, AC.lt, LL_cons, LL_nil, idOk, ABlk.lt, ints_LL, GB, tab64_LL, gC, wB, giC, noneB, gst, tC, pC, gN, gR, rC, rB, rdn, wrn]; done)) trivial trivial rfl (by simp [GB])
theorem positions_row (x : Rw) (p : List UInt8) (h4 : x.ws.length ≤ 9223372036854775807) (hws : ¬ (tame x 8 10).ws = []) : FDet Tryd.prog 12 [.g (rC x 0), .c (.str (bs p))] [(0, rB x), (100002, .ro tab64), (100000, noneB)] 1 (.c (.bool true)) [] 1 := by
  have hgm := tame_game x (pl := 8) (most := 10) (by omega) (by omega) (by omega)
  have hgl := hgm.ok.len
  have hpos := List.length_pos_iff.2 hws
  have ht := tame_rs (x := x) (pl := 8) (most := 10) (by omega) (by omega) (by omega) h4 hpos
  generalize tame x 8 10 = g at *
  have hgv := given_rs hpos hgl
  have hs0 : (p.take 11).length ≤ 11 := by rw [List.length_take]; omega
  have hpo := posOf_len p g.ws.length
  refine FSpec.of_body tok true Tryd.func12 rfl (by kernel_rfl) (by decide) (by simp [tupA, hpLt, tmLt, AV.lt, AE.lt, AC.lt, LL_cons, LL_nil, idOk, ABlk.lt, ints_LL, GB, tab64_LL, gC, wB, giC, noneB, gst, tC, pC, gN, gR, rC, rB]) (by simp [tupA, hpLt, tmLt, AV.lt, AE.lt, AC.lt, LL_cons, LL_nil, idOk, ABlk.lt, ints_LL, GB, tab64_LL, gC, wB, giC, noneB, gst, tC, pC, gN, gR, rC, rB]) (by show 2 ≤ _; decide) ?_
  (conv => whnf); (repeat ((first | (refine ⟨rfl, ?_⟩) | (refine ⟨trivial, ?_⟩) | (refine Wk.yes ?_) | (refine Wk.no ?_) | (refine Wk.and ?_)); (conv => whnf)))
  refine CallA.det [0] (.g (gC g 2)) ([(1, .own (rC x 0)), (0, rB x), (100002, .ro tab64), (100000, noneB), (2, .row 60 2 (ints (fl g.ws)))]) (ht) (by first | rfl | exact congrArg AV.g (ints_ren _ _) | (simp [ints_ren, AV.ren, ABlk.ren, AC.ren, AE.ren, qq]; done)) rfl (by (repeat (first | exact trivial | refine ⟨⟨(by first | exact .inl (by decide) | exact .inr (by decide)), (by first | rfl | exact congrArg some (ints_ren _ _).symm | exact congrArg ABlk.own (ints_ren _ _).symm | exact congrArg some (tab64_ren _).symm)⟩, ?_⟩))) (by first | rfl | exact congrArg AV.g (ints_ren _ _) | (simp [ints_ren, AV.ren, ABlk.ren, AC.ren, AE.ren, qq]; done)) (by first | rfl | (simp [behind, gone, lk, up, del, qq, ABlk.wr, GB, ints_ren, AV.ren, ABlk.ren, AC.ren, AE.ren]; done) | (simp [behind, gone, lk, up, del, qq, ABlk.wr, GB, ints_ren, AV.ren, ABlk.ren, AC.ren, AE.ren]; rfl)) ?_
  (conv => whnf); (repeat ((first | (refine ⟨rfl, ?_⟩) | (refine ⟨trivial, ?_⟩) | (refine Wk.yes ?_) | (refine Wk.no ?_) | (refine Wk.and ?_)); (conv => whnf)))
  refine CallA.det [2] (.g (gC g 4)) ([(3, .own (gC g 2)), (1, .own (rC x 0)), (0, rB x), (100002, .ro tab64), (100000, noneB), (2, .row 60 2 (ints (fl g.ws))), (4, .row 60 2 (ints (fl g.ws)))]) (hgv) (by first | rfl | exact congrArg AV.g (ints_ren _ _) | (simp [ints_ren, AV.ren, ABlk.ren, AC.ren, AE.ren, qq]; done)) rfl (by (repeat (first | exact trivial | refine ⟨⟨(by first | exact .inl (by decide) | exact .inr (by decide)), (by first | rfl | exact congrArg some (ints_ren _ _).symm | exact congrArg ABlk.own (ints_ren _ _).symm | exact congrArg some (tab64_ren _).symm)⟩, ?_⟩))) (by first | rfl | exact congrArg AV.g (ints_ren _ _) | (simp [ints_ren, AV.ren, ABlk.ren, AC.ren, AE.ren, qq]; done)) (by first | rfl | (simp [behind, gone, lk, up, del, qq, ABlk.wr, GB, ints_ren, AV.ren, ABlk.ren, AC.ren, AE.ren]; done) | (simp [behind, gone, lk, up, del, qq, ABlk.wr, GB, ints_ren, AV.ren, ABlk.ren, AC.ren, AE.ren]; rfl)) ?_
  (conv => whnf); (repeat ((first | (refine ⟨rfl, ?_⟩) | (refine ⟨trivial, ?_⟩) | (refine Wk.yes ?_) | (refine Wk.no ?_) | (refine Wk.and ?_)); (conv => whnf)))
  refine ⟨⟨Int.le_refl 0, by show (0 : Int) ≤ min ((bs p).size : Int) 11; omega, by show min ((bs p).size : Int) 11 ≤ ((bs p).size : Int); omega⟩, ?_⟩
  rw [cut11]
  (conv => whnf); (repeat ((first | (refine ⟨rfl, ?_⟩) | (refine ⟨trivial, ?_⟩) | (refine Wk.yes ?_) | (refine Wk.no ?_) | (refine Wk.and ?_)); (conv => whnf)))
  refine Tr.loop (md := true) (X := Nat × List UInt8) (st := fun q => ⟨[(1, .c (.str (bs p))), (5, .c (.ptr 3 0)), (6, .c (.ptr 5 0)), (7, .c (.str (bs q.2))), (8, .c (.int .i64 q.1))], [(5, .own (gC g 4)), (3, .own (gC g 2)), (1, .own (rC x 0)), (0, rB x), (100002, .ro tab64), (100000, noneB), (2, .row 60 2 (ints (fl g.ws))), (4, .row 60 2 (ints (fl g.ws)))], 6, 90, 1⟩) (inv := fun q => q.1 ≤ 2 ∧ q.2.length ≤ 1000) (μ := fun q => 2 - q.1) (x0 := (0, p.take 11)) (l := []) tok ⟨by omega, by show (p.take 11).length ≤ 1000; omega⟩ ?_ ?_
  · exact Sub.nil ⟨rfl, rfl, (by simp [tab64_LL, gC, wB, giC, noneB, gst, tC, pC, gN, gR, rC, rB]), rfl, (by simp [tupA, hpLt, tmLt, AV.lt, AE.lt, AC.lt, LL_cons, LL_nil, idOk, ABlk.lt, ints_LL, GB, tab64_LL, gC, wB, giC, noneB, gst, tC, pC, gN, gR, rC, rB]), (by simp [tupA, hpLt, tmLt, AV.lt, AE.lt, AC.lt, LL_cons, LL_nil, idOk, ABlk.lt, ints_LL, GB, tab64_LL, gC, wB, giC, noneB, gst, tC, pC, gN, gR, rC, rB])⟩ (by (repeat (first | exact trivial | refine ⟨trivial, ?_⟩ | refine ⟨rfl, ?_⟩))) (by (repeat (first | exact trivial | refine ⟨trivial, ?_⟩ | refine ⟨rfl, ?_⟩)))
  · rintro ⟨i, s⟩ ⟨hi, hs⟩
    dsimp only at hi hs
    dsimp only
    (conv => whnf); (repeat ((first | (refine ⟨rfl, ?_⟩) | (refine ⟨trivial, ?_⟩) | (refine Wk.yes ?_) | (refine Wk.no ?_) | (refine Wk.and ?_)); (conv => whnf)))
    refine ⟨fun hc => ?_, fun hc => ?_⟩ <;> (try simp only [decide_eq_true_eq, decide_eq_false_iff_not, Decidable.not_not, Bool.not_true, Bool.not_false, ne_eq, cond_true, cond_false, Bool.not_eq_true', Bool.not_eq_false'] at hc)
    · have hck := checkPos_spec hgm s hs
      have hpr := positionR_spec hgm.ok s hs
      have hpn := position_spec hgm.ok p
      cases hok : okPos g.ws.length s with
      | true =>
        rw [hok] at hck hpr
        obtain ⟨f, k, hf, hk, hd, rfl⟩ : ∃ f k, f < 2 ^ g.ws.length ∧ k < 2 ^ g.ws.length ∧ (∀ i, f.testBit i = true → k.testBit i = false) ∧ s = posL g.ws.length f k := ⟨_, _, fB_lt _ _, kB_lt _ _, fkB_dis _ _, pos_of_ok hok⟩
        have hjp := joinedP_spec hgm hf hk hd
        have hjr := joinedR_spec hgm.ok hk hd
        generalize joinedB g k = J at *
        (conv => whnf); (repeat ((first | (refine ⟨rfl, ?_⟩) | (refine ⟨trivial, ?_⟩) | (refine Wk.yes ?_) | (refine Wk.no ?_) | (refine Wk.and ?_)); (conv => whnf)))
        refine CallA.ro [4] (.c (.int .i64 0)) (hck) (by first | rfl | exact congrArg AV.g (ints_ren _ _) | (simp [ints_ren, AV.ren, ABlk.ren, AC.ren, AE.ren, qq]; done)) rfl (by (repeat (first | exact trivial | refine ⟨⟨(by first | exact .inl (by decide) | exact .inr (by decide)), (by first | rfl | exact congrArg some (ints_ren _ _).symm | exact congrArg ABlk.own (ints_ren _ _).symm | exact congrArg some (tab64_ren _).symm)⟩, ?_⟩))) (by first | rfl | exact congrArg AV.g (ints_ren _ _) | (simp [ints_ren, AV.ren, ABlk.ren, AC.ren, AE.ren, qq]; done)) ?_
        (conv => whnf); (repeat ((first | (refine ⟨rfl, ?_⟩) | (refine ⟨trivial, ?_⟩) | (refine Wk.yes ?_) | (refine Wk.no ?_) | (refine Wk.and ?_)); (conv => whnf)))
        refine CallA.ro [4] (.t [.c (.bool J), .c (.int .i64 0)]) (hjp) (by first | rfl | exact congrArg AV.g (ints_ren _ _) | (simp [ints_ren, AV.ren, ABlk.ren, AC.ren, AE.ren, qq]; done)) rfl (by (repeat (first | exact trivial | refine ⟨⟨(by first | exact .inl (by decide) | exact .inr (by decide)), (by first | rfl | exact congrArg some (ints_ren _ _).symm | exact congrArg ABlk.own (ints_ren _ _).symm | exact congrArg some (tab64_ren _).symm)⟩, ?_⟩))) (by first | rfl | exact congrArg AV.g (ints_ren _ _) | (simp [ints_ren, AV.ren, ABlk.ren, AC.ren, AE.ren, qq]; done)) ?_
        (conv => whnf); (repeat ((first | (refine ⟨rfl, ?_⟩) | (refine ⟨trivial, ?_⟩) | (refine Wk.yes ?_) | (refine Wk.no ?_) | (refine Wk.and ?_)); (conv => whnf)))
        refine CallA.ro [2] (.c (.bool true)) (hpr) (by first | rfl | exact congrArg AV.g (ints_ren _ _) | (simp [ints_ren, AV.ren, ABlk.ren, AC.ren, AE.ren, qq]; done)) rfl (by (repeat (first | exact trivial | refine ⟨⟨(by first | exact .inl (by decide) | exact .inr (by decide)), (by first | rfl | exact congrArg some (ints_ren _ _).symm | exact congrArg ABlk.own (ints_ren _ _).symm | exact congrArg some (tab64_ren _).symm)⟩, ?_⟩))) (by first | rfl | exact congrArg AV.g (ints_ren _ _) | (simp [ints_ren, AV.ren, ABlk.ren, AC.ren, AE.ren, qq]; done)) ?_
        (conv => whnf); (repeat ((first | (refine ⟨rfl, ?_⟩) | (refine ⟨trivial, ?_⟩) | (refine Wk.yes ?_) | (refine Wk.no ?_) | (refine Wk.and ?_)); (conv => whnf)))
        refine CallA.ro [2] (.c (.bool J)) (hjr) (by first | rfl | exact congrArg AV.g (ints_ren _ _) | (simp [ints_ren, AV.ren, ABlk.ren, AC.ren, AE.ren, qq]; done)) rfl (by (repeat (first | exact trivial | refine ⟨⟨(by first | exact .inl (by decide) | exact .inr (by decide)), (by first | rfl | exact congrArg some (ints_ren _ _).symm | exact congrArg ABlk.own (ints_ren _ _).symm | exact congrArg some (tab64_ren _).symm)⟩, ?_⟩))) (by first | rfl | exact congrArg AV.g (ints_ren _ _) | (simp [ints_ren, AV.ren, ABlk.ren, AC.ren, AE.ren, qq]; done)) ?_
        (conv => whnf); (repeat ((first | (refine ⟨rfl, ?_⟩) | (refine ⟨trivial, ?_⟩) | (refine Wk.yes ?_) | (refine Wk.no ?_) | (refine Wk.and ?_)); (conv => whnf)))
        intro _
        (conv => whnf); (repeat ((first | (refine ⟨rfl, ?_⟩) | (refine ⟨trivial, ?_⟩) | (refine Wk.yes ?_) | (refine Wk.no ?_) | (refine Wk.and ?_)); (conv => whnf)))
        refine CallA.ro [2] (.c (.str (bs (posOf p g.ws.length)))) (hpn) (by first | rfl | exact congrArg AV.g (ints_ren _ _) | (simp [ints_ren, AV.ren, ABlk.ren, AC.ren, AE.ren, qq]; done)) rfl (by (repeat (first | exact trivial | refine ⟨⟨(by first | exact .inl (by decide) | exact .inr (by decide)), (by first | rfl | exact congrArg some (ints_ren _ _).symm | exact congrArg ABlk.own (ints_ren _ _).symm | exact congrArg some (tab64_ren _).symm)⟩, ?_⟩))) (by first | rfl | exact congrArg AV.g (ints_ren _ _) | (simp [ints_ren, AV.ren, ABlk.ren, AC.ren, AE.ren, qq]; done)) ?_
        (conv => whnf); (repeat ((first | (refine ⟨rfl, ?_⟩) | (refine ⟨trivial, ?_⟩) | (refine Wk.yes ?_) | (refine Wk.no ?_) | (refine Wk.and ?_)); (conv => whnf)))
        refine Again.mk ((i + 1, posOf p g.ws.length)) (Sub.nil ⟨rfl, rfl, (by simp [tab64_LL, gC, wB, giC, noneB, gst, tC, pC, gN, gR, rC, rB]), rfl, (by simp [tupA, hpLt, tmLt, AV.lt, AE.lt, AC.lt, LL_cons, LL_nil, idOk, ABlk.lt, ints_LL, GB, tab64_LL, gC, wB, giC, noneB, gst, tC, pC, gN, gR, rC, rB]), (by simp [tupA, hpLt, tmLt, AV.lt, AE.lt, AC.lt, LL_cons, LL_nil, idOk, ABlk.lt, ints_LL, GB, tab64_LL, gC, wB, giC, noneB, gst, tC, pC, gN, gR, rC, rB])⟩ (by (repeat (first | exact trivial | refine ⟨trivial, ?_⟩ | refine ⟨rfl, ?_⟩))) (by (repeat (first | exact trivial | refine ⟨trivial, ?_⟩ | refine ⟨rfl, ?_⟩)))) (⟨by omega, by show (posOf p g.ws.length).length ≤ 1000; omega⟩) (by omega)
      | false =>
        rw [hok] at hck hpr
        have hjb := joinedBad_spec hgm hs hok
        have hwb := winsBad_spec hgm hs hok false
        have hbb := bestBad_spec hgm hs hok true
        (conv => whnf); (repeat ((first | (refine ⟨rfl, ?_⟩) | (refine ⟨trivial, ?_⟩) | (refine Wk.yes ?_) | (refine Wk.no ?_) | (refine Wk.and ?_)); (conv => whnf)))
        refine CallA.ro [4] (.c (.int .i64 1)) (hck) (by first | rfl | exact congrArg AV.g (ints_ren _ _) | (simp [ints_ren, AV.ren, ABlk.ren, AC.ren, AE.ren, qq]; done)) rfl (by (repeat (first | exact trivial | refine ⟨⟨(by first | exact .inl (by decide) | exact .inr (by decide)), (by first | rfl | exact congrArg some (ints_ren _ _).symm | exact congrArg ABlk.own (ints_ren _ _).symm | exact congrArg some (tab64_ren _).symm)⟩, ?_⟩))) (by first | rfl | exact congrArg AV.g (ints_ren _ _) | (simp [ints_ren, AV.ren, ABlk.ren, AC.ren, AE.ren, qq]; done)) ?_
        (conv => whnf); (repeat ((first | (refine ⟨rfl, ?_⟩) | (refine ⟨trivial, ?_⟩) | (refine Wk.yes ?_) | (refine Wk.no ?_) | (refine Wk.and ?_)); (conv => whnf)))
        refine CallA.ro [4] (.t [.c (.bool false), .c (.int .i64 1)]) (hjb) (by first | rfl | exact congrArg AV.g (ints_ren _ _) | (simp [ints_ren, AV.ren, ABlk.ren, AC.ren, AE.ren, qq]; done)) rfl (by (repeat (first | exact trivial | refine ⟨⟨(by first | exact .inl (by decide) | exact .inr (by decide)), (by first | rfl | exact congrArg some (ints_ren _ _).symm | exact congrArg ABlk.own (ints_ren _ _).symm | exact congrArg some (tab64_ren _).symm)⟩, ?_⟩))) (by first | rfl | exact congrArg AV.g (ints_ren _ _) | (simp [ints_ren, AV.ren, ABlk.ren, AC.ren, AE.ren, qq]; done)) ?_
        (conv => whnf); (repeat ((first | (refine ⟨rfl, ?_⟩) | (refine ⟨trivial, ?_⟩) | (refine Wk.yes ?_) | (refine Wk.no ?_) | (refine Wk.and ?_)); (conv => whnf)))
        refine CallA.ro [2] (.c (.bool false)) (hpr) (by first | rfl | exact congrArg AV.g (ints_ren _ _) | (simp [ints_ren, AV.ren, ABlk.ren, AC.ren, AE.ren, qq]; done)) rfl (by (repeat (first | exact trivial | refine ⟨⟨(by first | exact .inl (by decide) | exact .inr (by decide)), (by first | rfl | exact congrArg some (ints_ren _ _).symm | exact congrArg ABlk.own (ints_ren _ _).symm | exact congrArg some (tab64_ren _).symm)⟩, ?_⟩))) (by first | rfl | exact congrArg AV.g (ints_ren _ _) | (simp [ints_ren, AV.ren, ABlk.ren, AC.ren, AE.ren, qq]; done)) ?_
        (conv => whnf); (repeat ((first | (refine ⟨rfl, ?_⟩) | (refine ⟨trivial, ?_⟩) | (refine Wk.yes ?_) | (refine Wk.no ?_) | (refine Wk.and ?_)); (conv => whnf)))
        refine CallA.ro [4] (.t [.c (.bool false), .c (.int .i64 1)]) (hwb) (by first | rfl | exact congrArg AV.g (ints_ren _ _) | (simp [ints_ren, AV.ren, ABlk.ren, AC.ren, AE.ren, qq]; done)) rfl (by (repeat (first | exact trivial | refine ⟨⟨(by first | exact .inl (by decide) | exact .inr (by decide)), (by first | rfl | exact congrArg some (ints_ren _ _).symm | exact congrArg ABlk.own (ints_ren _ _).symm | exact congrArg some (tab64_ren _).symm)⟩, ?_⟩))) (by first | rfl | exact congrArg AV.g (ints_ren _ _) | (simp [ints_ren, AV.ren, ABlk.ren, AC.ren, AE.ren, qq]; done)) ?_
        (conv => whnf); (repeat ((first | (refine ⟨rfl, ?_⟩) | (refine ⟨trivial, ?_⟩) | (refine Wk.yes ?_) | (refine Wk.no ?_) | (refine Wk.and ?_)); (conv => whnf)))
        refine CallA.ro [4] (.t [.c (.int .i64 0), .c (.bool false), .c (.int .i64 1)]) (hbb) (by first | rfl | exact congrArg AV.g (ints_ren _ _) | (simp [ints_ren, AV.ren, ABlk.ren, AC.ren, AE.ren, qq]; done)) rfl (by (repeat (first | exact trivial | refine ⟨⟨(by first | exact .inl (by decide) | exact .inr (by decide)), (by first | rfl | exact congrArg some (ints_ren _ _).symm | exact congrArg ABlk.own (ints_ren _ _).symm | exact congrArg some (tab64_ren _).symm)⟩, ?_⟩))) (by first | rfl | exact congrArg AV.g (ints_ren _ _) | (simp [ints_ren, AV.ren, ABlk.ren, AC.ren, AE.ren, qq]; done)) ?_
        (conv => whnf); (repeat ((first | (refine ⟨rfl, ?_⟩) | (refine ⟨trivial, ?_⟩) | (refine Wk.yes ?_) | (refine Wk.no ?_) | (refine Wk.and ?_)); (conv => whnf)))
        refine CallA.ro [2] (.c (.str (bs (posOf p g.ws.length)))) (hpn) (by first | rfl | exact congrArg AV.g (ints_ren _ _) | (simp [ints_ren, AV.ren, ABlk.ren, AC.ren, AE.ren, qq]; done)) rfl (by (repeat (first | exact trivial | refine ⟨⟨(by first | exact .inl (by decide) | exact .inr (by decide)), (by first | rfl | exact congrArg some (ints_ren _ _).symm | exact congrArg ABlk.own (ints_ren _ _).symm | exact congrArg some (tab64_ren _).symm)⟩, ?_⟩))) (by first | rfl | exact congrArg AV.g (ints_ren _ _) | (simp [ints_ren, AV.ren, ABlk.ren, AC.ren, AE.ren, qq]; done)) ?_
        (conv => whnf); (repeat ((first | (refine ⟨rfl, ?_⟩) | (refine ⟨trivial, ?_⟩) | (refine Wk.yes ?_) | (refine Wk.no ?_) | (refine Wk.and ?_)); (conv => whnf)))
        refine Again.mk ((i + 1, posOf p g.ws.length)) (Sub.nil ⟨rfl, rfl, (by simp [tab64_LL, gC, wB, giC, noneB, gst, tC, pC, gN, gR, rC, rB]), rfl, (by simp [tupA, hpLt, tmLt, AV.lt, AE.lt, AC.lt, LL_cons, LL_nil, idOk, ABlk.lt, ints_LL, GB, tab64_LL, gC, wB, giC, noneB, gst, tC, pC, gN, gR, rC, rB]), (by simp [tupA, hpLt, tmLt, AV.lt, AE.lt, AC.lt, LL_cons, LL_nil, idOk, ABlk.lt, ints_LL, GB, tab64_LL, gC, wB, giC, noneB, gst, tC, pC, gN, gR, rC, rB])⟩ (by (repeat (first | exact trivial | refine ⟨trivial, ?_⟩ | refine ⟨rfl, ?_⟩))) (by (repeat (first | exact trivial | refine ⟨trivial, ?_⟩ | refine ⟨rfl, ?_⟩)))) (⟨by omega, by show (posOf p g.ws.length).length ≤ 1000; omega⟩) (by omega)
    · (conv => whnf); (repeat ((first | (refine ⟨rfl, ?_⟩) | (refine ⟨trivial, ?_⟩) | (refine Wk.yes ?_) | (refine Wk.no ?_) | (refine Wk.and ?_)); (conv => whnf)))
      refine CallA.ro [] (.c (.bool true)) (awake_spec) (by first | rfl | exact congrArg AV.g (ints_ren _ _) | (simp [ints_ren, AV.ren, ABlk.ren, AC.ren, AE.ren, qq]; done)) rfl (by (repeat (first | exact trivial | refine ⟨⟨(by first | exact .inl (by decide) | exact .inr (by decide)), (by first | rfl | exact congrArg some (ints_ren _ _).symm | exact congrArg ABlk.own (ints_ren _ _).symm | exact congrArg some (tab64_ren _).symm)⟩, ?_⟩))) (by first | rfl | exact congrArg AV.g (ints_ren _ _) | (simp [ints_ren, AV.ren, ABlk.ren, AC.ren, AE.ren, qq]; done)) ?_
      (conv => whnf); (repeat ((first | (refine ⟨rfl, ?_⟩) | (refine ⟨trivial, ?_⟩) | (refine Wk.yes ?_) | (refine Wk.no ?_) | (refine Wk.and ?_)); (conv => whnf)))
      exact AH.Fin.nil [] ⟨rfl, rfl, rfl⟩ (by first | exact trivial | (simp [tupA, hpLt, tmLt, AV.lt, AE.lt, AC.lt, LL_cons, LL_nil, idOk, ABlk.lt, ints_LL, GB, tab64_LL, gC, wB, giC, noneB, gst, tC, pC, gN, gR, rC, rB]; done) | (simp [tupA, hpLt, tmLt, AV.lt, AE.lt, AC.lt, LL_cons, LL_nil, idOk, ABlk.lt, ints_LL, GB, tab64_LL, gC, wB, giC, noneB, gst, tC, pC, gN, gR, rC, rB, rdn, wrn]; done)) trivial trivial rfl (by simp [GB])
end Go.Proofs.YtfphkpdobbffeaaDoor

/-
  Contracts: who wins by the reference, with what is known as a law.
-/
namespace Go.Proofs.YtfphkpdobbffeaaDoor
open Go Go.AH
set_option maxRecDepth 100000
set_option maxHeartbeats 1000000

/-- Cells of what is known. -/
def KIc (g : Gm) (cs : List AC) : Prop := ∃ L, KI g L ∧ cs = ints L
theorem ints_prim (L : List Int) : ∀ x ∈ ints L, x.prim = true := fun x hx => by
  obtain ⟨n, _, rfl⟩ := List.mem_map.1 hx; rfl
theorem known_li {g : Gm} (hg : g.ok) : FDet Tryd.prog 42 [.g (gC g 0)] [(0, wB g)] 1 (.c (.sl 1 0 (NK g) (some (NK g)))) [(1, .li (KIc g))] 2 :=
  FDet.post (known_spec hg) _ _ rfl ⟨⟨⟨_, KI.zero g, rfl⟩, ints_prim _⟩, trivial⟩ (.inl (by decide)) ⟨.inl (by decide), trivial, trivial⟩ rfl
theorem winsR_li {g : Gm} (hg : g.ok) {f k : Nat} (hf : f < 2 ^ g.ws.length) (hk : k < 2 ^ g.ws.length) (hd : ∀ i, f.testBit i = true → k.testBit i = false) (c : Bool) :
    FDet Tryd.prog 44 [.g (gC g 0), .c (.str (posB g.ws.length f k)), .c (.bool c), .c (.sl 1 0 (NK g) (some (NK g)))] [(0, wB g), (1, .li (KIc g))] 2 (.c (.bool (W g f k c))) [(1, .li (KIc g))] 2 := by
  refine FSpec.li 1 rfl (Go.Proofs.enters_of Tryd.func44 (by kernel_rfl) rfl) fun cs hI _ => ?_
  obtain ⟨L, hL, rfl⟩ := hI
  show FSpec _ _ _ [(0, wB g), (1, .own (ints L))] _ _
  refine FSpec.post (wins_all hg f hf k c L hk hd hL) ?_
  rintro r hq k' ⟨L', hL', rfl, rfl, rfl⟩
  exact ⟨_, _, ⟨rfl, rfl, rfl⟩, rfl, ⟨⟨⟨L', hL', rfl⟩, ints_prim _⟩, trivial⟩, trivial, ⟨.inl (by decide), trivial, trivial⟩, by simp⟩
theorem known_nil {g : Gm} (hg : g.ok) (h : g.ws = []) : FDet Tryd.prog 42 [.g (gN g)] [(100002, .ro tab64)] 1 (.c (.sl 1 0 (NK g) (some (NK g)))) [(1, .li (KIc g))] 2 := by
  have h1 := known_li hg
  rw [show wB g = .ro [] by rw [wB, h]; rfl] at h1
  have h2 := FDet.wk h1 (args' := [.g (gC g 0)]) (hp' := [(0, .ro []), (100002, .ro tab64)]) ⟨.inl rfl, trivial⟩ ⟨.inl rfl, trivial⟩
  refine FDet.nil0b h2 _ 100002 tab64 rfl ⟨.inr ⟨rfl, rfl, rfl, by show g.ws.length = 0; rw [h]; rfl, trivial⟩, trivial⟩ (gN_all g _) ?_ (by show (1 : Nat) ≠ 0; decide) ?_
  · intro p hp; simp at hp; subst hp; exact ⟨by decide, tab_all _⟩
  · intro p hp; simp at hp; subst hp; exact ⟨by show (1 : Nat) ≠ 0; decide, trivial⟩
theorem winsR_nil {g : Gm} (hg : g.ok) (h : g.ws = []) {f k : Nat} (hf : f < 2 ^ g.ws.length) (hk : k < 2 ^ g.ws.length) (hd : ∀ i, f.testBit i = true → k.testBit i = false) (c : Bool) :
    FDet Tryd.prog 44 [.g (gN g), .c (.str (posB g.ws.length f k)), .c (.bool c), .c (.sl 1 0 (NK g) (some (NK g)))] [(1, .li (KIc g)), (100002, .ro tab64)] 2 (.c (.bool (W g f k c))) [(1, .li (KIc g))] 2 := by
  have h1 := winsR_li hg hf hk hd c
  rw [show wB g = .ro [] by rw [wB, h]; rfl] at h1
  have h2 := FDet.wk h1 (args' := [.g (gC g 0), .c (.str (posB g.ws.length f k)), .c (.bool c), .c (.sl 1 0 (NK g) (some (NK g)))]) (hp' := [(0, .ro []), (1, .li (KIc g)), (100002, .ro tab64)]) ⟨.inl rfl, rfl, rfl, rfl, trivial⟩ ⟨.inl rfl, rfl, trivial⟩
  refine FDet.nil0b h2 _ 100002 tab64 rfl ⟨.inr ⟨rfl, rfl, rfl, by show g.ws.length = 0; rw [h]; rfl, trivial⟩, rfl, rfl, rfl, trivial⟩ ?_ ?_ trivial ?_
  · intro v hv
    simp at hv
    rcases hv with rfl | rfl | rfl | rfl
    · exact gN_all g _ _ (by simp)
    · trivial
    · trivial
    · show (1 : Nat) ≠ 0; decide
  · intro p hp
    simp at hp
    rcases hp with rfl | rfl
    · exact ⟨by show (1 : Nat) ≠ 0; decide, trivial⟩
    · exact ⟨by decide, tab_all _⟩
  · intro p hp; simp at hp; subst hp; exact ⟨by show (1 : Nat) ≠ 0; decide, trivial⟩
/-- Who wins, and whether there is a good wire. -/
theorem W_any {g : Gm} (hg : g.ok) {f k : Nat} (c : Bool) (hf : f < 2 ^ g.ws.length) (hk : k < 2 ^ g.ws.length) (h0 : f ≠ 0) : W g f k c = ((goodO g f k c).isSome != c) := by
  rw [goodO_some]; exact W_play hg c hf hk h0
theorem goodO_mem {g : Gm} {f k : Nat} {c : Bool} {w : Int} (h : goodO g f k c = some w) : w ∈ mem f ∧ goodW g f k c w = true :=
  ⟨List.mem_of_find?_eq_some h, List.find?_some h⟩
theorem goodO_zero {g : Gm} {k : Nat} {c : Bool} : goodO g 0 k c = none := by
  rw [goodO, show mem 0 = [] from by decide]; rfl
/-- A free wire, and what becomes of a position. -/
theorem wire_facts {g : Gm} (hg : g.ok) {f k : Nat} (hf : f < 2 ^ g.ws.length) (hk : k < 2 ^ g.ws.length) (hd : ∀ i, f.testBit i = true → k.testBit i = false) {v : Int} (hv : v ∈ mem f) :
    ∃ w : Nat, v = (w : Int) ∧ w < g.ws.length ∧ f.testBit w = true ∧ k.testBit w = false ∧ offN f w < f ∧ pop (offN f w) = pop f - 1 ∧ k ||| 2 ^ w < 2 ^ g.ws.length ∧
      (∀ j, (offN f w).testBit j = true → k.testBit j = false) ∧ ∀ j, (offN f w).testBit j = true → (k ||| 2 ^ w).testBit j = false := by
  have hl := hg.len
  have hp : 2 ^ g.ws.length ≤ 1024 := Nat.pow_le_pow_right (by omega) hl
  obtain ⟨_, hlw⟩ := mem_lt hl hf hv
  have hoff := off_mem (n := f) (by omega) hv
  obtain ⟨w, rfl, hwb⟩ := (mem_iff (by omega)).1 hv
  rw [Int.toNat_natCast] at hlw hoff
  have hoffb := fun j => offN_bit (i := j) (show f < 1024 by omega) (show w < 10 by omega)
  refine ⟨w, rfl, hlw, hwb, hd w hwb, hoff.2, hoff.1, or_lt hk ((Nat.pow_lt_pow_iff_right (by omega)).2 hlw), fun j h => hd j (by rw [hoffb j] at h; simp at h; exact h.1), fun j h => ?_⟩
  rw [hoffb j] at h
  simp at h
  rw [Nat.testBit_or, Nat.testBit_two_pow, hd j h.1]
  simp; omega
end Go.Proofs.YtfphkpdobbffeaaDoor
