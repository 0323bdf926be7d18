/-
  Contracts: strings.Trim at the three signs; CheckPosition.
-/
import Derived.Test.YtfphkpdobbffeaaDoorSw6
import Derived.Laws.RangeString
set_option linter.unusedSimpArgs false
set_option linter.unusedVariables false
namespace Go.Proofs.YtfphkpdobbffeaaDoor
open Go Go.AH
set_option maxRecDepth 100000
set_option maxHeartbeats 1000000

theorem bs_toList (l : List UInt8) : (bs l).toList = l := by rw [ByteArray.toList_eq]; rfl
theorem nil_toList : (⟨#[]⟩ : ByteArray).toList = [] := by rw [ByteArray.toList_eq]
theorem trim_spec (l : List UInt8) (hl : l.length ≤ 1000) : FDet Tryd.prog 85 [.c (.str (bs l)), .c (.str ⟨#[46, 43, 45]⟩)] [] 0 (.c (.str (bs (trimP l)))) [] 0 := by
  have hrl : (trimR l).length ≤ 1000 := by
    have := (List.dropWhile_sublist isP (l := l.reverse)).length_le
    simp only [trimR, List.length_reverse] at this ⊢
    omega
  have hT := trimR_spec l hl
  have hL := trimL_spec (trimR l) hrl
  refine FSpec.of_body tok true Tryd.func85 rfl (by kernel_rfl) (by decide) (by simp [tupA, hpLt, tmLt, AV.lt, AE.lt, AC.lt, LL_cons, LL_nil, idOk, ABlk.lt, ints_LL, GB, tab64_LL, gC, wB, giC, noneB, gst, tC, pC, as_LL]) (by simp [tupA, hpLt, tmLt, AV.lt, AE.lt, AC.lt, LL_cons, LL_nil, idOk, ABlk.lt, ints_LL, GB, tab64_LL, gC, wB, giC, noneB, gst, tC, pC, as_LL]) (by show 2 ≤ _; decide) ?_
  refine Wk.on ?_
  rw [bs_toList, nil_toList]
  cases l with
  | nil =>
    refine Wk.on ?_
    exact AH.Fin.nil [] ⟨rfl, rfl, rfl⟩ (by first | exact trivial | (simp [tupA, hpLt, tmLt, AV.lt, AE.lt, AC.lt, LL_cons, LL_nil, idOk, ABlk.lt, ints_LL, GB, tab64_LL, gC, wB, giC, noneB, gst, tC, pC, as_LL]; done) | (simp [tupA, hpLt, tmLt, AV.lt, AE.lt, AC.lt, LL_cons, LL_nil, idOk, ABlk.lt, ints_LL, GB, tab64_LL, gC, wB, giC, noneB, gst, tC, pC, as_LL, rdn, wrn]; done)) trivial trivial rfl (by simp [GB])
  | cons a l =>
    refine Wk.on ?_
    refine ⟨fun _ => ?_, fun h => absurd h (by simp)⟩
    refine Wk.on ?_
    intro _
    refine Wk.on ?_
    refine CallA.ro [] (.t [.g asC, .c (.bool true)]) (make_spec) (by first | rfl | exact congrArg AV.g (ints_ren _ _) | (simp [ints_ren, AV.ren, ABlk.ren, AC.ren, AE.ren, as_ren, qq]; done)) rfl (by (repeat (first | exact trivial | refine ⟨⟨(by first | exact .inl (by decide) | exact .inr (by decide)), (by first | (refine Or.inl ?_; first | rfl | exact congrArg some (ints_ren _ _).symm | exact congrArg ABlk.own (ints_ren _ _).symm | exact congrArg some (tab64_ren _).symm | exact congrArg some as_ren.symm | exact as_ren.symm | exact congrArg ABlk.own as_ren.symm) | rfl | exact congrArg some (ints_ren _ _).symm | exact congrArg ABlk.own (ints_ren _ _).symm | exact congrArg some (tab64_ren _).symm | exact congrArg some as_ren.symm | exact as_ren.symm | exact congrArg ABlk.own as_ren.symm | exact Or.inr ⟨rfl, rfl⟩)⟩, ?_⟩))) (by first | rfl | exact congrArg AV.g (ints_ren _ _) | (simp [ints_ren, AV.ren, ABlk.ren, AC.ren, AE.ren, as_ren, qq]; done)) ?_
    have hal := as_len
    refine Wk.on ?_
    refine CallA.ro [0] (.c (.str (bs (trimR (a :: l))))) (hT) (by first | rfl | exact congrArg AV.g (ints_ren _ _) | (simp [ints_ren, AV.ren, ABlk.ren, AC.ren, AE.ren, as_ren, qq]; done)) rfl (by (repeat (first | exact trivial | refine ⟨⟨(by first | exact .inl (by decide) | exact .inr (by decide)), (by first | (refine Or.inl ?_; first | rfl | exact congrArg some (ints_ren _ _).symm | exact congrArg ABlk.own (ints_ren _ _).symm | exact congrArg some (tab64_ren _).symm | exact congrArg some as_ren.symm | exact as_ren.symm | exact congrArg ABlk.own as_ren.symm) | rfl | exact congrArg some (ints_ren _ _).symm | exact congrArg ABlk.own (ints_ren _ _).symm | exact congrArg some (tab64_ren _).symm | exact congrArg some as_ren.symm | exact as_ren.symm | exact congrArg ABlk.own as_ren.symm | exact Or.inr ⟨rfl, rfl⟩)⟩, ?_⟩))) (by first | rfl | exact congrArg AV.g (ints_ren _ _) | (simp [ints_ren, AV.ren, ABlk.ren, AC.ren, AE.ren, as_ren, qq]; done)) ?_
    refine Wk.on ?_
    refine CallA.ro [0] (.c (.str (bs (trimP (a :: l))))) (hL) (by first | rfl | exact congrArg AV.g (ints_ren _ _) | (simp [ints_ren, AV.ren, ABlk.ren, AC.ren, AE.ren, as_ren, qq]; done)) rfl (by (repeat (first | exact trivial | refine ⟨⟨(by first | exact .inl (by decide) | exact .inr (by decide)), (by first | (refine Or.inl ?_; first | rfl | exact congrArg some (ints_ren _ _).symm | exact congrArg ABlk.own (ints_ren _ _).symm | exact congrArg some (tab64_ren _).symm | exact congrArg some as_ren.symm | exact as_ren.symm | exact congrArg ABlk.own as_ren.symm) | rfl | exact congrArg some (ints_ren _ _).symm | exact congrArg ABlk.own (ints_ren _ _).symm | exact congrArg some (tab64_ren _).symm | exact congrArg some as_ren.symm | exact as_ren.symm | exact congrArg ABlk.own as_ren.symm | exact Or.inr ⟨rfl, rfl⟩)⟩, ?_⟩))) (by first | rfl | exact congrArg AV.g (ints_ren _ _) | (simp [ints_ren, AV.ren, ABlk.ren, AC.ren, AE.ren, as_ren, qq]; done)) ?_
    refine Wk.on ?_
    exact AH.Fin.nil [] ⟨rfl, rfl, rfl⟩ (by first | exact trivial | (simp [tupA, hpLt, tmLt, AV.lt, AE.lt, AC.lt, LL_cons, LL_nil, idOk, ABlk.lt, ints_LL, GB, tab64_LL, gC, wB, giC, noneB, gst, tC, pC, as_LL]; done) | (simp [tupA, hpLt, tmLt, AV.lt, AE.lt, AC.lt, LL_cons, LL_nil, idOk, ABlk.lt, ints_LL, GB, tab64_LL, gC, wB, giC, noneB, gst, tC, pC, as_LL, rdn, wrn]; done)) trivial trivial rfl (by simp [GB])
/-- A position, as bytes. -/
def okPos (n : Nat) (l : List UInt8) : Bool := l.length == n && l.all isP
theorem checkPos_spec {g : Gm} (hg : g.game) (l : List UInt8) (hl : l.length ≤ 1000) : FDet Tryd.prog 47 [.g (gC g 0), .c (.str (bs l))] [(0, wB g), (100002, .ro tab64)] 1 (.c (.int .i64 (cond (okPos g.ws.length l) 0 1))) [] 1 := by
  have hs := bs_size l
  have hT := trim_spec l hl
  refine FSpec.of_body tok true Tryd.func47 rfl (by kernel_rfl) (by decide) (by simp [tupA, hpLt, tmLt, AV.lt, AE.lt, AC.lt, LL_cons, LL_nil, idOk, ABlk.lt, ints_LL, GB, tab64_LL, gC, wB, giC, noneB, gst, tC, pC, as_LL]) (by simp [tupA, hpLt, tmLt, AV.lt, AE.lt, AC.lt, LL_cons, LL_nil, idOk, ABlk.lt, ints_LL, GB, tab64_LL, gC, wB, giC, noneB, gst, tC, pC, as_LL]) (by show 2 ≤ _; decide) ?_
  refine Wk.on ?_
  refine CallA.ro [0] (.c (.int .i64 0)) (check_ok hg) (by first | rfl | exact congrArg AV.g (ints_ren _ _) | (simp [ints_ren, AV.ren, ABlk.ren, AC.ren, AE.ren, as_ren, qq]; done)) rfl (by (repeat (first | exact trivial | refine ⟨⟨(by first | exact .inl (by decide) | exact .inr (by decide)), (by first | (refine Or.inl ?_; first | rfl | exact congrArg some (ints_ren _ _).symm | exact congrArg ABlk.own (ints_ren _ _).symm | exact congrArg some (tab64_ren _).symm | exact congrArg some as_ren.symm | exact as_ren.symm | exact congrArg ABlk.own as_ren.symm) | rfl | exact congrArg some (ints_ren _ _).symm | exact congrArg ABlk.own (ints_ren _ _).symm | exact congrArg some (tab64_ren _).symm | exact congrArg some as_ren.symm | exact as_ren.symm | exact congrArg ABlk.own as_ren.symm | exact Or.inr ⟨rfl, rfl⟩)⟩, ?_⟩))) (by first | rfl | exact congrArg AV.g (ints_ren _ _) | (simp [ints_ren, AV.ren, ABlk.ren, AC.ren, AE.ren, as_ren, qq]; done)) ?_
  refine Wk.on ?_
  by_cases hn : l.length = g.ws.length
  · rw [show decide (((bs l).size : Int) ≠ (g.ws.length : Int)) = false from by rw [hs]; simp [hn]]
    refine Wk.on ?_
    refine CallA.ro [] (.c (.str (bs (trimP l)))) (hT) (by first | rfl | exact congrArg AV.g (ints_ren _ _) | (simp [ints_ren, AV.ren, ABlk.ren, AC.ren, AE.ren, as_ren, qq]; done)) rfl (by (repeat (first | exact trivial | refine ⟨⟨(by first | exact .inl (by decide) | exact .inr (by decide)), (by first | (refine Or.inl ?_; first | rfl | exact congrArg some (ints_ren _ _).symm | exact congrArg ABlk.own (ints_ren _ _).symm | exact congrArg some (tab64_ren _).symm | exact congrArg some as_ren.symm | exact as_ren.symm | exact congrArg ABlk.own as_ren.symm) | rfl | exact congrArg some (ints_ren _ _).symm | exact congrArg ABlk.own (ints_ren _ _).symm | exact congrArg some (tab64_ren _).symm | exact congrArg some as_ren.symm | exact as_ren.symm | exact congrArg ABlk.own as_ren.symm | exact Or.inr ⟨rfl, rfl⟩)⟩, ?_⟩))) (by first | rfl | exact congrArg AV.g (ints_ren _ _) | (simp [ints_ren, AV.ren, ABlk.ren, AC.ren, AE.ren, as_ren, qq]; done)) ?_
    refine Wk.on ?_
    rw [bs_toList, nil_toList]
    cases hq : trimP l with
    | nil =>
      have hok : okPos g.ws.length l = true := by
        have := (trimP_nil l).1 hq
        simp only [okPos, Bool.and_eq_true, beq_iff_eq, List.all_eq_true]
        exact ⟨hn, this⟩
      rw [hok]
      refine Wk.on ?_
      exact AH.Fin.nil [] ⟨rfl, rfl, rfl⟩ (by first | exact trivial | (simp [tupA, hpLt, tmLt, AV.lt, AE.lt, AC.lt, LL_cons, LL_nil, idOk, ABlk.lt, ints_LL, GB, tab64_LL, gC, wB, giC, noneB, gst, tC, pC, as_LL]; done) | (simp [tupA, hpLt, tmLt, AV.lt, AE.lt, AC.lt, LL_cons, LL_nil, idOk, ABlk.lt, ints_LL, GB, tab64_LL, gC, wB, giC, noneB, gst, tC, pC, as_LL, rdn, wrn]; done)) trivial trivial rfl (by simp [GB])
    | cons a m =>
      have hok : okPos g.ws.length l = false := by
        cases h : okPos g.ws.length l with
        | false => rfl
        | true =>
          simp only [okPos, Bool.and_eq_true, beq_iff_eq, List.all_eq_true] at h
          rw [(trimP_nil l).2 h.2] at hq
          cases hq
      rw [hok, show ((a :: m : List UInt8) == []) = false from rfl]
      refine Wk.on ?_
      exact AH.Fin.nil [] ⟨rfl, rfl, rfl⟩ (by first | exact trivial | (simp [tupA, hpLt, tmLt, AV.lt, AE.lt, AC.lt, LL_cons, LL_nil, idOk, ABlk.lt, ints_LL, GB, tab64_LL, gC, wB, giC, noneB, gst, tC, pC, as_LL]; done) | (simp [tupA, hpLt, tmLt, AV.lt, AE.lt, AC.lt, LL_cons, LL_nil, idOk, ABlk.lt, ints_LL, GB, tab64_LL, gC, wB, giC, noneB, gst, tC, pC, as_LL, rdn, wrn]; done)) trivial trivial rfl (by simp [GB])
  · have hok : okPos g.ws.length l = false := by simp [okPos, hn]
    rw [hok, show decide (((bs l).size : Int) ≠ (g.ws.length : Int)) = true from by rw [hs]; simp; omega]
    refine Wk.on ?_
    exact AH.Fin.nil [] ⟨rfl, rfl, rfl⟩ (by first | exact trivial | (simp [tupA, hpLt, tmLt, AV.lt, AE.lt, AC.lt, LL_cons, LL_nil, idOk, ABlk.lt, ints_LL, GB, tab64_LL, gC, wB, giC, noneB, gst, tC, pC, as_LL]; done) | (simp [tupA, hpLt, tmLt, AV.lt, AE.lt, AC.lt, LL_cons, LL_nil, idOk, ABlk.lt, ints_LL, GB, tab64_LL, gC, wB, giC, noneB, gst, tC, pC, as_LL, rdn, wrn]; done)) trivial trivial rfl (by simp [GB])
end Go.Proofs.YtfphkpdobbffeaaDoor

/-
  Contracts: a position, as sets; read.
-/
namespace Go.Proofs.YtfphkpdobbffeaaDoor
open Go Go.AH
set_option maxRecDepth 100000
set_option maxHeartbeats 1000000

def bitsN (q : Nat → Bool) : Nat → Nat
  | 0 => 0
  | i + 1 => if q i = true then bitsN q i ||| 2 ^ i else bitsN q i
theorem bitsN_bit (q : Nat → Bool) (j : Nat) : ∀ n, (bitsN q n).testBit j = (decide (j < n) && q j)
  | 0 => by simp [bitsN]
  | n + 1 => by
    have ih := bitsN_bit q j n
    rw [bitsN]
    split
    · rename_i h
      rw [Nat.testBit_or, ih, Nat.testBit_two_pow]
      by_cases e : n = j
      · subst e; simp [h]
      · have : decide (j < n + 1) = decide (j < n) := by simp; omega
        rw [this]; simp [e]
    · rename_i h
      rw [ih]
      by_cases e : n = j
      · subst e; simp [h]
      · have : decide (j < n + 1) = decide (j < n) := by simp; omega
        rw [this]
theorem bitsN_lt (q : Nat → Bool) : ∀ n, bitsN q n < 2 ^ n
  | 0 => by simp [bitsN]
  | n + 1 => by
    have ih := bitsN_lt q n
    have h2 : 2 ^ n < 2 ^ (n + 1) := (Nat.pow_lt_pow_iff_right (by omega)).2 (by omega)
    rw [bitsN]
    split
    · exact or_lt (by omega) h2
    · omega
theorem posL_ext {n f k f' k' : Nat} (h : ∀ i, i < n → f.testBit i = f'.testBit i ∧ k.testBit i = k'.testBit i) : posL n f k = posL n f' k' := by
  refine List.map_congr_left fun i hi => ?_
  obtain ⟨a, b⟩ := h i (List.mem_range.1 hi)
  rw [a, b]
/-- The free wires, and the kept ones, of bytes. -/
def fB (n : Nat) (l : List UInt8) : Nat := bitsN (fun i => l.getD i 0 == 46) n
def kB (n : Nat) (l : List UInt8) : Nat := bitsN (fun i => l.getD i 0 == 43) n
theorem fB_lt (n : Nat) (l : List UInt8) : fB n l < 2 ^ n := bitsN_lt _ _
theorem kB_lt (n : Nat) (l : List UInt8) : kB n l < 2 ^ n := bitsN_lt _ _
theorem fkB_dis (n : Nat) (l : List UInt8) (i : Nat) (h : (fB n l).testBit i = true) : (kB n l).testBit i = false := by
  rw [fB, bitsN_bit] at h
  rw [kB, bitsN_bit]
  simp only [Bool.and_eq_true, decide_eq_true_eq, beq_iff_eq] at h
  rw [h.2]; simp
theorem pos_of_ok {n : Nat} {l : List UInt8} (h : okPos n l = true) : l = posL n (fB n l) (kB n l) := by
  simp only [okPos, Bool.and_eq_true, beq_iff_eq, List.all_eq_true] at h
  apply List.ext_getElem (by rw [posL_len]; exact h.1)
  intro i h1 h2
  have h3 : i < n := by omega
  have hp := h.2 _ (List.getElem_mem h1)
  simp only [posL, List.getElem_map, List.getElem_range, fB, kB, bitsN_bit, h3, decide_true, Bool.true_and, List.getD_eq_getElem?_getD, List.getElem?_eq_getElem h1, Option.getD_some]
  simp only [isP, Bool.or_eq_true, beq_iff_eq] at hp
  rcases hp with (hp | hp) | hp <;> rw [hp] <;> decide
theorem ok_pos (n f k : Nat) : okPos n (posL n f k) = true := by
  simp only [okPos, Bool.and_eq_true, beq_iff_eq, List.all_eq_true]
  refine ⟨posL_len n f k, fun c hc => ?_⟩
  obtain ⟨i, _, rfl⟩ := List.mem_map.1 hc
  split
  · rfl
  · split <;> rfl
theorem pos_decode {n f k i : Nat} (h : i < n) : Utf8.decode (posB n f k) i = ((if f.testBit i = true then 46 else if k.testBit i = true then 43 else 45), 1) := by
  have hs := posB_size n f k
  have hl : i < (posB n f k).size := by omega
  have hg : (posB n f k)[i]'hl = (posL n f k).getD i 0 := by
    rw [List.getD_eq_getElem?_getD, List.getElem?_eq_getElem (by rw [posL_len]; exact h)]
    rfl
  rw [posL_getD h] at hg
  rw [decode_ascii _ _ hl (by rw [hg]; split; decide; split <;> decide), hg]
  split
  · rfl
  · split <;> rfl
theorem setTo_all0 {n f : Nat} (hf : f < 2 ^ n) : setTo n 0 f n = f := setTo_all hf fun i h => by simp at h
theorem read_spec {n f k : Nat} (hn : n ≤ 10) (hf : f < 2 ^ n) (hk : k < 2 ^ n) (hd : ∀ i, f.testBit i = true → k.testBit i = false) : FDet Tryd.prog 82 [.c (.str (posB n f k))] [] 0 (.g [.int .i64 f, .int .i64 k]) [] 0 := by
  have hsz := posB_size n f k
  refine FSpec.of_body tok true Tryd.func82 rfl (by kernel_rfl) (by decide) (by simp [tupA, hpLt, tmLt, AV.lt, AE.lt, AC.lt, LL_cons, LL_nil, idOk, ABlk.lt, ints_LL, GB, tab64_LL, gC, wB, giC, noneB, gst, tC, pC]) (by simp [tupA, hpLt, tmLt, AV.lt, AE.lt, AC.lt, LL_cons, LL_nil, idOk, ABlk.lt, ints_LL, GB, tab64_LL, gC, wB, giC, noneB, gst, tC, pC]) (by show 1 ≤ _; decide) ?_
  refine Wk.on ?_
  refine Tr.loop (md := true) (X := Nat) (st := fun i => ⟨[(0, .c (.str (posB n f k))), (2, .c (.ptr 0 0)), (3, .c (.ptr 1 0)), (7, .c (.ptr 2 0))], [(2, .si (posB n f k) i), (1, .own [.int .i64 (setTo n 0 f i), .int .i64 (setTo n f k i)]), (0, .own [.int .i64 0, .int .i64 0])], 3, 32, 0⟩) (inv := fun i => i ≤ n) (μ := fun i => n - i) (x0 := 0) (l := []) tok (by omega) ?_ ?_
  · exact Sub.nil ⟨rfl, rfl, (by simp [tab64_LL, gC, wB, giC, noneB, gst, tC, pC]), rfl, (by simp [tupA, hpLt, tmLt, AV.lt, AE.lt, AC.lt, LL_cons, LL_nil, idOk, ABlk.lt, ints_LL, GB, tab64_LL, gC, wB, giC, noneB, gst, tC, pC]), (by simp [tupA, hpLt, tmLt, AV.lt, AE.lt, AC.lt, LL_cons, LL_nil, idOk, ABlk.lt, ints_LL, GB, tab64_LL, gC, wB, giC, noneB, gst, tC, pC])⟩ (by (repeat (first | exact trivial | refine ⟨trivial, ?_⟩ | refine ⟨rfl, ?_⟩))) (by (repeat (first | exact trivial | refine ⟨trivial, ?_⟩ | refine ⟨rfl, ?_⟩)))
  · intro i hi
    refine Wk.on ?_
    rw [hsz]
    refine ⟨fun hc => ?_, fun hc => ?_⟩ <;> (try simp only [decide_eq_true_eq, decide_eq_false_iff_not, Decidable.not_not, Bool.not_true, Bool.not_false, ne_eq, cond_true, cond_false, Bool.not_eq_true', Bool.not_eq_false'] at hc)
    · have hde := pos_decode (f := f) (k := k) hc
      have hpi : 2 ^ i < 2048 := pow_small (by omega)
      have h1 := setTo_lt n 0 f i
      have h2 := setTo_lt n f k i
      have s1 : setTo n 0 f (i + 1) = if f.testBit i = true then setTo n 0 f i ||| 2 ^ i else setTo n 0 f i := by rw [setTo]; simp
      have s2 : setTo n f k (i + 1) = if f.testBit i = true then setTo n f k i else if k.testBit i = true then setTo n f k i ||| 2 ^ i else setTo n f k i := rfl
      rw [hde]
      by_cases hf1 : f.testBit i = true
      · rw [if_pos hf1] at s1 s2 ⊢
        refine Wk.on ?_
        rw [wrapU (by omega)]
        refine ⟨⟨by omega, by omega, by rw [shl1 rfl]; unfold I64; omega⟩, ?_⟩
        rw [shl1 rfl]
        refine Wk.on ?_
        refine Again.mk (i + 1) (Sub.nil ⟨rfl, rfl, (by simp [tab64_LL, gC, wB, giC, noneB, gst, tC, pC]), rfl, (by simp [tupA, hpLt, tmLt, AV.lt, AE.lt, AC.lt, LL_cons, LL_nil, idOk, ABlk.lt, ints_LL, GB, tab64_LL, gC, wB, giC, noneB, gst, tC, pC]), (by simp [tupA, hpLt, tmLt, AV.lt, AE.lt, AC.lt, LL_cons, LL_nil, idOk, ABlk.lt, ints_LL, GB, tab64_LL, gC, wB, giC, noneB, gst, tC, pC])⟩ (by (repeat (first | exact trivial | refine ⟨trivial, ?_⟩ | refine ⟨rfl, ?_⟩))) ⟨rfl, by show ABlk.own _ = ABlk.own _; rw [s1, s2]; rfl, rfl, trivial⟩) (by omega) (by omega)
      · rw [if_neg hf1] at s1 s2 ⊢
        by_cases hk1 : k.testBit i = true
        · rw [if_pos hk1] at s2 ⊢
          refine Wk.on ?_
          rw [wrapU (by omega)]
          refine ⟨⟨by omega, by omega, by rw [shl1 rfl]; unfold I64; omega⟩, ?_⟩
          rw [shl1 rfl]
          refine Wk.on ?_
          refine Again.mk (i + 1) (Sub.nil ⟨rfl, rfl, (by simp [tab64_LL, gC, wB, giC, noneB, gst, tC, pC]), rfl, (by simp [tupA, hpLt, tmLt, AV.lt, AE.lt, AC.lt, LL_cons, LL_nil, idOk, ABlk.lt, ints_LL, GB, tab64_LL, gC, wB, giC, noneB, gst, tC, pC]), (by simp [tupA, hpLt, tmLt, AV.lt, AE.lt, AC.lt, LL_cons, LL_nil, idOk, ABlk.lt, ints_LL, GB, tab64_LL, gC, wB, giC, noneB, gst, tC, pC])⟩ (by (repeat (first | exact trivial | refine ⟨trivial, ?_⟩ | refine ⟨rfl, ?_⟩))) ⟨rfl, by show ABlk.own _ = ABlk.own _; rw [s1, s2]; rfl, rfl, trivial⟩) (by omega) (by omega)
        · rw [if_neg hk1] at s2 ⊢
          refine Wk.on ?_
          refine Again.mk (i + 1) (Sub.nil ⟨rfl, rfl, (by simp [tab64_LL, gC, wB, giC, noneB, gst, tC, pC]), rfl, (by simp [tupA, hpLt, tmLt, AV.lt, AE.lt, AC.lt, LL_cons, LL_nil, idOk, ABlk.lt, ints_LL, GB, tab64_LL, gC, wB, giC, noneB, gst, tC, pC]), (by simp [tupA, hpLt, tmLt, AV.lt, AE.lt, AC.lt, LL_cons, LL_nil, idOk, ABlk.lt, ints_LL, GB, tab64_LL, gC, wB, giC, noneB, gst, tC, pC])⟩ (by (repeat (first | exact trivial | refine ⟨trivial, ?_⟩ | refine ⟨rfl, ?_⟩))) ⟨rfl, by show ABlk.own _ = ABlk.own _; rw [s1, s2], rfl, trivial⟩) (by omega) (by omega)
    · obtain rfl : i = n := by omega
      refine Wk.on ?_
      rw [setTo_all0 hf, setTo_all hk hd]
      exact AH.Fin.nil [] ⟨rfl, rfl, rfl⟩ (by first | exact trivial | (simp [tupA, hpLt, tmLt, AV.lt, AE.lt, AC.lt, LL_cons, LL_nil, idOk, ABlk.lt, ints_LL, GB, tab64_LL, gC, wB, giC, noneB, gst, tC, pC]; done) | (simp [tupA, hpLt, tmLt, AV.lt, AE.lt, AC.lt, LL_cons, LL_nil, idOk, ABlk.lt, ints_LL, GB, tab64_LL, gC, wB, giC, noneB, gst, tC, pC, rdn, wrn]; done)) trivial trivial rfl (by simp [GB])
end Go.Proofs.YtfphkpdobbffeaaDoor

/-
  Contracts: Position by the reference; the position of any string.
-/
namespace Go.Proofs.YtfphkpdobbffeaaDoor
open Go Go.AH
set_option maxRecDepth 100000
set_option maxHeartbeats 1000000

theorem take_succ_all {l : List UInt8} {i : Nat} (h : i < l.length) : ((l.take (i + 1)).all isP) = ((l.take i).all isP && isP (l.getD i 0)) := by
  rw [List.take_add_one, List.all_append, List.getD_eq_getElem?_getD, List.getElem?_eq_getElem h]
  simp
theorem all_take {l : List UInt8} {i : Nat} (h : ((l.take i).all isP) = false) : l.all isP = false := by
  cases hq : l.all isP with
  | false => rfl
  | true =>
    rw [List.all_eq_true] at hq
    have : (l.take i).all isP = true := List.all_eq_true.2 fun c hc => hq c (List.mem_of_mem_take hc)
    rw [this] at h; cases h
theorem isP_ne (c : UInt8) : isP c = (decide ((c.toNat : Int) = 46) || decide ((c.toNat : Int) = 43) || decide ((c.toNat : Int) = 45)) := by
  have : ∀ n, n < 256 → isP (UInt8.ofNat n) = (decide (n = 46) || decide (n = 43) || decide (n = 45)) := by decide +kernel
  have h := this c.toNat c.toNat_lt
  rw [UInt8.ofNat_toNat] at h
  rw [h]
  congr 1
  · congr 1
    · exact decide_eq_decide.2 (by omega)
    · exact decide_eq_decide.2 (by omega)
  · exact decide_eq_decide.2 (by omega)
theorem positionR_spec {g : Gm} (hg : g.ok) (l : List UInt8) (hl : l.length ≤ 1000) : FDet Tryd.prog 49 [.g (gC g 0), .c (.str (bs l))] [(0, wB g)] 1 (.c (.bool (okPos g.ws.length l))) [] 1 := by
  have hs := bs_size l
  have hgl := hg.len
  refine FSpec.of_body tok true Tryd.func49 rfl (by kernel_rfl) (by decide) (by simp [tupA, hpLt, tmLt, AV.lt, AE.lt, AC.lt, LL_cons, LL_nil, idOk, ABlk.lt, ints_LL, GB, tab64_LL, gC, wB, giC, noneB, gst, tC, pC]) (by simp [tupA, hpLt, tmLt, AV.lt, AE.lt, AC.lt, LL_cons, LL_nil, idOk, ABlk.lt, ints_LL, GB, tab64_LL, gC, wB, giC, noneB, gst, tC, pC]) (by show 2 ≤ _; decide) ?_
  refine Wk.on ?_
  refine Tr.loop (md := true) (X := Nat) (st := fun i => ⟨[(1, .c (.str (bs l))), (2, .c (.ptr 1 0)), (5, .c (.int .i64 i))], [(1, .own (gC g 0)), (0, wB g)], 2, 34, 1⟩) (inv := fun i => i ≤ l.length ∧ (l.take i).all isP = true) (μ := fun i => l.length - i) (x0 := 0) (l := []) tok ⟨by omega, by simp⟩ ?_ ?_
  · exact Sub.nil ⟨rfl, rfl, (by simp [tab64_LL, gC, wB, giC, noneB, gst, tC, pC]), rfl, (by simp [tupA, hpLt, tmLt, AV.lt, AE.lt, AC.lt, LL_cons, LL_nil, idOk, ABlk.lt, ints_LL, GB, tab64_LL, gC, wB, giC, noneB, gst, tC, pC]), (by simp [tupA, hpLt, tmLt, AV.lt, AE.lt, AC.lt, LL_cons, LL_nil, idOk, ABlk.lt, ints_LL, GB, tab64_LL, gC, wB, giC, noneB, gst, tC, pC])⟩ (by (repeat (first | exact trivial | refine ⟨trivial, ?_⟩ | refine ⟨rfl, ?_⟩))) (by (repeat (first | exact trivial | refine ⟨trivial, ?_⟩ | refine ⟨rfl, ?_⟩)))
  · rintro i ⟨hi, ha⟩
    have hts := fun h => take_succ_all (l := l) (i := i) h
    refine Wk.on ?_
    rw [hs]
    refine ⟨fun hc => ?_, fun hc => ?_⟩ <;> (try simp only [decide_eq_true_eq, decide_eq_false_iff_not, Decidable.not_not, Bool.not_true, Bool.not_false, ne_eq, cond_true, cond_false, Bool.not_eq_true', Bool.not_eq_false'] at hc)
    · have hat : (bs l).data.toList.getD (Int.toNat (i : Int)) 0 = l.getD i 0 := by rw [Int.toNat_natCast]; rfl
      have hc2 := hts (by omega)
      rw [ha, Bool.true_and, isP_ne] at hc2
      generalize hx : l.getD i 0 = c at *
      refine Wk.on ?_
      rw [hat]
      by_cases e1 : ((c.toNat : Nat) : Int) = 46
      · rw [decide_eq_false (show ¬ (((c.toNat : Nat) : Int) ≠ 46) from fun h => h e1)]
        refine Wk.on ?_
        refine Again.mk (i + 1) (Sub.nil ⟨rfl, rfl, (by simp [tab64_LL, gC, wB, giC, noneB, gst, tC, pC]), rfl, (by simp [tupA, hpLt, tmLt, AV.lt, AE.lt, AC.lt, LL_cons, LL_nil, idOk, ABlk.lt, ints_LL, GB, tab64_LL, gC, wB, giC, noneB, gst, tC, pC]), (by simp [tupA, hpLt, tmLt, AV.lt, AE.lt, AC.lt, LL_cons, LL_nil, idOk, ABlk.lt, ints_LL, GB, tab64_LL, gC, wB, giC, noneB, gst, tC, pC])⟩ (by (repeat (first | exact trivial | refine ⟨trivial, ?_⟩ | refine ⟨rfl, ?_⟩))) (by (repeat (first | exact trivial | refine ⟨trivial, ?_⟩ | refine ⟨rfl, ?_⟩)))) (⟨by omega, by rw [hc2]; simp [e1]⟩) (by omega)
      · rw [decide_eq_true (show ((c.toNat : Nat) : Int) ≠ 46 from e1)]
        refine Wk.on ?_
        rw [hat]
        by_cases e2 : ((c.toNat : Nat) : Int) = 43
        · rw [decide_eq_false (show ¬ (((c.toNat : Nat) : Int) ≠ 43) from fun h => h e2)]
          refine Wk.on ?_
          refine Again.mk (i + 1) (Sub.nil ⟨rfl, rfl, (by simp [tab64_LL, gC, wB, giC, noneB, gst, tC, pC]), rfl, (by simp [tupA, hpLt, tmLt, AV.lt, AE.lt, AC.lt, LL_cons, LL_nil, idOk, ABlk.lt, ints_LL, GB, tab64_LL, gC, wB, giC, noneB, gst, tC, pC]), (by simp [tupA, hpLt, tmLt, AV.lt, AE.lt, AC.lt, LL_cons, LL_nil, idOk, ABlk.lt, ints_LL, GB, tab64_LL, gC, wB, giC, noneB, gst, tC, pC])⟩ (by (repeat (first | exact trivial | refine ⟨trivial, ?_⟩ | refine ⟨rfl, ?_⟩))) (by (repeat (first | exact trivial | refine ⟨trivial, ?_⟩ | refine ⟨rfl, ?_⟩)))) (⟨by omega, by rw [hc2]; simp [e2]⟩) (by omega)
        · rw [decide_eq_true (show ((c.toNat : Nat) : Int) ≠ 43 from e2)]
          refine Wk.on ?_
          rw [hat]
          by_cases e3 : ((c.toNat : Nat) : Int) = 45
          · rw [decide_eq_false (show ¬ (((c.toNat : Nat) : Int) ≠ 45) from fun h => h e3)]
            refine Wk.on ?_
            refine Again.mk (i + 1) (Sub.nil ⟨rfl, rfl, (by simp [tab64_LL, gC, wB, giC, noneB, gst, tC, pC]), rfl, (by simp [tupA, hpLt, tmLt, AV.lt, AE.lt, AC.lt, LL_cons, LL_nil, idOk, ABlk.lt, ints_LL, GB, tab64_LL, gC, wB, giC, noneB, gst, tC, pC]), (by simp [tupA, hpLt, tmLt, AV.lt, AE.lt, AC.lt, LL_cons, LL_nil, idOk, ABlk.lt, ints_LL, GB, tab64_LL, gC, wB, giC, noneB, gst, tC, pC])⟩ (by (repeat (first | exact trivial | refine ⟨trivial, ?_⟩ | refine ⟨rfl, ?_⟩))) (by (repeat (first | exact trivial | refine ⟨trivial, ?_⟩ | refine ⟨rfl, ?_⟩)))) (⟨by omega, by rw [hc2]; simp [e3]⟩) (by omega)
          · have hok : okPos g.ws.length l = false := by
              have h3 : ((l.take (i + 1)).all isP) = false := by rw [hc2]; simp [e1, e2, e3]
              rw [okPos, all_take h3, Bool.and_false]
            rw [hok, decide_eq_true (show ((c.toNat : Nat) : Int) ≠ 45 from e3)]
            refine Wk.on ?_
            exact AH.Fin.nil [] ⟨rfl, rfl, rfl⟩ (by first | exact trivial | (simp [tupA, hpLt, tmLt, AV.lt, AE.lt, AC.lt, LL_cons, LL_nil, idOk, ABlk.lt, ints_LL, GB, tab64_LL, gC, wB, giC, noneB, gst, tC, pC]; done) | (simp [tupA, hpLt, tmLt, AV.lt, AE.lt, AC.lt, LL_cons, LL_nil, idOk, ABlk.lt, ints_LL, GB, tab64_LL, gC, wB, giC, noneB, gst, tC, pC, rdn, wrn]; done)) trivial trivial rfl (by simp [GB])
    · obtain rfl : i = l.length := by omega
      rw [List.take_length] at ha
      refine Wk.on ?_
      exact AH.Fin.nil [] ⟨by rw [okPos, ha, Bool.and_true]; show AV.c (.bool (decide (((bs l).size : Int) = (g.ws.length : Int)))) = _; rw [hs]; congr 2; rw [Bool.eq_iff_iff]; simp; omega, rfl, rfl⟩ (by first | exact trivial | (simp [tupA, hpLt, tmLt, AV.lt, AE.lt, AC.lt, LL_cons, LL_nil, idOk, ABlk.lt, ints_LL, GB, tab64_LL, gC, wB, giC, noneB, gst, tC, pC]; done) | (simp [tupA, hpLt, tmLt, AV.lt, AE.lt, AC.lt, LL_cons, LL_nil, idOk, ABlk.lt, ints_LL, GB, tab64_LL, gC, wB, giC, noneB, gst, tC, pC, rdn, wrn]; done)) trivial trivial rfl (by simp [GB])
end Go.Proofs.YtfphkpdobbffeaaDoor

/-
  Contract: the position of any string.
-/
namespace Go.Proofs.YtfphkpdobbffeaaDoor
open Go Go.AH
set_option maxRecDepth 100000
set_option maxHeartbeats 1000000

def u8s (l : List UInt8) : List AC := l.map fun c => AC.int .u8 (c.toNat : Int)
theorem u8s_LL (n : Nat) (l : List UInt8) : LL n (u8s l) := fun x hx => by
  obtain ⟨c, _, rfl⟩ := List.mem_map.1 hx; trivial
theorem u8s_ren (q : Nat → Nat) (l : List UInt8) : (u8s l).map (AC.ren q) = u8s l := by
  simp only [u8s, List.map_map]; rfl
theorem u8s_len (l : List UInt8) : (u8s l).length = l.length := by simp [u8s]
theorem bytesA_u8s : ∀ (l : List UInt8) (k : List UInt8 → Prop), bytesA (u8s l) k ↔ k l
  | [], k => Iff.rfl
  | c :: l, k => by
    have hc : c.toNat < 256 := c.toNat_lt
    show ((0 ≤ (c.toNat : Int) ∧ (c.toNat : Int) < 256) ∧ bytesA (u8s l) fun m => k (UInt8.ofNat (c.toNat : Int).toNat :: m)) ↔ k (c :: l)
    rw [bytesA_u8s l, Int.toNat_natCast, UInt8.ofNat_toNat]
    constructor
    · exact fun h => h.2
    · exact fun h => ⟨⟨by omega, by omega⟩, h⟩
theorem u8Eq {e z : Nat} {q : Nat → Nat} {xs : List UInt8} {cs : List AC} (h : cs = u8s xs) : some (ABlk.row e z cs) = some ((ABlk.row e z (u8s xs)).ren q) := by
  simp only [ABlk.ren, u8s_ren, h]
/-- The sign of a byte. -/
def dig (l : List UInt8) (i : Nat) : UInt8 := if i < l.length then ([46, 43, 45] : List UInt8).getD ((l.getD i 0).toNat % 3) 0 else 46
def posOf (l : List UInt8) (n : Nat) : List UInt8 := (List.range n).map (dig l)
theorem posOf_succ (l : List UInt8) (i : Nat) : posOf l (i + 1) = posOf l i ++ [dig l i] := by simp [posOf, List.range_succ]
theorem posOf_len (l : List UInt8) (n : Nat) : (posOf l n).length = n := by simp [posOf]
theorem posOf_ok (l : List UInt8) (n : Nat) : okPos n (posOf l n) = true := by
  simp only [okPos, Bool.and_eq_true, beq_iff_eq, List.all_eq_true]
  refine ⟨posOf_len l n, fun c hc => ?_⟩
  obtain ⟨i, _, rfl⟩ := List.mem_map.1 hc
  rw [dig]
  split
  · have : (l.getD i 0).toNat % 3 < 3 := Nat.mod_lt _ (by omega)
    generalize (l.getD i 0).toNat % 3 = j at *
    rcases j with _ | _ | _ | j <;> first | rfl | omega
  · rfl
def uV : List UInt8 → AC
  | [] => .nils
  | _ :: l => .row 2 (l.length + 1)
def uH : List UInt8 → List (Nat × ABlk)
  | [] => []
  | x :: l => [(2, .row 5 1 (u8s (x :: l)))]
def uK : List UInt8 → Nat
  | [] => 2
  | _ => 3
theorem wBren (g : Gm) (q : Nat → Nat) : some (wB g) = some (ABlk.ren q (wB g)) := by rw [wB, ABlk.ren, ints_ren]
theorem wrapI {x : Nat} (h : x < 1000000) : IntKind.i64.wrap (x : Int) = x := by
  exact AH.wrap_small _ _ (by omega) (by show (x : Int) < 2 ^ 64; omega) (by intro _; show (x : Int) < 2 ^ 63; omega)
theorem mod3 (c : UInt8) : ((⟨#[46, 43, 45]⟩ : ByteArray).data.toList.getD (((c.toNat : Nat) : Int) % 3).toNat 0) = ([46, 43, 45] : List UInt8).getD (c.toNat % 3) 0 := by
  rw [show (((c.toNat : Nat) : Int) % 3).toNat = c.toNat % 3 by omega]
theorem position_spec {g : Gm} (hg : g.ok) (l : List UInt8) : FDet Tryd.prog 41 [.g (gC g 0), .c (.str (bs l))] [(0, wB g)] 1 (.c (.str (bs (posOf l g.ws.length)))) [] 1 := by
  have hs := bs_size l
  have hgl := hg.len
  refine FSpec.of_body tok true Tryd.func41 rfl (by kernel_rfl) (by decide) (by simp [tupA, hpLt, tmLt, AV.lt, AE.lt, AC.lt, LL_cons, LL_nil, idOk, ABlk.lt, ints_LL, GB, tab64_LL, gC, wB, giC, noneB, gst, tC, pC, u8s_LL, uV, uH, uK]) (by simp [tupA, hpLt, tmLt, AV.lt, AE.lt, AC.lt, LL_cons, LL_nil, idOk, ABlk.lt, ints_LL, GB, tab64_LL, gC, wB, giC, noneB, gst, tC, pC, u8s_LL, uV, uH, uK]) (by show 2 ≤ _; decide) ?_
  refine Wk.on ?_
  refine Tr.loop (md := true) (X := Nat × List UInt8) (st := fun p => ⟨[(1, .c (.str (bs l))), (2, .c (.ptr 1 0)), (5, .c (uV p.2)), (6, .c (.int .i64 p.1))], uH p.2 ++ [(1, .own (gC g 0)), (0, wB g)], uK p.2, 31, 1⟩) (inv := fun p => p.1 ≤ g.ws.length ∧ p.2 = posOf l p.1) (μ := fun p => g.ws.length - p.1) (x0 := (0, [])) (l := []) tok ⟨Nat.zero_le _, rfl⟩ ?_ ?_
  · exact Sub.nil ⟨rfl, rfl, (by simp [tab64_LL, gC, wB, giC, noneB, gst, tC, pC, u8s_LL, uV, uH, uK]), rfl, (by simp [tupA, hpLt, tmLt, AV.lt, AE.lt, AC.lt, LL_cons, LL_nil, idOk, ABlk.lt, ints_LL, GB, tab64_LL, gC, wB, giC, noneB, gst, tC, pC, u8s_LL, uV, uH, uK]), (by simp [tupA, hpLt, tmLt, AV.lt, AE.lt, AC.lt, LL_cons, LL_nil, idOk, ABlk.lt, ints_LL, GB, tab64_LL, gC, wB, giC, noneB, gst, tC, pC, u8s_LL, uV, uH, uK])⟩ ⟨rfl, rfl, rfl, rfl, trivial⟩ ⟨rfl, rfl, trivial⟩
  · rintro ⟨i, m⟩ ⟨hi, hm⟩
    dsimp only at hi hm
    have hml := posOf_len l i
    have hms := posOf_succ l i
    rw [← hm] at hml hms
    rcases m with _ | ⟨x, m⟩
    · dsimp only [uV, uH, uK, List.nil_append]
      refine Wk.on ?_
      refine ⟨fun hc => ?_, fun hc => ?_⟩ <;> (try simp only [decide_eq_true_eq, decide_eq_false_iff_not, Decidable.not_not, Bool.not_true, Bool.not_false, ne_eq, cond_true, cond_false, Bool.not_eq_true', Bool.not_eq_false'] at hc)
      · refine Wk.on ?_
        rw [hs]
        by_cases hi2 : i < l.length
        · have hdg : dig l i = ([46, 43, 45] : List UInt8).getD ((l.getD i 0).toNat % 3) 0 := by rw [dig, if_pos hi2]
          have hat : (bs l).data.toList.getD (Int.toNat (i : Int)) 0 = l.getD i 0 := by rw [Int.toNat_natCast]; rfl
          rw [decide_eq_true (show (i : Int) < (l.length : Int) by omega)]
          refine Wk.on ?_
          rw [hat, wrapI (by have := (l.getD i 0).toNat_lt; omega)]
          generalize l.getD i 0 = c at *
          have hc8 : c.toNat < 256 := c.toNat_lt
          refine ⟨⟨by omega, by decide⟩, ?_⟩
          refine ⟨⟨by omega, by show ((c.toNat : Nat) : Int) % 3 < 3; omega⟩, ?_⟩
          rw [mod3]
          obtain ⟨d, hd⟩ : ∃ d, d = ([46, 43, 45] : List UInt8).getD (c.toNat % 3) 0 := ⟨_, rfl⟩
          rw [← hd] at hdg ⊢
          refine Wk.on ?_
          refine Again.mk (i + 1, [d]) (Sub.new [(2, 3)] ⟨rfl, rfl, Nat.le_of_ble_eq_true rfl, Nat.le_of_ble_eq_true rfl⟩ rfl ⟨rfl, rfl, rfl, rfl, trivial⟩ ⟨u8Eq rfl, rfl, wBren _ _, trivial⟩ rfl (by simp [tupA, hpLt, tmLt, AV.lt, AE.lt, AC.lt, LL_cons, LL_nil, idOk, ABlk.lt, ints_LL, GB, tab64_LL, gC, wB, giC, noneB, gst, tC, pC, u8s_LL, uV, uH, uK]) (by simp [tupA, hpLt, tmLt, AV.lt, AE.lt, AC.lt, LL_cons, LL_nil, idOk, ABlk.lt, ints_LL, GB, tab64_LL, gC, wB, giC, noneB, gst, tC, pC, u8s_LL, uV, uH, uK])) ⟨by omega, by show [d] = posOf l (i + 1); rw [hms, hdg]; rfl⟩ (by show g.ws.length - (i + 1) < g.ws.length - i; omega)
        · have hdg : dig l i = 46 := by rw [dig, if_neg hi2]
          rw [decide_eq_false (show ¬ (i : Int) < (l.length : Int) by omega)]
          refine Wk.on ?_
          refine Again.mk (i + 1, [46]) (Sub.new [(2, 3)] ⟨rfl, rfl, Nat.le_of_ble_eq_true rfl, Nat.le_of_ble_eq_true rfl⟩ rfl ⟨rfl, rfl, rfl, rfl, trivial⟩ ⟨u8Eq rfl, rfl, wBren _ _, trivial⟩ rfl (by simp [tupA, hpLt, tmLt, AV.lt, AE.lt, AC.lt, LL_cons, LL_nil, idOk, ABlk.lt, ints_LL, GB, tab64_LL, gC, wB, giC, noneB, gst, tC, pC, u8s_LL, uV, uH, uK]) (by simp [tupA, hpLt, tmLt, AV.lt, AE.lt, AC.lt, LL_cons, LL_nil, idOk, ABlk.lt, ints_LL, GB, tab64_LL, gC, wB, giC, noneB, gst, tC, pC, u8s_LL, uV, uH, uK])) ⟨by omega, by show [46] = posOf l (i + 1); rw [hms, hdg]; rfl⟩ (by show g.ws.length - (i + 1) < g.ws.length - i; omega)
      · obtain rfl : i = g.ws.length := by omega
        refine Wk.on ?_
        exact AH.Fin.nil [] ⟨by rw [← hm]; rfl, rfl, rfl⟩ (by first | exact trivial | (simp [tupA, hpLt, tmLt, AV.lt, AE.lt, AC.lt, LL_cons, LL_nil, idOk, ABlk.lt, ints_LL, GB, tab64_LL, gC, wB, giC, noneB, gst, tC, pC, u8s_LL, uV, uH, uK]; done) | (simp [tupA, hpLt, tmLt, AV.lt, AE.lt, AC.lt, LL_cons, LL_nil, idOk, ABlk.lt, ints_LL, GB, tab64_LL, gC, wB, giC, noneB, gst, tC, pC, u8s_LL, uV, uH, uK, rdn, wrn]; done)) trivial trivial rfl (by simp [GB])
    · dsimp only [uV, uH, uK, List.cons_append, List.nil_append]
      refine Wk.on ?_
      refine ⟨fun hc => ?_, fun hc => ?_⟩ <;> (try simp only [decide_eq_true_eq, decide_eq_false_iff_not, Decidable.not_not, Bool.not_true, Bool.not_false, ne_eq, cond_true, cond_false, Bool.not_eq_true', Bool.not_eq_false'] at hc)
      · refine Wk.on ?_
        rw [hs]
        by_cases hi2 : i < l.length
        · have hdg : dig l i = ([46, 43, 45] : List UInt8).getD ((l.getD i 0).toNat % 3) 0 := by rw [dig, if_pos hi2]
          have hat : (bs l).data.toList.getD (Int.toNat (i : Int)) 0 = l.getD i 0 := by rw [Int.toNat_natCast]; rfl
          rw [decide_eq_true (show (i : Int) < (l.length : Int) by omega)]
          refine Wk.on ?_
          rw [hat, wrapI (by have := (l.getD i 0).toNat_lt; omega)]
          generalize l.getD i 0 = c at *
          have hc8 : c.toNat < 256 := c.toNat_lt
          refine ⟨⟨by omega, by decide⟩, ?_⟩
          refine ⟨⟨by omega, by show ((c.toNat : Nat) : Int) % 3 < 3; omega⟩, ?_⟩
          rw [mod3]
          obtain ⟨d, hd⟩ : ∃ d, d = ([46, 43, 45] : List UInt8).getD (c.toNat % 3) 0 := ⟨_, rfl⟩
          rw [← hd] at hdg ⊢
          refine Wk.on ?_
          refine ⟨⟨Nat.le_of_ble_eq_true rfl, rfl, rfl, by rw [u8s_len]; simp, by show ((m.length + 1 + 1 : Nat) : Int) * 1 ≤ _; have : m.length + 1 = i := hml; omega, by have : m.length + 1 = i := hml; omega⟩, ?_⟩
          refine Wk.on ?_
          have e : (m ++ [d]).length = m.length + 1 := by simp
          refine Again.mk (i + 1, x :: (m ++ [d])) (Sub.new [(2, 4)] ⟨rfl, rfl, Nat.le_of_ble_eq_true rfl, Nat.le_of_ble_eq_true rfl⟩ rfl ⟨rfl, rfl, by show some (AV.c (.row 4 (m.length + 1 + 1))) = some (AV.c (.row 4 ((m ++ [d]).length + 1))); rw [e], rfl, trivial⟩ ⟨u8Eq (by show u8s (x :: m) ++ [.int .u8 d.toNat] = _; simp [u8s]), rfl, wBren _ _, trivial⟩ rfl (by simp [tupA, hpLt, tmLt, AV.lt, AE.lt, AC.lt, LL_cons, LL_nil, idOk, ABlk.lt, ints_LL, GB, tab64_LL, gC, wB, giC, noneB, gst, tC, pC, u8s_LL, uV, uH, uK]) (by simp [tupA, hpLt, tmLt, AV.lt, AE.lt, AC.lt, LL_cons, LL_nil, idOk, ABlk.lt, ints_LL, GB, tab64_LL, gC, wB, giC, noneB, gst, tC, pC, u8s_LL, uV, uH, uK])) ⟨by omega, by show x :: (m ++ [d]) = posOf l (i + 1); rw [hms, hdg]; rfl⟩ (by show g.ws.length - (i + 1) < g.ws.length - i; omega)
        · have hdg : dig l i = 46 := by rw [dig, if_neg hi2]
          rw [decide_eq_false (show ¬ (i : Int) < (l.length : Int) by omega)]
          refine Wk.on ?_
          refine ⟨⟨Nat.le_of_ble_eq_true rfl, rfl, rfl, by rw [u8s_len]; simp, by show ((m.length + 1 + 1 : Nat) : Int) * 1 ≤ _; have : m.length + 1 = i := hml; omega, by have : m.length + 1 = i := hml; omega⟩, ?_⟩
          refine Wk.on ?_
          have e : (m ++ [(46 : UInt8)]).length = m.length + 1 := by simp
          refine Again.mk (i + 1, x :: (m ++ [46])) (Sub.new [(2, 4)] ⟨rfl, rfl, Nat.le_of_ble_eq_true rfl, Nat.le_of_ble_eq_true rfl⟩ rfl ⟨rfl, rfl, by show some (AV.c (.row 4 (m.length + 1 + 1))) = some (AV.c (.row 4 ((m ++ [(46 : UInt8)]).length + 1))); rw [e], rfl, trivial⟩ ⟨u8Eq (by show u8s (x :: m) ++ [.int .u8 46] = _; simp [u8s]), rfl, wBren _ _, trivial⟩ rfl (by simp [tupA, hpLt, tmLt, AV.lt, AE.lt, AC.lt, LL_cons, LL_nil, idOk, ABlk.lt, ints_LL, GB, tab64_LL, gC, wB, giC, noneB, gst, tC, pC, u8s_LL, uV, uH, uK]) (by simp [tupA, hpLt, tmLt, AV.lt, AE.lt, AC.lt, LL_cons, LL_nil, idOk, ABlk.lt, ints_LL, GB, tab64_LL, gC, wB, giC, noneB, gst, tC, pC, u8s_LL, uV, uH, uK])) ⟨by omega, by show x :: (m ++ [46]) = posOf l (i + 1); rw [hms, hdg]; rfl⟩ (by show g.ws.length - (i + 1) < g.ws.length - i; omega)
      · obtain rfl : i = g.ws.length := by omega
        refine Wk.on ?_
        refine ⟨by rw [u8s_len]; simp, ?_⟩
        rw [List.take_of_length_le (by rw [u8s_len]; simp), bytesA_u8s]
        refine Wk.on ?_
        exact AH.Fin.nil [] ⟨by rw [← hm]; rfl, rfl, rfl⟩ (by first | exact trivial | (simp [tupA, hpLt, tmLt, AV.lt, AE.lt, AC.lt, LL_cons, LL_nil, idOk, ABlk.lt, ints_LL, GB, tab64_LL, gC, wB, giC, noneB, gst, tC, pC, u8s_LL, uV, uH, uK]; done) | (simp [tupA, hpLt, tmLt, AV.lt, AE.lt, AC.lt, LL_cons, LL_nil, idOk, ABlk.lt, ints_LL, GB, tab64_LL, gC, wB, giC, noneB, gst, tC, pC, u8s_LL, uV, uH, uK, rdn, wrn]; done)) trivial trivial rfl (by simp [GB])
end Go.Proofs.YtfphkpdobbffeaaDoor

/-
  Contracts: Joined, Wins, Best, of any string.
-/
namespace Go.Proofs.YtfphkpdobbffeaaDoor
open Go Go.AH
set_option maxRecDepth 100000
set_option maxHeartbeats 1000000

theorem chk_pos {g : Gm} (hg : g.game) (f k : Nat) : FDet Tryd.prog 47 [.g (gC g 0), .c (.str (posB g.ws.length f k))] [(0, wB g), (100002, .ro tab64)] 1 (.c (.int .i64 0)) [] 1 := by
  have := checkPos_spec hg (posL g.ws.length f k) (by rw [posL_len]; have := hg.ok.len; omega)
  rw [ok_pos] at this
  exact this
theorem chk_bad {g : Gm} (hg : g.game) {l : List UInt8} (hl : l.length ≤ 1000) (h : okPos g.ws.length l = false) : FDet Tryd.prog 47 [.g (gC g 0), .c (.str (bs l))] [(0, wB g), (100002, .ro tab64)] 1 (.c (.int .i64 1)) [] 1 := by
  have := checkPos_spec hg l hl
  rw [h] at this
  exact this
theorem joinedP_spec {g : Gm} (hg : g.game) {f k : Nat} (hf : f < 2 ^ g.ws.length) (hk : k < 2 ^ g.ws.length) (hd : ∀ i, f.testBit i = true → k.testBit i = false) : FDet Tryd.prog 48 [.g (gC g 0), .c (.str (posB g.ws.length f k))] [(0, wB g), (100002, .ro tab64)] 1 (.t [.c (.bool (joinedB g k)), .c (.int .i64 0)]) [] 1 := by
  have hc := chk_pos hg f k
  have hr := read_spec hg.ok.len hf hk hd
  refine FSpec.of_body tok true Tryd.func48 rfl (by kernel_rfl) (by decide) (by simp [tupA, hpLt, tmLt, AV.lt, AE.lt, AC.lt, LL_cons, LL_nil, idOk, ABlk.lt, ints_LL, GB, tab64_LL, gC, wB, giC, noneB, gst, tC, pC]) (by simp [tupA, hpLt, tmLt, AV.lt, AE.lt, AC.lt, LL_cons, LL_nil, idOk, ABlk.lt, ints_LL, GB, tab64_LL, gC, wB, giC, noneB, gst, tC, pC]) (by show 2 ≤ _; decide) ?_
  refine Wk.on ?_
  refine CallA.ro [0] (.c (.int .i64 0)) (hc) (by first | rfl | exact congrArg AV.g (ints_ren _ _) | (simp [ints_ren, AV.ren, ABlk.ren, AC.ren, AE.ren, qq]; done)) rfl (by (repeat (first | exact trivial | refine ⟨⟨(by first | exact .inl (by decide) | exact .inr (by decide)), (by first | (refine Or.inl ?_; first | rfl | exact congrArg some (ints_ren _ _).symm | exact congrArg ABlk.own (ints_ren _ _).symm | exact congrArg some (tab64_ren _).symm) | rfl | exact congrArg some (ints_ren _ _).symm | exact congrArg ABlk.own (ints_ren _ _).symm | exact congrArg some (tab64_ren _).symm | exact Or.inr ⟨rfl, rfl⟩)⟩, ?_⟩))) (by first | rfl | exact congrArg AV.g (ints_ren _ _) | (simp [ints_ren, AV.ren, ABlk.ren, AC.ren, AE.ren, qq]; done)) ?_
  refine Wk.on ?_
  refine Tr.draw (md := true) [⟨[], [14, 15, 16], [], [], []⟩, ⟨[], [13], [0], [], []⟩, ⟨[1], [13], [0], [], []⟩, ⟨[1, 2], [13], [0], [], []⟩] tok (by kernel_rfl) (by kernel_rfl) ?_
  refine Wk.on ?_
  refine CallQ.ro [] (.g [.int .i64 f, .int .i64 k]) (hr) (by first | rfl | exact congrArg AV.g (ints_ren _ _) | (simp [ints_ren, AV.ren, ABlk.ren, AC.ren, AE.ren, qq]; done)) rfl (by (repeat (first | exact trivial | refine ⟨⟨(by first | exact .inl (by decide) | exact .inr (by decide)), (by first | (refine Or.inl ?_; first | rfl | exact congrArg some (ints_ren _ _).symm | exact congrArg ABlk.own (ints_ren _ _).symm | exact congrArg some (tab64_ren _).symm) | rfl | exact congrArg some (ints_ren _ _).symm | exact congrArg ABlk.own (ints_ren _ _).symm | exact congrArg some (tab64_ren _).symm | exact Or.inr ⟨rfl, rfl⟩)⟩, ?_⟩))) (by first | rfl | exact congrArg AV.g (ints_ren _ _) | (simp [ints_ren, AV.ren, ABlk.ren, AC.ren, AE.ren, qq]; done)) ?_
  refine Wk.on ?_
  refine CallA.ro [0] (.c (.bool (joinedB g k))) (joined_spec hg.ok hk) (by first | rfl | exact congrArg AV.g (ints_ren _ _) | (simp [ints_ren, AV.ren, ABlk.ren, AC.ren, AE.ren, qq]; done)) rfl (by (repeat (first | exact trivial | refine ⟨⟨(by first | exact .inl (by decide) | exact .inr (by decide)), (by first | (refine Or.inl ?_; first | rfl | exact congrArg some (ints_ren _ _).symm | exact congrArg ABlk.own (ints_ren _ _).symm | exact congrArg some (tab64_ren _).symm) | rfl | exact congrArg some (ints_ren _ _).symm | exact congrArg ABlk.own (ints_ren _ _).symm | exact congrArg some (tab64_ren _).symm | exact Or.inr ⟨rfl, rfl⟩)⟩, ?_⟩))) (by first | rfl | exact congrArg AV.g (ints_ren _ _) | (simp [ints_ren, AV.ren, ABlk.ren, AC.ren, AE.ren, qq]; done)) ?_
  refine Wk.on ?_
  exact AH.Fin.nil [] ⟨rfl, rfl, rfl⟩ (by first | exact trivial | (simp [tupA, hpLt, tmLt, AV.lt, AE.lt, AC.lt, LL_cons, LL_nil, idOk, ABlk.lt, ints_LL, GB, tab64_LL, gC, wB, giC, noneB, gst, tC, pC]; done) | (simp [tupA, hpLt, tmLt, AV.lt, AE.lt, AC.lt, LL_cons, LL_nil, idOk, ABlk.lt, ints_LL, GB, tab64_LL, gC, wB, giC, noneB, gst, tC, pC, rdn, wrn]; done)) trivial trivial rfl (by simp [GB])
theorem joinedBad_spec {g : Gm} (hg : g.game) {l : List UInt8} (hl : l.length ≤ 1000) (h : okPos g.ws.length l = false) : FDet Tryd.prog 48 [.g (gC g 0), .c (.str (bs l))] [(0, wB g), (100002, .ro tab64)] 1 (.t [.c (.bool false), .c (.int .i64 1)]) [] 1 := by
  have hc := chk_bad hg hl h
  refine FSpec.of_body tok true Tryd.func48 rfl (by kernel_rfl) (by decide) (by simp [tupA, hpLt, tmLt, AV.lt, AE.lt, AC.lt, LL_cons, LL_nil, idOk, ABlk.lt, ints_LL, GB, tab64_LL, gC, wB, giC, noneB, gst, tC, pC]) (by simp [tupA, hpLt, tmLt, AV.lt, AE.lt, AC.lt, LL_cons, LL_nil, idOk, ABlk.lt, ints_LL, GB, tab64_LL, gC, wB, giC, noneB, gst, tC, pC]) (by show 2 ≤ _; decide) ?_
  refine Wk.on ?_
  refine CallA.ro [0] (.c (.int .i64 1)) (hc) (by first | rfl | exact congrArg AV.g (ints_ren _ _) | (simp [ints_ren, AV.ren, ABlk.ren, AC.ren, AE.ren, qq]; done)) rfl (by (repeat (first | exact trivial | refine ⟨⟨(by first | exact .inl (by decide) | exact .inr (by decide)), (by first | (refine Or.inl ?_; first | rfl | exact congrArg some (ints_ren _ _).symm | exact congrArg ABlk.own (ints_ren _ _).symm | exact congrArg some (tab64_ren _).symm) | rfl | exact congrArg some (ints_ren _ _).symm | exact congrArg ABlk.own (ints_ren _ _).symm | exact congrArg some (tab64_ren _).symm | exact Or.inr ⟨rfl, rfl⟩)⟩, ?_⟩))) (by first | rfl | exact congrArg AV.g (ints_ren _ _) | (simp [ints_ren, AV.ren, ABlk.ren, AC.ren, AE.ren, qq]; done)) ?_
  refine Wk.on ?_
  exact AH.Fin.nil [] ⟨rfl, rfl, rfl⟩ (by first | exact trivial | (simp [tupA, hpLt, tmLt, AV.lt, AE.lt, AC.lt, LL_cons, LL_nil, idOk, ABlk.lt, ints_LL, GB, tab64_LL, gC, wB, giC, noneB, gst, tC, pC]; done) | (simp [tupA, hpLt, tmLt, AV.lt, AE.lt, AC.lt, LL_cons, LL_nil, idOk, ABlk.lt, ints_LL, GB, tab64_LL, gC, wB, giC, noneB, gst, tC, pC, rdn, wrn]; done)) trivial trivial rfl (by simp [GB])
theorem winsBad_spec {g : Gm} (hg : g.game) {l : List UInt8} (hl : l.length ≤ 1000) (h : okPos g.ws.length l = false) (c : Bool) : FDet Tryd.prog 40 [.g (gC g 0), .c (.str (bs l)), .c (.bool c)] [(0, wB g), (100002, .ro tab64)] 1 (.t [.c (.bool false), .c (.int .i64 1)]) [] 1 := by
  have hc := chk_bad hg hl h
  refine FSpec.of_body tok true Tryd.func40 rfl (by kernel_rfl) (by decide) (by simp [tupA, hpLt, tmLt, AV.lt, AE.lt, AC.lt, LL_cons, LL_nil, idOk, ABlk.lt, ints_LL, GB, tab64_LL, gC, wB, giC, noneB, gst, tC, pC]) (by simp [tupA, hpLt, tmLt, AV.lt, AE.lt, AC.lt, LL_cons, LL_nil, idOk, ABlk.lt, ints_LL, GB, tab64_LL, gC, wB, giC, noneB, gst, tC, pC]) (by show 3 ≤ _; decide) ?_
  refine Wk.on ?_
  refine CallA.ro [0] (.c (.int .i64 1)) (hc) (by first | rfl | exact congrArg AV.g (ints_ren _ _) | (simp [ints_ren, AV.ren, ABlk.ren, AC.ren, AE.ren, qq]; done)) rfl (by (repeat (first | exact trivial | refine ⟨⟨(by first | exact .inl (by decide) | exact .inr (by decide)), (by first | (refine Or.inl ?_; first | rfl | exact congrArg some (ints_ren _ _).symm | exact congrArg ABlk.own (ints_ren _ _).symm | exact congrArg some (tab64_ren _).symm) | rfl | exact congrArg some (ints_ren _ _).symm | exact congrArg ABlk.own (ints_ren _ _).symm | exact congrArg some (tab64_ren _).symm | exact Or.inr ⟨rfl, rfl⟩)⟩, ?_⟩))) (by first | rfl | exact congrArg AV.g (ints_ren _ _) | (simp [ints_ren, AV.ren, ABlk.ren, AC.ren, AE.ren, qq]; done)) ?_
  refine Wk.on ?_
  exact AH.Fin.nil [] ⟨rfl, rfl, rfl⟩ (by first | exact trivial | (simp [tupA, hpLt, tmLt, AV.lt, AE.lt, AC.lt, LL_cons, LL_nil, idOk, ABlk.lt, ints_LL, GB, tab64_LL, gC, wB, giC, noneB, gst, tC, pC]; done) | (simp [tupA, hpLt, tmLt, AV.lt, AE.lt, AC.lt, LL_cons, LL_nil, idOk, ABlk.lt, ints_LL, GB, tab64_LL, gC, wB, giC, noneB, gst, tC, pC, rdn, wrn]; done)) trivial trivial rfl (by simp [GB])
theorem bestBad_spec {g : Gm} (hg : g.game) {l : List UInt8} (hl : l.length ≤ 1000) (h : okPos g.ws.length l = false) (c : Bool) : FDet Tryd.prog 43 [.g (gC g 0), .c (.str (bs l)), .c (.bool c)] [(0, wB g), (100002, .ro tab64)] 1 (.t [.c (.int .i64 0), .c (.bool false), .c (.int .i64 1)]) [] 1 := by
  have hc := chk_bad hg hl h
  refine FSpec.of_body tok true Tryd.func43 rfl (by kernel_rfl) (by decide) (by simp [tupA, hpLt, tmLt, AV.lt, AE.lt, AC.lt, LL_cons, LL_nil, idOk, ABlk.lt, ints_LL, GB, tab64_LL, gC, wB, giC, noneB, gst, tC, pC]) (by simp [tupA, hpLt, tmLt, AV.lt, AE.lt, AC.lt, LL_cons, LL_nil, idOk, ABlk.lt, ints_LL, GB, tab64_LL, gC, wB, giC, noneB, gst, tC, pC]) (by show 3 ≤ _; decide) ?_
  refine Wk.on ?_
  refine CallA.ro [0] (.c (.int .i64 1)) (hc) (by first | rfl | exact congrArg AV.g (ints_ren _ _) | (simp [ints_ren, AV.ren, ABlk.ren, AC.ren, AE.ren, qq]; done)) rfl (by (repeat (first | exact trivial | refine ⟨⟨(by first | exact .inl (by decide) | exact .inr (by decide)), (by first | (refine Or.inl ?_; first | rfl | exact congrArg some (ints_ren _ _).symm | exact congrArg ABlk.own (ints_ren _ _).symm | exact congrArg some (tab64_ren _).symm) | rfl | exact congrArg some (ints_ren _ _).symm | exact congrArg ABlk.own (ints_ren _ _).symm | exact congrArg some (tab64_ren _).symm | exact Or.inr ⟨rfl, rfl⟩)⟩, ?_⟩))) (by first | rfl | exact congrArg AV.g (ints_ren _ _) | (simp [ints_ren, AV.ren, ABlk.ren, AC.ren, AE.ren, qq]; done)) ?_
  refine Wk.on ?_
  exact AH.Fin.nil [] ⟨rfl, rfl, rfl⟩ (by first | exact trivial | (simp [tupA, hpLt, tmLt, AV.lt, AE.lt, AC.lt, LL_cons, LL_nil, idOk, ABlk.lt, ints_LL, GB, tab64_LL, gC, wB, giC, noneB, gst, tC, pC]; done) | (simp [tupA, hpLt, tmLt, AV.lt, AE.lt, AC.lt, LL_cons, LL_nil, idOk, ABlk.lt, ints_LL, GB, tab64_LL, gC, wB, giC, noneB, gst, tC, pC, rdn, wrn]; done)) trivial trivial rfl (by simp [GB])
theorem winsP_spec {g : Gm} (hg : g.game) {f k : Nat} (hf : f < 2 ^ g.ws.length) (hk : k < 2 ^ g.ws.length) (hd : ∀ i, f.testBit i = true → k.testBit i = false) (c : Bool) : FDet Tryd.prog 40 [.g (gC g 0), .c (.str (posB g.ws.length f k)), .c (.bool c)] [(0, wB g), (100002, .ro tab64)] 1 (.t [.c (.bool (W g f k c)), .c (.int .i64 0)]) [] 1 := by
  have hc := chk_pos hg f k
  have hr := read_spec hg.ok.len hf hk hd
  have hS := short_all hg.ok f hf k c hk
  refine FSpec.of_body tok true Tryd.func40 rfl (by kernel_rfl) (by decide) (by simp [tupA, hpLt, tmLt, AV.lt, AE.lt, AC.lt, LL_cons, LL_nil, idOk, ABlk.lt, ints_LL, GB, tab64_LL, gC, wB, giC, noneB, gst, tC, pC]) (by simp [tupA, hpLt, tmLt, AV.lt, AE.lt, AC.lt, LL_cons, LL_nil, idOk, ABlk.lt, ints_LL, GB, tab64_LL, gC, wB, giC, noneB, gst, tC, pC]) (by show 3 ≤ _; decide) ?_
  refine Wk.on ?_
  refine CallA.ro [0] (.c (.int .i64 0)) (hc) (by first | rfl | exact congrArg AV.g (ints_ren _ _) | (simp [ints_ren, AV.ren, ABlk.ren, AC.ren, AE.ren, qq]; done)) rfl (by (repeat (first | exact trivial | refine ⟨⟨(by first | exact .inl (by decide) | exact .inr (by decide)), (by first | (refine Or.inl ?_; first | rfl | exact congrArg some (ints_ren _ _).symm | exact congrArg ABlk.own (ints_ren _ _).symm | exact congrArg some (tab64_ren _).symm) | rfl | exact congrArg some (ints_ren _ _).symm | exact congrArg ABlk.own (ints_ren _ _).symm | exact congrArg some (tab64_ren _).symm | exact Or.inr ⟨rfl, rfl⟩)⟩, ?_⟩))) (by first | rfl | exact congrArg AV.g (ints_ren _ _) | (simp [ints_ren, AV.ren, ABlk.ren, AC.ren, AE.ren, qq]; done)) ?_
  refine Wk.on ?_
  refine CallA.det [0] (.c (.ptr 3 0)) ([(1, .own (gC g 0)), (0, wB g), (100002, .ro tab64), (2, .mi (MI g)), (3, .own (pC g 0 2))]) (newP_mi g) (by first | rfl | exact congrArg AV.g (ints_ren _ _) | (simp [ints_ren, AV.ren, ABlk.ren, AC.ren, AE.ren, qq]; done)) rfl (by (repeat (first | exact trivial | refine ⟨⟨(by first | exact .inl (by decide) | exact .inr (by decide)), (by first | (refine Or.inl ?_; first | rfl | exact congrArg some (ints_ren _ _).symm | exact congrArg ABlk.own (ints_ren _ _).symm | exact congrArg some (tab64_ren _).symm) | rfl | exact congrArg some (ints_ren _ _).symm | exact congrArg ABlk.own (ints_ren _ _).symm | exact congrArg some (tab64_ren _).symm | exact Or.inr ⟨rfl, rfl⟩)⟩, ?_⟩))) (by first | rfl | exact congrArg AV.g (ints_ren _ _) | (simp [ints_ren, AV.ren, ABlk.ren, AC.ren, AE.ren, qq]; done)) (by first | rfl | (simp [behind, gone, lk, up, del, qq, ABlk.wr, GB, ints_ren, AV.ren, ABlk.ren, AC.ren, AE.ren]; done) | (simp [behind, gone, lk, up, del, qq, ABlk.wr, GB, ints_ren, AV.ren, ABlk.ren, AC.ren, AE.ren]; rfl)) ?_
  refine Wk.on ?_
  refine CallA.ro [] (.g [.int .i64 f, .int .i64 k]) (hr) (by first | rfl | exact congrArg AV.g (ints_ren _ _) | (simp [ints_ren, AV.ren, ABlk.ren, AC.ren, AE.ren, qq]; done)) rfl (by (repeat (first | exact trivial | refine ⟨⟨(by first | exact .inl (by decide) | exact .inr (by decide)), (by first | (refine Or.inl ?_; first | rfl | exact congrArg some (ints_ren _ _).symm | exact congrArg ABlk.own (ints_ren _ _).symm | exact congrArg some (tab64_ren _).symm) | rfl | exact congrArg some (ints_ren _ _).symm | exact congrArg ABlk.own (ints_ren _ _).symm | exact congrArg some (tab64_ren _).symm | exact Or.inr ⟨rfl, rfl⟩)⟩, ?_⟩))) (by first | rfl | exact congrArg AV.g (ints_ren _ _) | (simp [ints_ren, AV.ren, ABlk.ren, AC.ren, AE.ren, qq]; done)) ?_
  refine Wk.on ?_
  refine CallA.det [0, 3, 2] (.c (.bool (W g f k c))) ([(1, .own (gC g 0)), (0, wB g), (100002, .ro tab64), (3, .own (pC g 0 2)), (2, .mi (MI g))]) (hS) (by first | rfl | exact congrArg AV.g (ints_ren _ _) | (simp [ints_ren, AV.ren, ABlk.ren, AC.ren, AE.ren, qq]; done)) rfl (by (repeat (first | exact trivial | refine ⟨⟨(by first | exact .inl (by decide) | exact .inr (by decide)), (by first | (refine Or.inl ?_; first | rfl | exact congrArg some (ints_ren _ _).symm | exact congrArg ABlk.own (ints_ren _ _).symm | exact congrArg some (tab64_ren _).symm) | rfl | exact congrArg some (ints_ren _ _).symm | exact congrArg ABlk.own (ints_ren _ _).symm | exact congrArg some (tab64_ren _).symm | exact Or.inr ⟨rfl, rfl⟩)⟩, ?_⟩))) (by first | rfl | exact congrArg AV.g (ints_ren _ _) | (simp [ints_ren, AV.ren, ABlk.ren, AC.ren, AE.ren, qq]; done)) (by first | rfl | (simp [behind, gone, lk, up, del, qq, ABlk.wr, GB, ints_ren, AV.ren, ABlk.ren, AC.ren, AE.ren]; done) | (simp [behind, gone, lk, up, del, qq, ABlk.wr, GB, ints_ren, AV.ren, ABlk.ren, AC.ren, AE.ren]; rfl)) ?_
  refine Wk.on ?_
  exact AH.Fin.nil [] ⟨rfl, rfl, rfl⟩ (by first | exact trivial | (simp [tupA, hpLt, tmLt, AV.lt, AE.lt, AC.lt, LL_cons, LL_nil, idOk, ABlk.lt, ints_LL, GB, tab64_LL, gC, wB, giC, noneB, gst, tC, pC]; done) | (simp [tupA, hpLt, tmLt, AV.lt, AE.lt, AC.lt, LL_cons, LL_nil, idOk, ABlk.lt, ints_LL, GB, tab64_LL, gC, wB, giC, noneB, gst, tC, pC, rdn, wrn]; done)) trivial trivial rfl (by simp [GB])
theorem bestP_spec {g : Gm} (hg : g.game) {f k : Nat} (hf : f < 2 ^ g.ws.length) (hk : k < 2 ^ g.ws.length) (hd : ∀ i, f.testBit i = true → k.testBit i = false) (c : Bool) : FDet Tryd.prog 43 [.g (gC g 0), .c (.str (posB g.ws.length f k)), .c (.bool c)] [(0, wB g), (100002, .ro tab64)] 1 (.t [.c (.int .i64 ((goodO g f k c).getD 0)), .c (.bool (goodO g f k c).isSome), .c (.int .i64 0)]) [] 1 := by
  have hc := chk_pos hg f k
  have hr := read_spec hg.ok.len hf hk hd
  have hG := good_of_short hg.ok hf (fun f' h => short_all hg.ok f' (by omega)) k c hk
  refine FSpec.of_body tok true Tryd.func43 rfl (by kernel_rfl) (by decide) (by simp [tupA, hpLt, tmLt, AV.lt, AE.lt, AC.lt, LL_cons, LL_nil, idOk, ABlk.lt, ints_LL, GB, tab64_LL, gC, wB, giC, noneB, gst, tC, pC]) (by simp [tupA, hpLt, tmLt, AV.lt, AE.lt, AC.lt, LL_cons, LL_nil, idOk, ABlk.lt, ints_LL, GB, tab64_LL, gC, wB, giC, noneB, gst, tC, pC]) (by show 3 ≤ _; decide) ?_
  refine Wk.on ?_
  refine CallA.ro [0] (.c (.int .i64 0)) (hc) (by first | rfl | exact congrArg AV.g (ints_ren _ _) | (simp [ints_ren, AV.ren, ABlk.ren, AC.ren, AE.ren, qq]; done)) rfl (by (repeat (first | exact trivial | refine ⟨⟨(by first | exact .inl (by decide) | exact .inr (by decide)), (by first | (refine Or.inl ?_; first | rfl | exact congrArg some (ints_ren _ _).symm | exact congrArg ABlk.own (ints_ren _ _).symm | exact congrArg some (tab64_ren _).symm) | rfl | exact congrArg some (ints_ren _ _).symm | exact congrArg ABlk.own (ints_ren _ _).symm | exact congrArg some (tab64_ren _).symm | exact Or.inr ⟨rfl, rfl⟩)⟩, ?_⟩))) (by first | rfl | exact congrArg AV.g (ints_ren _ _) | (simp [ints_ren, AV.ren, ABlk.ren, AC.ren, AE.ren, qq]; done)) ?_
  refine Wk.on ?_
  refine CallA.det [0] (.c (.ptr 3 0)) ([(1, .own (gC g 0)), (0, wB g), (100002, .ro tab64), (2, .mi (MI g)), (3, .own (pC g 0 2))]) (newP_mi g) (by first | rfl | exact congrArg AV.g (ints_ren _ _) | (simp [ints_ren, AV.ren, ABlk.ren, AC.ren, AE.ren, qq]; done)) rfl (by (repeat (first | exact trivial | refine ⟨⟨(by first | exact .inl (by decide) | exact .inr (by decide)), (by first | (refine Or.inl ?_; first | rfl | exact congrArg some (ints_ren _ _).symm | exact congrArg ABlk.own (ints_ren _ _).symm | exact congrArg some (tab64_ren _).symm) | rfl | exact congrArg some (ints_ren _ _).symm | exact congrArg ABlk.own (ints_ren _ _).symm | exact congrArg some (tab64_ren _).symm | exact Or.inr ⟨rfl, rfl⟩)⟩, ?_⟩))) (by first | rfl | exact congrArg AV.g (ints_ren _ _) | (simp [ints_ren, AV.ren, ABlk.ren, AC.ren, AE.ren, qq]; done)) (by first | rfl | (simp [behind, gone, lk, up, del, qq, ABlk.wr, GB, ints_ren, AV.ren, ABlk.ren, AC.ren, AE.ren]; done) | (simp [behind, gone, lk, up, del, qq, ABlk.wr, GB, ints_ren, AV.ren, ABlk.ren, AC.ren, AE.ren]; rfl)) ?_
  refine Wk.on ?_
  refine CallA.ro [] (.g [.int .i64 f, .int .i64 k]) (hr) (by first | rfl | exact congrArg AV.g (ints_ren _ _) | (simp [ints_ren, AV.ren, ABlk.ren, AC.ren, AE.ren, qq]; done)) rfl (by (repeat (first | exact trivial | refine ⟨⟨(by first | exact .inl (by decide) | exact .inr (by decide)), (by first | (refine Or.inl ?_; first | rfl | exact congrArg some (ints_ren _ _).symm | exact congrArg ABlk.own (ints_ren _ _).symm | exact congrArg some (tab64_ren _).symm) | rfl | exact congrArg some (ints_ren _ _).symm | exact congrArg ABlk.own (ints_ren _ _).symm | exact congrArg some (tab64_ren _).symm | exact Or.inr ⟨rfl, rfl⟩)⟩, ?_⟩))) (by first | rfl | exact congrArg AV.g (ints_ren _ _) | (simp [ints_ren, AV.ren, ABlk.ren, AC.ren, AE.ren, qq]; done)) ?_
  refine Wk.on ?_
  refine CallA.det [0, 3, 2] (.t [.c (.int .i64 ((goodO g f k c).getD 0)), .c (.bool (goodO g f k c).isSome)]) ([(1, .own (gC g 0)), (0, wB g), (100002, .ro tab64), (3, .own (pC g 0 2)), (2, .mi (MI g))]) (hG) (by first | rfl | exact congrArg AV.g (ints_ren _ _) | (simp [ints_ren, AV.ren, ABlk.ren, AC.ren, AE.ren, qq]; done)) rfl (by (repeat (first | exact trivial | refine ⟨⟨(by first | exact .inl (by decide) | exact .inr (by decide)), (by first | (refine Or.inl ?_; first | rfl | exact congrArg some (ints_ren _ _).symm | exact congrArg ABlk.own (ints_ren _ _).symm | exact congrArg some (tab64_ren _).symm) | rfl | exact congrArg some (ints_ren _ _).symm | exact congrArg ABlk.own (ints_ren _ _).symm | exact congrArg some (tab64_ren _).symm | exact Or.inr ⟨rfl, rfl⟩)⟩, ?_⟩))) (by first | rfl | exact congrArg AV.g (ints_ren _ _) | (simp [ints_ren, AV.ren, ABlk.ren, AC.ren, AE.ren, qq]; done)) (by first | rfl | (simp [behind, gone, lk, up, del, qq, ABlk.wr, GB, ints_ren, AV.ren, ABlk.ren, AC.ren, AE.ren]; done) | (simp [behind, gone, lk, up, del, qq, ABlk.wr, GB, ints_ren, AV.ren, ABlk.ren, AC.ren, AE.ren]; rfl)) ?_
  refine Wk.on ?_
  exact AH.Fin.nil [] ⟨rfl, rfl, rfl⟩ (by first | exact trivial | (simp [tupA, hpLt, tmLt, AV.lt, AE.lt, AC.lt, LL_cons, LL_nil, idOk, ABlk.lt, ints_LL, GB, tab64_LL, gC, wB, giC, noneB, gst, tC, pC]; done) | (simp [tupA, hpLt, tmLt, AV.lt, AE.lt, AC.lt, LL_cons, LL_nil, idOk, ABlk.lt, ints_LL, GB, tab64_LL, gC, wB, giC, noneB, gst, tC, pC, rdn, wrn]; done)) trivial trivial rfl (by simp [GB])
end Go.Proofs.YtfphkpdobbffeaaDoor

/-
  Contracts at games without wires; the law SwitchPositions, as a contract.
-/
namespace Go.Proofs.YtfphkpdobbffeaaDoor
open Go Go.AH
set_option maxRecDepth 100000
set_option maxHeartbeats 1000000

theorem nilW {g : Gm} (h : g.ws = []) {fn : FuncId} {args : List AV} {r : AV} {k' : Nat} (h1 : FDet Tryd.prog fn (.g (gC g 0) :: args) [(0, wB g), (100002, .ro tab64)] 1 r [] k')
    (hw : wkVs [(0, .ro []), (100002, .ro tab64)] args args) (ha : ∀ v ∈ args, v.all (· ≠ 0)) (hr : r.all (· ≠ 0)) : FDet Tryd.prog fn (.g (gN g) :: args) [(100002, .ro tab64)] 1 r [] k' := by
  rw [show wB g = .ro [] by rw [wB, h]; rfl] at h1
  refine FDet.nil0 h1 _ 100002 tab64 rfl ⟨.inr ⟨rfl, rfl, rfl, by show g.ws.length = 0; rw [h]; rfl, trivial⟩, hw⟩ ?_ ?_ hr
  · intro v hv
    rcases List.mem_cons.1 hv with rfl | hv
    · exact gN_all g _ _ (by simp)
    · exact ha v hv
  · intro p hp; simp at hp; subst hp; exact ⟨by decide, tab_all _⟩
theorem nilR {g : Gm} (h : g.ws = []) {fn : FuncId} {args : List AV} {r : AV} {k' : Nat} (h1 : FDet Tryd.prog fn (.g (gC g 0) :: args) [(0, wB g)] 1 r [] k')
    (hw : wkVs [(0, wB g), (100002, .ro tab64)] args args) (hw2 : wkVs [(0, .ro []), (100002, .ro tab64)] args args) (ha : ∀ v ∈ args, v.all (· ≠ 0)) (hr : r.all (· ≠ 0)) : FDet Tryd.prog fn (.g (gN g) :: args) [(100002, .ro tab64)] 1 r [] k' :=
  nilW h (FDet.wk h1 (args' := .g (gC g 0) :: args) (hp' := [(0, wB g), (100002, .ro tab64)]) ⟨.inl rfl, hw⟩ ⟨.inl rfl, trivial⟩) hw2 ha hr
theorem all1 (x : ByteArray) (p : Nat → Prop) : ∀ v ∈ [AV.c (.str x)], v.all p := by
  intro v hv; simp at hv; subst hv; trivial
theorem all2 (x : ByteArray) (b : Bool) (p : Nat → Prop) : ∀ v ∈ [AV.c (.str x), .c (.bool b)], v.all p := by
  intro v hv; simp at hv; rcases hv with rfl | rfl <;> trivial
theorem all_t2 (a b : AC) (ha : a.prim = true) (hb : b.prim = true) (p : Nat → Prop) : AV.all p (.t [.c a, .c b]) := by
  intro e he; simp at he; rcases he with rfl | rfl
  · cases a <;> first | trivial | cases ha
  · cases b <;> first | trivial | cases hb
theorem all_t3 (a b c : AC) (ha : a.prim = true) (hb : b.prim = true) (hc : c.prim = true) (p : Nat → Prop) : AV.all p (.t [.c a, .c b, .c c]) := by
  intro e he; simp at he; rcases he with rfl | rfl | rfl
  · cases a <;> first | trivial | cases ha
  · cases b <;> first | trivial | cases hb
  · cases c <;> first | trivial | cases hc
theorem checkPos_nil {g : Gm} (hg : g.game) (h : g.ws = []) (l : List UInt8) (hl : l.length ≤ 1000) : FDet Tryd.prog 47 [.g (gN g), .c (.str (bs l))] [(100002, .ro tab64)] 1 (.c (.int .i64 (cond (okPos g.ws.length l) 0 1))) [] 1 :=
  nilW h (checkPos_spec hg l hl) ⟨rfl, trivial⟩ (all1 _ _) trivial
theorem joinedP_nil {g : Gm} (hg : g.game) (h : g.ws = []) {f k : Nat} (hf : f < 2 ^ g.ws.length) (hk : k < 2 ^ g.ws.length) (hd : ∀ i, f.testBit i = true → k.testBit i = false) : FDet Tryd.prog 48 [.g (gN g), .c (.str (posB g.ws.length f k))] [(100002, .ro tab64)] 1 (.t [.c (.bool (joinedB g k)), .c (.int .i64 0)]) [] 1 :=
  nilW h (joinedP_spec hg hf hk hd) ⟨rfl, trivial⟩ (all1 _ _) (all_t2 _ _ rfl rfl _)
theorem winsP_nil {g : Gm} (hg : g.game) (h : g.ws = []) {f k : Nat} (hf : f < 2 ^ g.ws.length) (hk : k < 2 ^ g.ws.length) (hd : ∀ i, f.testBit i = true → k.testBit i = false) (c : Bool) : FDet Tryd.prog 40 [.g (gN g), .c (.str (posB g.ws.length f k)), .c (.bool c)] [(100002, .ro tab64)] 1 (.t [.c (.bool (W g f k c)), .c (.int .i64 0)]) [] 1 :=
  nilW h (winsP_spec hg hf hk hd c) ⟨rfl, rfl, trivial⟩ (all2 _ _ _) (all_t2 _ _ rfl rfl _)
theorem bestP_nil {g : Gm} (hg : g.game) (h : g.ws = []) {f k : Nat} (hf : f < 2 ^ g.ws.length) (hk : k < 2 ^ g.ws.length) (hd : ∀ i, f.testBit i = true → k.testBit i = false) (c : Bool) : FDet Tryd.prog 43 [.g (gN g), .c (.str (posB g.ws.length f k)), .c (.bool c)] [(100002, .ro tab64)] 1 (.t [.c (.int .i64 ((goodO g f k c).getD 0)), .c (.bool (goodO g f k c).isSome), .c (.int .i64 0)]) [] 1 :=
  nilW h (bestP_spec hg hf hk hd c) ⟨rfl, rfl, trivial⟩ (all2 _ _ _) (all_t3 _ _ _ rfl rfl rfl _)
theorem joinedBad_nil {g : Gm} (hg : g.game) (h : g.ws = []) {l : List UInt8} (hl : l.length ≤ 1000) (hb : okPos g.ws.length l = false) : FDet Tryd.prog 48 [.g (gN g), .c (.str (bs l))] [(100002, .ro tab64)] 1 (.t [.c (.bool false), .c (.int .i64 1)]) [] 1 :=
  nilW h (joinedBad_spec hg hl hb) ⟨rfl, trivial⟩ (all1 _ _) (all_t2 _ _ rfl rfl _)
theorem winsBad_nil {g : Gm} (hg : g.game) (h : g.ws = []) {l : List UInt8} (hl : l.length ≤ 1000) (hb : okPos g.ws.length l = false) (c : Bool) : FDet Tryd.prog 40 [.g (gN g), .c (.str (bs l)), .c (.bool c)] [(100002, .ro tab64)] 1 (.t [.c (.bool false), .c (.int .i64 1)]) [] 1 :=
  nilW h (winsBad_spec hg hl hb c) ⟨rfl, rfl, trivial⟩ (all2 _ _ _) (all_t2 _ _ rfl rfl _)
theorem bestBad_nil {g : Gm} (hg : g.game) (h : g.ws = []) {l : List UInt8} (hl : l.length ≤ 1000) (hb : okPos g.ws.length l = false) (c : Bool) : FDet Tryd.prog 43 [.g (gN g), .c (.str (bs l)), .c (.bool c)] [(100002, .ro tab64)] 1 (.t [.c (.int .i64 0), .c (.bool false), .c (.int .i64 1)]) [] 1 :=
  nilW h (bestBad_spec hg hl hb c) ⟨rfl, rfl, trivial⟩ (all2 _ _ _) (all_t3 _ _ _ rfl rfl rfl _)
theorem positionR_nil {g : Gm} (hg : g.ok) (h : g.ws = []) (l : List UInt8) (hl : l.length ≤ 1000) : FDet Tryd.prog 49 [.g (gN g), .c (.str (bs l))] [(100002, .ro tab64)] 1 (.c (.bool (okPos g.ws.length l))) [] 1 :=
  nilR h (positionR_spec hg l hl) ⟨rfl, trivial⟩ ⟨rfl, trivial⟩ (all1 _ _) trivial
theorem position_nil {g : Gm} (hg : g.ok) (h : g.ws = []) (l : List UInt8) : FDet Tryd.prog 41 [.g (gN g), .c (.str (bs l))] [(100002, .ro tab64)] 1 (.c (.str (bs (posOf l g.ws.length)))) [] 1 :=
  nilR h (position_spec hg l) ⟨rfl, trivial⟩ ⟨rfl, trivial⟩ (all1 _ _) trivial
theorem joinedR_nil {g : Gm} (hg : g.ok) (h : g.ws = []) {f k : Nat} (hk : k < 2 ^ g.ws.length) (hd : ∀ i, f.testBit i = true → k.testBit i = false) : FDet Tryd.prog 50 [.g (gN g), .c (.str (posB g.ws.length f k))] [(100002, .ro tab64)] 1 (.c (.bool (joinedB g k))) [] 1 :=
  nilR h (joinedR_spec hg hk hd) ⟨rfl, trivial⟩ ⟨rfl, trivial⟩ (all1 _ _) trivial
end Go.Proofs.YtfphkpdobbffeaaDoor

/-
  Plain law: a tree on some places, by both.
-/
namespace Go.Proofs.YtfphkpdobbffeaaDoor
open Go Go.AH
set_option maxRecDepth 100000
set_option maxHeartbeats 1000000

theorem scan_gen (l : List Int) (pl n : Nat) : ∀ f k (first : Int), f + k = n → 0 ≤ first → (scanF l pl f k first = true ↔ ∀ j, k ≤ j → j < n → pl.testBit j = true → l.getD j 0 = first)
  | 0, k, first, h, _ => by
    simp only [scanF, true_iff]
    exact fun j h1 h2 => by omega
  | f + 1, k, first, h, h0 => by
    have hb := bit_test pl k
    have hb1 := bit_01 pl k
    rw [scanF]
    split
    · rename_i e
      rw [scan_gen l pl n f (k + 1) first (by omega) h0]
      constructor
      · intro h j h1 h2 h3
        by_cases hj : j = k
        · subst hj; rw [hb.2 h3] at e; omega
        · exact h j (by omega) h2 h3
      · exact fun h j h1 h2 => h j (by omega) h2
    · rename_i e
      simp only [if_neg (show ¬ first < 0 by omega)]
      split
      · rename_i e
        rw [scan_gen l pl n f (k + 1) first (by omega) h0]
        constructor
        · intro h j h1 h2 h3
          by_cases hj : j = k
          · rw [hj]; exact e
          · exact h j (by omega) h2 h3
        · exact fun h j h1 h2 => h j (by omega) h2
      · rename_i e2
        simp only [Bool.false_eq_true, false_iff]
        exact fun h => e2 (h k (by omega) (by omega) (hb.1 (by omega)))
theorem scan_start (l : List Int) (pl n : Nat) (hl : ∀ i, i < n → 0 ≤ l.getD i 0) : ∀ f k, f + k = n → (scanF l pl f k (-1) = true ↔ ∀ i j, k ≤ i → i < n → k ≤ j → j < n → pl.testBit i = true → pl.testBit j = true → l.getD i 0 = l.getD j 0)
  | 0, k, h => by
    simp only [scanF, true_iff]
    exact fun i j h1 h2 => by omega
  | f + 1, k, h => by
    have hb := bit_test pl k
    have hb1 := bit_01 pl k
    rw [scanF]
    split
    · rename_i e
      rw [scan_start l pl n hl f (k + 1) (by omega)]
      have ne : ∀ i, pl.testBit i = true → i ≠ k := fun i hi e2 => by subst e2; rw [hb.2 hi] at e; omega
      constructor
      · intro h i j h1 h2 h3 h4 h5 h6
        exact h i j (by have := ne i h5; omega) h2 (by have := ne j h6; omega) h4 h5 h6
      · exact fun h i j h1 h2 h3 h4 => h i j (by omega) h2 (by omega) h4
    · rename_i e
      simp only [show (-1 : Int) < 0 from by decide, if_true]
      rw [scan_gen l pl n f (k + 1) _ (by omega) (hl k (by omega))]
      have hk := hb.1 (by omega)
      constructor
      · intro h i j h1 h2 h3 h4 h5 h6
        have key : ∀ i, k ≤ i → i < n → pl.testBit i = true → l.getD i 0 = l.getD k 0 := fun i h1 h2 h5 => by
          by_cases e : i = k
          · rw [e]
          · exact h i (by omega) h2 h5
        rw [key i h1 h2 h5, key j h3 h4 h6]
      · exact fun h j h1 h2 h3 => h j k (by omega) h2 (by omega) (by omega) h3 hk
theorem countP_split (p q : Nat → Bool) : ∀ l : List Nat, l.countP p = l.countP (fun u => p u && q u) + l.countP (fun u => p u && !q u)
  | [] => rfl
  | a :: l => by
    simp only [List.countP_cons, countP_split p q l]
    cases p a <;> cases q a <;> simp <;> omega
theorem pop_cnt {pl n : Nat} (hn : n ≤ 10) (h : pl < 2 ^ n) : (List.range n).countP pl.testBit = pop pl := by
  rw [pop, memN, range_filter _ 10 hn fun i hi => by
    cases h2 : pl.testBit i with
    | false => rfl
    | true => have := lt_len h h2; omega, List.countP_eq_length_filter]
theorem cnt_is (r : Nat) : ∀ n, (List.range n).countP (fun u => decide (u = r)) = if r < n then 1 else 0
  | 0 => by simp
  | n + 1 => by
    have e1 : [n].countP (fun u => decide (u = r)) = if n = r then 1 else 0 := by simp [List.countP_cons]
    rw [List.range_succ, List.countP_append, cnt_is r n, e1]
    split <;> split <;> split <;> omega
/-- All places of pl lie in one group. -/
def oneG (xs : List Int) (pl : Nat) : Prop := ∀ u v, pl.testBit u = true → pl.testBit v = true → root xs u = root xs v
def rootsIn (xs : List Int) (pl n : Nat) : Nat := (List.range n).countP fun u => decide (root xs u = u) && pl.testBit u
theorem rootsIn_one {xs : List Int} (h : Grp xs) {pl n : Nat} (hn : n ≤ 8) (hpl : pl < 2 ^ n) (h0 : pl ≠ 0) (hL : ∀ u, u < 8 → pl.testBit u = false → ∀ v, v < 8 → v ≠ u → root xs v ≠ u) : rootsIn xs pl n = 1 ↔ oneG xs pl := by
  have inn : ∀ u, pl.testBit u = true → u < n := fun u hu => lt_len hpl hu
  have rin : ∀ u, pl.testBit u = true → pl.testBit (root xs u) = true := fun u hu => by
    have hu8 := inn u hu
    have hr := root_le h (show u < 8 by omega)
    cases e : pl.testBit (root xs u) with
    | true => rfl
    | false =>
      exact absurd rfl (hL (root xs u) (by omega) e u (by omega) (fun e2 => by rw [← e2, hu] at e; cases e))
  constructor
  · intro hk u v hu hv
    have hu8 := inn u hu
    have hv8 := inn v hv
    have hru := root_le h (show u < 8 by omega)
    have hrv := root_le h (show v < 8 by omega)
    have hm := cnt_rm (fun u => decide (root xs u = u) && pl.testBit u) (root xs u) (by simp [root_root h (show u < 8 by omega), rin u hu]) n
    rw [if_pos (by omega)] at hm
    unfold rootsIn at hk
    have hz : (List.range n).countP (fun w => (decide (root xs w = w) && pl.testBit w) && decide (w ≠ root xs u)) = 0 := by omega
    rw [List.countP_eq_zero] at hz
    have := hz (root xs v) (List.mem_range.2 (by omega))
    rw [root_root h (by omega), rin v hv] at this
    simp at this
    exact this.symm
  · intro ho
    obtain ⟨u0, hu0⟩ : ∃ u0, pl.testBit u0 = true := Nat.exists_testBit_of_ne_zero h0
    have hu8 := inn u0 hu0
    have hr0 := root_le h (show u0 < 8 by omega)
    unfold rootsIn
    rw [List.countP_congr (q := fun u => decide (u = root xs u0)) fun u hu => ?_, cnt_is, if_pos (by omega)]
    simp only [Bool.and_eq_true, decide_eq_true_eq]
    constructor
    · rintro ⟨h1, h2⟩
      rw [← h1]; exact ho u u0 h2 hu0
    · rintro rfl
      exact ⟨root_root h (by omega), rin u0 hu0⟩
theorem tree_pl {g : Gm} (hg : g.ok) {b pl : Nat} (hb : b < 2 ^ g.ws.length) (hpl : pl < 2 ^ g.n) (h2 : 2 ≤ pop pl) : isTreeB g b pl = treeR g b pl := by
  have h8 := hg.n8
  have hl10 := hg.len
  have hG : Grp (keptL g b) := Grp.fold hg (mem b) _ Grp.alone fun y hy => (mem_lt hl10 hb hy).2
  have hac := acy_comps hg (mem b) (aloneSt 8) Grp.alone fun y hy => (mem_lt hl10 hb hy).2
  rw [show (mem b).foldl (joinF g) (aloneSt 8) = keptL g b from rfl, comps_alone h8, show (mem b).length = pop b from by simp [mem, pop]] at hac
  have hlab := labels hg b g.ws.length (Nat.le_refl _)
  rw [← kept_eq hg hb] at hlab
  have hp0 : pl ≠ 0 := fun e => by subst e; revert h2; decide
  have hp2 : 2 ^ g.ws.length ≤ 1024 := Nat.pow_le_pow_right (by omega) hl10
  have hpc := pop_cnt (show g.n ≤ 10 by omega) hpl
  have tch : ∀ u, u < 8 → (mem b).any (endOf g u) = false → root (keptL g b) u = u ∧ ∀ v, v < 8 → v ≠ u → root (keptL g b) v ≠ u := fun u hu hf =>
    lone hg hu (mem b) (aloneSt 8) Grp.alone (fun y hy => (mem_lt hl10 hb hy).2) (fun y hy => by
      cases h : endOf g u y with
      | false => rfl
      | true => rw [List.any_eq_false] at hf; exact absurd h (hf y hy)) (alone_root (by omega)) (fun v hv hne => by rw [alone_root hv]; exact hne)
  have hpb : ∀ u, (placesN g b).testBit u = (mem b).any (endOf g u) := fun u => by rw [placesN, places_bit, Nat.zero_testBit, Bool.false_or]
  -- the groups, counted
  have cnt : (∀ u, u < 8 → pl.testBit u = false → (mem b).any (endOf g u) = false) → comps (keptL g b) g.n + pop pl = rootsIn (keptL g b) pl g.n + g.n := fun H => by
    have e1 := countP_split (fun u => decide (root (keptL g b) u = u)) pl.testBit (List.range g.n)
    have e2 : (List.range g.n).countP (fun u => decide (root (keptL g b) u = u) && !pl.testBit u) = (List.range g.n).countP (fun u => true && !pl.testBit u) := List.countP_congr fun u hu => by
      have hu8 := List.mem_range.1 hu
      cases e : pl.testBit u with
      | true => simp
      | false => simp [(tch u (by omega) (H u (by omega) e)).1]
    have e3 := countP_split (fun _ => true) pl.testBit (List.range g.n)
    have e4 : (List.range g.n).countP (fun u => true && pl.testBit u) = pop pl := by rw [← hpc]; exact List.countP_congr fun u _ => by simp
    have e5 : (List.range g.n).countP (fun _ => true) = g.n := by simp
    unfold comps rootsIn
    rw [e1, e2]
    omega
  have one := fun (H : ∀ u, u < 8 → pl.testBit u = false → (mem b).any (endOf g u) = false) => rootsIn_one hG h8 hpl hp0 (fun u hu hf v hv hne => (tch u hu (H u hu hf)).2 v hv hne)
  have hsc : scanF (grpR g b g.ws.length) pl g.n 0 (-1) = true ↔ oneG (keptL g b) pl := by
    rw [scan_start _ _ g.n (fun i hi => by rw [hlab i hi]; omega) g.n 0 (by omega)]
    constructor
    · intro h u v hu hv
      have hu8 := lt_len hpl hu
      have hv8 := lt_len hpl hv
      have := h u v (by omega) hu8 (by omega) hv8 hu hv
      rw [hlab u hu8, hlab v hv8] at this
      omega
    · intro h i j _ h1 _ h2 h3 h4
      rw [hlab i h1, hlab j h2, h i j h3 h4]
  have wok : (∀ i, i < g.ws.length → wOk g b pl i = true) ↔ ∀ u, (mem b).any (endOf g u) = true → pl.testBit u = true := by
    constructor
    · intro h u hu
      obtain ⟨y, hy, he⟩ := List.any_eq_true.1 hu
      obtain ⟨i, rfl, hi⟩ := (mem_iff (by omega)).1 hy
      have hil := lt_len hb hi
      have := h i hil
      rw [wOk, (bit_test b i).2 hi] at this
      simp only [endOf, Int.toNat_natCast, Bool.or_eq_true, decide_eq_true_eq] at he
      obtain ⟨w1, hw1⟩ : ∃ w, w = (g.ws.getD i (0, 0)).1 := ⟨_, rfl⟩
      obtain ⟨w2, hw2⟩ : ∃ w, w = (g.ws.getD i (0, 0)).2 := ⟨_, rfl⟩
      rw [← hw1, ← hw2] at this he
      simp at this
      have b1 := bit_01 pl w1
      have b2 := bit_01 pl w2
      rcases he with rfl | rfl
      · exact (bit_test _ _).1 (by omega)
      · exact (bit_test _ _).1 (by omega)
    · intro h i hi
      rw [wOk]
      cases hbi : b.testBit i with
      | false =>
        have : ¬ bit b i = 1 := fun e => by rw [(bit_test b i).1 e] at hbi; cases hbi
        rw [decide_eq_false this]; rfl
      | true =>
        have hm : (i : Int) ∈ mem b := (mem_iff (by omega)).2 ⟨i, rfl, hbi⟩
        have k1 := h (g.ws.getD i (0, 0)).1 (List.any_eq_true.2 ⟨_, hm, by simp [endOf]⟩)
        have k2 := h (g.ws.getD i (0, 0)).2 (List.any_eq_true.2 ⟨_, hm, by simp [endOf]⟩)
        rw [← bit_test] at k1 k2
        rw [k1, k2]; simp
  rw [Bool.eq_iff_iff]
  simp only [isTreeB, treeR, Bool.and_eq_true, decide_eq_true_eq, hac.2, hsc, wok]
  constructor
  · rintro ⟨⟨h3, h4⟩, h5⟩
    have H : ∀ u, u < 8 → pl.testBit u = false → (mem b).any (endOf g u) = false := fun u _ hu => by rw [← hpb, h3]; exact hu
    have hc := cnt H
    exact ⟨⟨fun u hu => by rw [← hpb, h3] at hu; exact hu, (one H).1 (by omega)⟩, h4⟩
  · rintro ⟨⟨h3, h4⟩, h5⟩
    have H : ∀ u, u < 8 → pl.testBit u = false → (mem b).any (endOf g u) = false := fun u _ hu => by
      cases e : (mem b).any (endOf g u) with
      | false => rfl
      | true => rw [h3 u e] at hu; cases hu
    have hc := cnt H
    have hk := (one H).2 h4
    refine ⟨⟨Nat.eq_of_testBit_eq fun u => ?_, h5⟩, by omega⟩
    rw [hpb]
    cases e : pl.testBit u with
    | false =>
      cases e2 : (mem b).any (endOf g u) with
      | false => rfl
      | true => rw [h3 u e2] at e; cases e
    | true =>
      cases e2 : (mem b).any (endOf g u) with
      | true => rfl
      | false =>
        exfalso
        have hu8 := lt_len hpl e
        obtain ⟨t1, t2⟩ := tch u (by omega) e2
        obtain ⟨v, hv, hvu⟩ : ∃ v, pl.testBit v = true ∧ v ≠ u := by
          refine Classical.byContradiction fun hno => ?_
          have hle : (List.range g.n).countP pl.testBit ≤ (List.range g.n).countP (fun v => decide (v = u)) := List.countP_mono_left fun v _ hv => by
            refine decide_eq_true (Classical.byContradiction fun hne => hno ⟨v, hv, hne⟩)
          rw [cnt_is, if_pos hu8, hpc] at hle
          omega
        have hv8 := lt_len hpl hv
        exact t2 v (by omega) hvu (by rw [h4 v u hv e, t1])
end Go.Proofs.YtfphkpdobbffeaaDoor

/-
  Plain law: a cut tree is mended by a wire of the other one.
-/
namespace Go.Proofs.YtfphkpdobbffeaaDoor
open Go Go.AH
set_option maxRecDepth 100000
set_option maxHeartbeats 1000000

theorem treeR_iff {g : Gm} (hg : g.ok) {b pl : Nat} (hb : b < 2 ^ g.ws.length) (hpl : pl < 2 ^ g.n) : treeR g b pl = true ↔ (∀ u, (mem b).any (endOf g u) = true → pl.testBit u = true) ∧ oneG (keptL g b) pl ∧ (pop b : Int) = pop pl - 1 := by
  have h8 := hg.n8
  have hl10 := hg.len
  have hp2 : 2 ^ g.ws.length ≤ 1024 := Nat.pow_le_pow_right (by omega) hl10
  have hlab := labels hg b g.ws.length (Nat.le_refl _)
  rw [← kept_eq hg hb] at hlab
  have hsc : scanF (grpR g b g.ws.length) pl g.n 0 (-1) = true ↔ oneG (keptL g b) pl := by
    rw [scan_start _ _ g.n (fun i hi => by rw [hlab i hi]; omega) g.n 0 (by omega)]
    constructor
    · intro h u v hu hv
      have hu8 := lt_len hpl hu
      have hv8 := lt_len hpl hv
      have := h u v (by omega) hu8 (by omega) hv8 hu hv
      rw [hlab u hu8, hlab v hv8] at this
      omega
    · intro h i j _ h1 _ h2 h3 h4
      rw [hlab i h1, hlab j h2, h i j h3 h4]
  have wok : (∀ i, i < g.ws.length → wOk g b pl i = true) ↔ ∀ u, (mem b).any (endOf g u) = true → pl.testBit u = true := by
    constructor
    · intro h u hu
      obtain ⟨y, hy, he⟩ := List.any_eq_true.1 hu
      obtain ⟨i, rfl, hi⟩ := (mem_iff (by omega)).1 hy
      have hil := lt_len hb hi
      have := h i hil
      rw [wOk, (bit_test b i).2 hi] at this
      simp only [endOf, Int.toNat_natCast, Bool.or_eq_true, decide_eq_true_eq] at he
      obtain ⟨w1, hw1⟩ : ∃ w, w = (g.ws.getD i (0, 0)).1 := ⟨_, rfl⟩
      obtain ⟨w2, hw2⟩ : ∃ w, w = (g.ws.getD i (0, 0)).2 := ⟨_, rfl⟩
      rw [← hw1, ← hw2] at this he
      simp at this
      have b1 := bit_01 pl w1
      have b2 := bit_01 pl w2
      rcases he with rfl | rfl
      · exact (bit_test _ _).1 (by omega)
      · exact (bit_test _ _).1 (by omega)
    · intro h i hi
      rw [wOk]
      cases hbi : b.testBit i with
      | false =>
        have : ¬ bit b i = 1 := fun e => by rw [(bit_test b i).1 e] at hbi; cases hbi
        rw [decide_eq_false this]; rfl
      | true =>
        have hm : (i : Int) ∈ mem b := (mem_iff (by omega)).2 ⟨i, rfl, hbi⟩
        have k1 := h (g.ws.getD i (0, 0)).1 (List.any_eq_true.2 ⟨_, hm, by simp [endOf]⟩)
        have k2 := h (g.ws.getD i (0, 0)).2 (List.any_eq_true.2 ⟨_, hm, by simp [endOf]⟩)
        rw [← bit_test] at k1 k2
        rw [k1, k2]; simp
  rw [treeR, Bool.and_eq_true, Bool.and_eq_true, decide_eq_true_eq, decide_eq_true_eq, hsc, wok, and_assoc]
theorem pop_on {a w : Nat} (ha : a < 1024) (hw : w < 10) (h : a.testBit w = false) : pop (a ||| 2 ^ w) = pop a + 1 := by
  have : ∀ a, a < 1024 → ∀ w, w < 10 → a.testBit w = false → pop (a ||| 2 ^ w) = pop a + 1 := by decide +kernel
  exact this a ha w hw h
theorem or_bit (a w i : Nat) : (a ||| 2 ^ w).testBit i = (a.testBit i || decide (i = w)) := by
  rw [Nat.testBit_or, Nat.testBit_two_pow]
  congr 1
  exact decide_eq_decide.2 ⟨Eq.symm, Eq.symm⟩
theorem places_any {g : Gm} (b u : Nat) : (placesN g b).testBit u = (mem b).any (endOf g u) := by rw [placesN, places_bit, Nat.zero_testBit, Bool.false_or]
/-- Classes of fewer wires lie in those of more. -/
theorem root_mono {g : Gm} (hg : g.ok) {n m : Nat} (hn : n < 2 ^ g.ws.length) (hm : m < 2 ^ g.ws.length) (h : ∀ i, n.testBit i = true → m.testBit i = true) {u v : Nat} (hu : u < 8) (hv : v < 8) (huv : root (keptL g n) u = root (keptL g n) v) : root (keptL g m) u = root (keptL g m) v := by
  have hp : 2 ^ g.ws.length ≤ 1024 := Nat.pow_le_pow_right (by omega) hg.len
  have hl : ∀ k, k < 2 ^ g.ws.length → ∀ y ∈ mem k, y.toNat < g.ws.length := fun k hk y hy => (mem_lt hg.len hk hy).2
  refine fold_root hg (root (keptL g m)) (mem n) (aloneSt 8) Grp.alone (hl n hn) (fun y hy => ?_) (fun u v hu hv huv => ?_) u v hu hv huv
  · obtain ⟨i, rfl, hi⟩ := (mem_iff (by omega)).1 hy
    exact fold_ends hg (mem m) (aloneSt 8) Grp.alone (hl m hm) i ((mem_iff (by omega)).2 ⟨i, rfl, h i hi⟩)
  · rw [alone_root hu, alone_root hv] at huv
    rw [huv]
theorem root_edge {g : Gm} (hg : g.ok) {m i : Nat} (hm : m < 2 ^ g.ws.length) (hi : m.testBit i = true) : root (keptL g m) (g.ws.getD i (0, 0)).1 = root (keptL g m) (g.ws.getD i (0, 0)).2 := by
  have hp : 2 ^ g.ws.length ≤ 1024 := Nat.pow_le_pow_right (by omega) hg.len
  have := fold_ends hg (mem m) (aloneSt 8) Grp.alone (fun y hy => (mem_lt hg.len hm hy).2) (i : Int) ((mem_iff (by omega)).2 ⟨i, rfl, hi⟩)
  exact this
theorem exchange {g : Gm} (hg : g.ok) {a b pl c : Nat} (ha : a < 2 ^ g.ws.length) (hb : b < 2 ^ g.ws.length) (hpl : pl < 2 ^ g.n) (h2 : 2 ≤ pop pl) (hab : a &&& b = 0)
    (hta : treeR g a pl = true) (htb : treeR g b pl = true) (hc : a.testBit c = true) : ∃ w, b.testBit w = true ∧ treeR g (offN a c ||| 2 ^ w) pl = true := by
  have h8 := hg.n8
  have hl10 := hg.len
  have hp2 : 2 ^ g.ws.length ≤ 1024 := Nat.pow_le_pow_right (by omega) hl10
  have hcl := lt_len ha hc
  obtain ⟨a1, a2, a3⟩ := (treeR_iff hg ha hpl).1 hta
  obtain ⟨b1, b2, b3⟩ := (treeR_iff hg hb hpl).1 htb
  have hlb : ∀ i, (offN a c).testBit i = (a.testBit i && decide (i ≠ c)) := fun i => offN_bit (by omega) (by omega)
  have hcm : (c : Int) ∈ mem a := (mem_iff (by omega)).2 ⟨c, rfl, hc⟩
  have hlp : pop (offN a c) = pop a - 1 ∧ offN a c < a := by
    have := off_mem (show a < 1024 by omega) hcm
    rwa [Int.toNat_natCast] at this
  have hap : 0 < pop a := pop_pos a (by omega) (by omega)
  have hl : offN a c < 2 ^ g.ws.length := by omega
  have dis : ∀ i, b.testBit i = true → a.testBit i = false := fun i hi => by
    have : (a &&& b).testBit i = false := by rw [hab]; exact Nat.zero_testBit i
    rw [Nat.testBit_and, hi, Bool.and_true] at this
    exact this
  have endIn : ∀ m i : Nat, m < 2 ^ g.ws.length → (∀ u, (mem m).any (endOf g u) = true → pl.testBit u = true) → m.testBit i = true → pl.testBit (g.ws.getD i (0, 0)).1 = true ∧ pl.testBit (g.ws.getD i (0, 0)).2 = true := fun m i hm h hi => by
    have hmm : (i : Int) ∈ mem m := (mem_iff (by omega)).2 ⟨i, rfl, hi⟩
    exact ⟨h _ (List.any_eq_true.2 ⟨_, hmm, by simp [endOf]⟩), h _ (List.any_eq_true.2 ⟨_, hmm, by simp [endOf]⟩)⟩
  -- any wire of the other tree with which all are joined does
  suffices H : ∃ w, b.testBit w = true ∧ oneG (keptL g (offN a c ||| 2 ^ w)) pl by
    obtain ⟨w, hw, ho⟩ := H
    have hwl := lt_len hb hw
    have hor : offN a c ||| 2 ^ w < 2 ^ g.ws.length := or_lt hl ((Nat.pow_lt_pow_iff_right (by omega)).2 hwl)
    refine ⟨w, hw, (treeR_iff hg hor hpl).2 ⟨fun u hu => ?_, ho, ?_⟩⟩
    · obtain ⟨y, hy, he⟩ := List.any_eq_true.1 hu
      obtain ⟨i, rfl, hi⟩ := (mem_iff (by omega)).1 hy
      rw [or_bit, hlb, Bool.or_eq_true, Bool.and_eq_true] at hi
      rcases hi with hi | hi
      · exact a1 u (List.any_eq_true.2 ⟨_, (mem_iff (by omega)).2 ⟨i, rfl, hi.1⟩, he⟩)
      · have hi := of_decide_eq_true hi
        subst hi
        exact b1 u (List.any_eq_true.2 ⟨_, (mem_iff (by omega)).2 ⟨i, rfl, hw⟩, he⟩)
    · rw [pop_on (by omega) (by omega) (by rw [hlb, dis w hw]; rfl), hlp.1]
      omega
  -- the ends of the cut wire
  obtain ⟨c1, hc1⟩ : ∃ x, x = (g.ws.getD c (0, 0)).1 := ⟨_, rfl⟩
  obtain ⟨c2, hc2⟩ : ∃ x, x = (g.ws.getD c (0, 0)).2 := ⟨_, rfl⟩
  have hcin := endIn a c ha a1 hc
  rw [← hc1, ← hc2] at hcin
  have inn : ∀ u, pl.testBit u = true → u < 8 := fun u hu => by have := lt_len hpl hu; omega
  have two : ∀ u, pl.testBit u = true → root (keptL g (offN a c)) u = root (keptL g (offN a c)) c1 ∨ root (keptL g (offN a c)) u = root (keptL g (offN a c)) c2 := fun u hu => by
    have key := fold_root hg (fun x => if root (keptL g (offN a c)) x = root (keptL g (offN a c)) c2 then root (keptL g (offN a c)) c1 else root (keptL g (offN a c)) x) (mem a) (aloneSt 8) Grp.alone (fun y hy => (mem_lt hl10 ha hy).2) (fun y hy => ?_) (fun u v hu hv huv => ?_) u c1 (inn u hu) (inn c1 hcin.1) (a2 u c1 hu hcin.1)
    · skip
      by_cases e : root (keptL g (offN a c)) u = root (keptL g (offN a c)) c2
      · exact .inr e
      · rw [if_neg e] at key
        left
        rw [key]
        split <;> rfl
    · obtain ⟨i, rfl, hi⟩ := (mem_iff (by omega)).1 hy
      simp only [Int.toNat_natCast]
      by_cases e : i = c
      · subst e
        rw [← hc1, ← hc2, if_pos rfl]
        split <;> rfl
      · rw [root_edge hg hl (i := i) (by rw [hlb, hi]; simp [e])]
    · rw [alone_root hu, alone_root hv] at huv
      rw [huv]
  -- joined, if both ends' groups are
  have done : ∀ w, b.testBit w = true → root (keptL g (offN a c ||| 2 ^ w)) c1 = root (keptL g (offN a c ||| 2 ^ w)) c2 → oneG (keptL g (offN a c ||| 2 ^ w)) pl := fun w hw h u v hu hv => by
    have hwl := lt_len hb hw
    have hor : offN a c ||| 2 ^ w < 2 ^ g.ws.length := or_lt hl ((Nat.pow_lt_pow_iff_right (by omega)).2 hwl)
    have up : ∀ u v, u < 8 → v < 8 → root (keptL g (offN a c)) u = root (keptL g (offN a c)) v → root (keptL g (offN a c ||| 2 ^ w)) u = root (keptL g (offN a c ||| 2 ^ w)) v := fun u v h1 h2 h3 =>
      root_mono hg hl hor (fun i hi => by rw [or_bit, hi]; rfl) h1 h2 h3
    have one : ∀ u, pl.testBit u = true → root (keptL g (offN a c ||| 2 ^ w)) u = root (keptL g (offN a c ||| 2 ^ w)) c1 := fun u hu => by
      rcases two u hu with e | e
      · exact up u c1 (inn u hu) (inn c1 hcin.1) e
      · rw [up u c2 (inn u hu) (inn c2 hcin.2) e, h]
    rw [one u hu, one v hv]
  by_cases e : root (keptL g (offN a c)) c1 = root (keptL g (offN a c)) c2
  · have hbp : 0 < b := by
      rcases Nat.eq_zero_or_pos b with e0 | e0
      · subst e0; rw [show pop 0 = 0 from by decide] at b3; omega
      · exact e0
    obtain ⟨w, hw⟩ : ∃ w, b.testBit w = true := Nat.exists_testBit_of_ne_zero (by omega)
    have hwl := lt_len hb hw
    have hor : offN a c ||| 2 ^ w < 2 ^ g.ws.length := or_lt hl ((Nat.pow_lt_pow_iff_right (by omega)).2 hwl)
    exact ⟨w, hw, done w hw (root_mono hg hl hor (fun i hi => by rw [or_bit, hi]; rfl) (inn c1 hcin.1) (inn c2 hcin.2) e)⟩
  · -- some wire of the other tree leads over
    obtain ⟨w, hw, hne⟩ : ∃ w, b.testBit w = true ∧ root (keptL g (offN a c)) (g.ws.getD w (0, 0)).1 ≠ root (keptL g (offN a c)) (g.ws.getD w (0, 0)).2 := by
      refine Classical.byContradiction fun hno => e ?_
      refine fold_root hg (root (keptL g (offN a c))) (mem b) (aloneSt 8) Grp.alone (fun y hy => (mem_lt hl10 hb hy).2) (fun y hy => ?_) (fun u v hu hv huv => ?_) c1 c2 (inn c1 hcin.1) (inn c2 hcin.2) (b2 c1 c2 hcin.1 hcin.2)
      · obtain ⟨i, rfl, hi⟩ := (mem_iff (by omega)).1 hy
        exact Classical.byContradiction fun h => hno ⟨i, hi, h⟩
      · rw [alone_root hu, alone_root hv] at huv
        rw [huv]
    have hwl := lt_len hb hw
    have hor : offN a c ||| 2 ^ w < 2 ^ g.ws.length := or_lt hl ((Nat.pow_lt_pow_iff_right (by omega)).2 hwl)
    have hwin := endIn b w hb b1 hw
    have hed := root_edge hg hor (i := w) (by rw [or_bit]; simp)
    have up : ∀ u v, u < 8 → v < 8 → root (keptL g (offN a c)) u = root (keptL g (offN a c)) v → root (keptL g (offN a c ||| 2 ^ w)) u = root (keptL g (offN a c ||| 2 ^ w)) v := fun u v h1 h2 h3 =>
      root_mono hg hl hor (fun i hi => by rw [or_bit, hi]; rfl) h1 h2 h3
    obtain ⟨w1, hw1⟩ : ∃ x, x = (g.ws.getD w (0, 0)).1 := ⟨_, rfl⟩
    obtain ⟨w2, hw2⟩ : ∃ x, x = (g.ws.getD w (0, 0)).2 := ⟨_, rfl⟩
    rw [← hw1, ← hw2] at hne hwin hed
    refine ⟨w, hw, done w hw ?_⟩
    rcases two w1 hwin.1 with h1 | h1 <;> rcases two w2 hwin.2 with h3 | h3
    · exact absurd (h1.trans h3.symm) hne
    · rw [← up w1 c1 (inn _ hwin.1) (inn _ hcin.1) h1, ← up w2 c2 (inn _ hwin.2) (inn _ hcin.2) h3, hed]
    · rw [← up w1 c2 (inn _ hwin.1) (inn _ hcin.2) h1, ← up w2 c1 (inn _ hwin.2) (inn _ hcin.1) h3, hed]
    · exact absurd (h1.trans h3.symm) hne
theorem places_ltn {g : Gm} (hg : g.ok) {a : Nat} (ha : a < 2 ^ g.ws.length) : placesN g a < 2 ^ g.n := by
  have hp2 : 2 ^ g.ws.length ≤ 1024 := Nat.pow_le_pow_right (by omega) hg.len
  refine Nat.lt_of_not_le fun h => ?_
  obtain ⟨i, hi, hb⟩ := Nat.exists_ge_and_testBit_of_ge_two_pow h
  rw [places_any] at hb
  obtain ⟨y, hy, he⟩ := List.any_eq_true.1 hb
  obtain ⟨j, rfl, hj⟩ := (mem_iff (by omega)).1 hy
  have := hg.ends j (lt_len ha hj)
  simp only [endOf, Int.toNat_natCast, Bool.or_eq_true, decide_eq_true_eq] at he
  omega
theorem pop_two {pl s t : Nat} (hpl : pl < 256) (hst : s ≠ t) (hs : pl.testBit s = true) (ht : pl.testBit t = true) : 2 ≤ pop pl := by
  have : ∀ pl, pl < 256 → ∀ s, s < 8 → ∀ t, t < 8 → s = t ∨ pl.testBit s = false ∨ pl.testBit t = false ∨ 2 ≤ pop pl := by decide +kernel
  rcases this pl hpl s (lt_len (k := 8) hpl hs) t (lt_len (k := 8) hpl ht) with h | h | h | h
  · exact absurd h hst
  · rw [hs] at h; cases h
  · rw [ht] at h; cases h
  · exact h
/-- Two sets are two trees. -/
theorem ends_iff {pl s t : Nat} : pl &&& (2 ^ s ||| 2 ^ t) = 2 ^ s ||| 2 ^ t ↔ pl.testBit s = true ∧ pl.testBit t = true := by
  constructor
  · intro h
    have k : ∀ i, (2 ^ s ||| 2 ^ t).testBit i = true → pl.testBit i = true := fun i hi => by
      rw [← h, Nat.testBit_and, Bool.and_eq_true] at hi; exact hi.1
    exact ⟨k s (by simp [Nat.testBit_or, Nat.testBit_two_pow]), k t (by simp [Nat.testBit_or, Nat.testBit_two_pow])⟩
  · rintro ⟨h1, h2⟩
    refine Nat.eq_of_testBit_eq fun i => ?_
    rw [Nat.testBit_and, Nat.testBit_or, Nat.testBit_two_pow, Nat.testBit_two_pow]
    by_cases e1 : s = i
    · subst e1; simp [h1]
    · by_cases e2 : t = i
      · subst e2; simp [h2]
      · simp [e1, e2]
end Go.Proofs.YtfphkpdobbffeaaDoor

/-
  Wires that join places: what is joined, how many groups there are, forests. (Plain.)
-/
namespace Go.Wire

/-- The least place that is joined to a place. -/
def lb {α : Type} (e : α → Nat × Nat) : List α → Nat → Nat
  | [], u => u
  | i :: l, u => if lb e l u = max (lb e l (e i).1) (lb e l (e i).2) then min (lb e l (e i).1) (lb e l (e i).2) else lb e l u
def Jn {α : Type} (e : α → Nat × Nat) (l : List α) (u v : Nat) : Prop := lb e l u = lb e l v
variable {α : Type} {e : α → Nat × Nat}
theorem lb_le : ∀ (l : List α) (u : Nat), lb e l u ≤ u
  | [], u => Nat.le_refl u
  | i :: l, u => by
    have h := lb_le l u
    rw [lb]
    split
    · omega
    · exact h
theorem lb_hit {i : α} {l : List α} {u : Nat} (h : lb e l u = max (lb e l (e i).1) (lb e l (e i).2)) : lb e (i :: l) u = min (lb e l (e i).1) (lb e l (e i).2) := by rw [lb, if_pos h]
theorem lb_mis {i : α} {l : List α} {u : Nat} (h : lb e l u ≠ max (lb e l (e i).1) (lb e l (e i).2)) : lb e (i :: l) u = lb e l u := by rw [lb, if_neg h]
theorem lb_lb : ∀ (l : List α) (u : Nat), lb e l (lb e l u) = lb e l u
  | [], u => rfl
  | i :: l, u => by
    have h := lb_lb l u
    have hm : lb e l (min (lb e l (e i).1) (lb e l (e i).2)) = min (lb e l (e i).1) (lb e l (e i).2) := by
      rcases Nat.le_total (lb e l (e i).1) (lb e l (e i).2) with k | k
      · rw [Nat.min_eq_left k]; exact lb_lb l _
      · rw [Nat.min_eq_right k]; exact lb_lb l _
    by_cases c : lb e l u = max (lb e l (e i).1) (lb e l (e i).2)
    · rw [lb_hit c]
      by_cases d : lb e l (min (lb e l (e i).1) (lb e l (e i).2)) = max (lb e l (e i).1) (lb e l (e i).2)
      · exact lb_hit d
      · rw [lb_mis d, hm]
    · rw [lb_mis c, lb_mis (by rw [h]; exact c), h]
theorem jn_cons {i : α} {l : List α} {u v : Nat} : Jn e (i :: l) u v ↔ Jn e l u v ∨ (Jn e l u (e i).1 ∧ Jn e l (e i).2 v) ∨ (Jn e l u (e i).2 ∧ Jn e l (e i).1 v) := by
  unfold Jn
  simp only [lb]
  generalize lb e l u = x
  generalize lb e l v = y
  generalize lb e l (e i).1 = A
  generalize lb e l (e i).2 = B
  split <;> split <;> omega
theorem Jn.refl (l : List α) (u : Nat) : Jn e l u u := rfl
theorem Jn.symm {l : List α} {u v : Nat} (h : Jn e l u v) : Jn e l v u := Eq.symm h
theorem Jn.trans {l : List α} {u v w : Nat} (h : Jn e l u v) (k : Jn e l v w) : Jn e l u w := Eq.trans h k
theorem jn_mem : ∀ {l : List α} {i : α}, i ∈ l → Jn e l (e i).1 (e i).2
  | j :: l, i, h => by
    rw [jn_cons]
    rcases List.mem_cons.1 h with rfl | h
    · exact .inr (.inl ⟨rfl, rfl⟩)
    · exact .inl (jn_mem h)
structure Eqv (R : Nat → Nat → Prop) : Prop where
  refl : ∀ u, R u u
  symm : ∀ {u v}, R u v → R v u
  trans : ∀ {u v w}, R u v → R v w → R u w
theorem Jn.eqv (l : List α) : Eqv (Jn e l) := ⟨fun _ => rfl, Eq.symm, Eq.trans⟩
theorem jn_least {R : Nat → Nat → Prop} (hR : Eqv R) : ∀ {l : List α} {u v : Nat}, (∀ i ∈ l, R (e i).1 (e i).2) → Jn e l u v → R u v
  | [], u, v, _, h => by have : u = v := h; subst this; exact hR.refl u
  | i :: l, u, v, hl, h => by
    have ih : ∀ {x y}, Jn e l x y → R x y := fun h => jn_least hR (fun j hj => hl j (List.mem_cons_of_mem _ hj)) h
    have hi := hl i (List.mem_cons_self ..)
    rcases jn_cons.1 h with h | ⟨h1, h2⟩ | ⟨h1, h2⟩
    · exact ih h
    · exact hR.trans (ih h1) (hR.trans hi (ih h2))
    · exact hR.trans (ih h1) (hR.trans (hR.symm hi) (ih h2))
theorem jn_mono {l l' : List α} {u v : Nat} (hs : ∀ i ∈ l, i ∈ l') (h : Jn e l u v) : Jn e l' u v := jn_least (Jn.eqv l') (fun _ hi => jn_mem (hs _ hi)) h
theorem jn_perm {l l' : List α} {u v : Nat} (hp : l.Perm l') : Jn e l u v ↔ Jn e l' u v := ⟨jn_mono fun _ h => hp.mem_iff.1 h, jn_mono fun _ h => hp.mem_iff.2 h⟩
theorem lb_congr {l l' : List α} (h : ∀ u v, Jn e l u v ↔ Jn e l' u v) (u : Nat) : lb e l u = lb e l' u := by
  have h1 : Jn e l' u (lb e l u) := (h _ _).1 (lb_lb l u).symm
  have h2 : Jn e l u (lb e l' u) := (h _ _).2 (lb_lb l' u).symm
  have h3 : lb e l' u ≤ lb e l u := by rw [show lb e l' u = lb e l' (lb e l u) from h1]; exact lb_le _ _
  have h4 : lb e l u ≤ lb e l' u := by rw [show lb e l u = lb e l (lb e l' u) from h2]; exact lb_le _ _
  omega
/-- How many groups there are. -/
def cp {α : Type} (e : α → Nat × Nat) (n : Nat) (l : List α) : Nat := (List.range n).countP fun u => decide (lb e l u = u)
theorem cp_congr {n : Nat} {l l' : List α} (h : ∀ u v, Jn e l u v ↔ Jn e l' u v) : cp e n l = cp e n l' := by
  unfold cp
  refine List.countP_congr fun u _ => ?_
  rw [lb_congr h]
theorem cp_nil (n : Nat) : cp e n [] = n := by
  have : (List.range n).countP (fun u => decide (lb e [] u = u)) = (List.range n).length := List.countP_eq_length.2 fun u _ => decide_eq_true rfl
  rw [cp, this, List.length_range]
theorem cnt_rm (p : Nat → Bool) (M : Nat) (hp : p M = true) : ∀ n, (List.range n).countP (fun u => p u && decide (u ≠ M)) + (if M < n then 1 else 0) = (List.range n).countP p
  | 0 => rfl
  | n + 1 => by
    have ih := cnt_rm p M hp n
    simp only [List.range_succ, List.countP_append, List.countP_cons, List.countP_nil]
    by_cases e : n = M
    · subst e
      simp [hp] at ih ⊢
      omega
    · simp only [show (decide (n ≠ M)) = true by simp [e], Bool.and_true]
      rw [show (if M < n + 1 then 1 else 0) = (if M < n then 1 else 0) from by simp only [show (M < n + 1) ↔ M < n by omega]]
      omega
theorem cp_same {n : Nat} {i : α} {l : List α} (h : Jn e l (e i).1 (e i).2) : cp e n (i :: l) = cp e n l := by
  refine cp_congr fun u v => ⟨fun k => ?_, jn_mono fun j hj => List.mem_cons_of_mem _ hj⟩
  rcases jn_cons.1 k with k | ⟨k1, k2⟩ | ⟨k1, k2⟩
  · exact k
  · exact k1.trans (h.trans k2)
  · exact k1.trans (h.symm.trans k2)
theorem cp_less {n : Nat} {i : α} {l : List α} (h : ¬ Jn e l (e i).1 (e i).2) (ha : (e i).1 < n) (hb : (e i).2 < n) : cp e n (i :: l) + 1 = cp e n l := by
  have hA := lb_lb (e := e) l (e i).1
  have hB := lb_lb (e := e) l (e i).2
  have lA := lb_le (e := e) l (e i).1
  have lB := lb_le (e := e) l (e i).2
  have hne : lb e l (e i).1 ≠ lb e l (e i).2 := h
  have hM : lb e l (max (lb e l (e i).1) (lb e l (e i).2)) = max (lb e l (e i).1) (lb e l (e i).2) := by
    rcases Nat.le_total (lb e l (e i).1) (lb e l (e i).2) with k | k
    · rw [Nat.max_eq_right k]; exact hB
    · rw [Nat.max_eq_left k]; exact hA
  have hm : lb e l (min (lb e l (e i).1) (lb e l (e i).2)) = min (lb e l (e i).1) (lb e l (e i).2) := by
    rcases Nat.le_total (lb e l (e i).1) (lb e l (e i).2) with k | k
    · rw [Nat.min_eq_left k]; exact hA
    · rw [Nat.min_eq_right k]; exact hB
  have := cnt_rm (fun u => decide (lb e l u = u)) (max (lb e l (e i).1) (lb e l (e i).2)) (decide_eq_true hM) n
  rw [if_pos (by omega)] at this
  rw [cp, cp, ← this]
  congr 1
  refine List.countP_congr fun u _ => ?_
  rw [Bool.and_eq_true, decide_eq_true_eq, decide_eq_true_eq, decide_eq_true_eq]
  by_cases c : lb e l u = max (lb e l (e i).1) (lb e l (e i).2)
  · rw [lb_hit c]
    constructor
    · intro k; rw [← k, hm] at c; omega
    · rintro ⟨k1, k2⟩; omega
  · rw [lb_mis c]
    constructor
    · intro k; exact ⟨k, by omega⟩
    · exact fun k => k.1
theorem cp_pos {n : Nat} (hn : 0 < n) (l : List α) : 0 < cp e n l := by
  rw [cp, List.countP_pos_iff]
  exact ⟨0, List.mem_range.2 hn, decide_eq_true (by have := lb_le (e := e) l 0; omega)⟩
/-- The wires' ends are places. -/
def In {α : Type} (e : α → Nat × Nat) (n : Nat) (l : List α) : Prop := ∀ i ∈ l, (e i).1 < n ∧ (e i).2 < n
theorem In.tail {n : Nat} {i : α} {l : List α} (h : In e n (i :: l)) : In e n l := fun j hj => h j (List.mem_cons_of_mem _ hj)
theorem In.sub {n : Nat} {l l' : List α} (h : In e n l) (hs : ∀ i ∈ l', i ∈ l) : In e n l' := fun j hj => h j (hs j hj)
theorem cp_ge {n : Nat} : ∀ {l : List α}, In e n l → n ≤ cp e n l + l.length
  | [], _ => by rw [cp_nil]; exact Nat.le_refl _
  | i :: l, h => by
    have ih := cp_ge h.tail
    have hi := h i (List.mem_cons_self ..)
    rw [List.length_cons]
    by_cases c : Jn e l (e i).1 (e i).2
    · rw [cp_same c]; omega
    · have := cp_less c hi.1 hi.2; omega
/-- Wires without a ring. -/
def Fo {α : Type} (e : α → Nat × Nat) (n : Nat) (l : List α) : Prop := In e n l ∧ cp e n l + l.length = n
theorem Fo.nil (n : Nat) : Fo e n [] := ⟨fun i hi => absurd hi List.not_mem_nil, by rw [cp_nil]; rfl⟩
theorem fo_cons {n : Nat} {i : α} {l : List α} (hi : (e i).1 < n ∧ (e i).2 < n) : Fo e n (i :: l) ↔ Fo e n l ∧ ¬ Jn e l (e i).1 (e i).2 := by
  constructor
  · rintro ⟨h1, h2⟩
    have := cp_ge h1.tail
    rw [List.length_cons] at h2
    by_cases c : Jn e l (e i).1 (e i).2
    · rw [cp_same c] at h2; omega
    · have h3 := cp_less c hi.1 hi.2
      exact ⟨⟨h1.tail, by omega⟩, c⟩
  · rintro ⟨⟨h1, h2⟩, c⟩
    have h3 := cp_less c hi.1 hi.2
    refine ⟨fun j hj => ?_, by rw [List.length_cons]; omega⟩
    rcases List.mem_cons.1 hj with rfl | hj
    · exact hi
    · exact h1 j hj
theorem Fo.perm {n : Nat} {l l' : List α} (hp : l.Perm l') (h : Fo e n l) : Fo e n l' := by
  refine ⟨h.1.sub fun i hi => hp.mem_iff.2 hi, ?_⟩
  rw [cp_congr (fun u v => (jn_perm hp.symm)), ← hp.length_eq]; exact h.2
theorem Fo.tail {n : Nat} {i : α} {l : List α} (h : Fo e n (i :: l)) : Fo e n l := ((fo_cons (h.1 i (List.mem_cons_self ..))).1 h).1
theorem Fo.head {n : Nat} {i : α} {l : List α} (h : Fo e n (i :: l)) : ¬ Jn e l (e i).1 (e i).2 := ((fo_cons (h.1 i (List.mem_cons_self ..))).1 h).2
theorem Fo.sub {n : Nat} {l l' : List α} (hs : l'.Sublist l) : Fo e n l → Fo e n l' := by
  induction hs with
  | slnil => exact id
  | cons a _ ih => exact fun h => ih h.tail
  | cons_cons a hs ih =>
    intro h
    exact (fo_cons (h.1 _ (List.mem_cons_self ..))).2 ⟨ih h.tail, fun k => h.head (jn_mono (fun j hj => hs.subset hj) k)⟩
theorem Fo.nodup {n : Nat} : ∀ {l : List α}, Fo e n l → l.Nodup
  | [], _ => List.nodup_nil
  | i :: l, h => List.nodup_cons.2 ⟨fun hi => h.head (jn_mem hi), Fo.nodup h.tail⟩
theorem Fo.len {n : Nat} {l : List α} (hn : 0 < n) (h : Fo e n l) : l.length + 1 ≤ n := by
  have := cp_pos (e := e) hn l
  have := h.2
  omega
/-- Wires of which none can be spared. -/
theorem least_join [DecidableEq α] {x y : Nat} : ∀ (k : Nat) (l : List α), l.length ≤ k → Jn e l x y → ∃ M, M.Sublist l ∧ Jn e M x y ∧ ∀ f ∈ M, ¬ Jn e (M.erase f) x y
  | 0, l, hk, h => ⟨l, List.Sublist.refl l, h, fun f hf => by
      have : l = [] := List.length_eq_zero_iff.1 (by omega)
      rw [this] at hf
      exact absurd hf List.not_mem_nil⟩
  | k + 1, l, hk, h => by
    by_cases c : ∃ f ∈ l, Jn e (l.erase f) x y
    · obtain ⟨f, hf, hj⟩ := c
      obtain ⟨M, h1, h2, h3⟩ := least_join k (l.erase f) (by rw [List.length_erase_of_mem hf]; omega) hj
      exact ⟨M, h1.trans List.erase_sublist, h2, h3⟩
    · exact ⟨l, List.Sublist.refl l, h, fun f hf hj => c ⟨f, hf, hj⟩⟩
theorem Fo.spare [DecidableEq α] {n : Nat} {l M : List α} {x y : Nat} {f : α} (h : Fo e n l) (hM : M.Sublist l) (hf : f ∈ M) (h1 : Jn e M x y) (h2 : ¬ Jn e (M.erase f) x y) : ¬ Jn e (l.erase f) x y := by
  intro k
  have hfl := hM.subset hf
  have h0 : Fo e n (f :: l.erase f) := Fo.perm (List.perm_cons_erase hfl) h
  have hs : ∀ j ∈ M.erase f, j ∈ l.erase f := fun j hj => (hM.erase f).subset hj
  have h3 := (jn_perm (List.perm_cons_erase hf)).1 h1
  rcases jn_cons.1 h3 with h3 | ⟨h3, h4⟩ | ⟨h3, h4⟩
  · exact h2 h3
  · exact h0.head ((jn_mono hs h3).symm.trans (k.trans (jn_mono hs h4).symm))
  · exact h0.head ((jn_mono hs h4).trans (k.symm.trans (jn_mono hs h3)))
/-- One wire in another one's place. -/
theorem Fo.turn [DecidableEq α] {n : Nat} {i f : α} {l : List α} (h : Fo e n l) (hi : (e i).1 < n ∧ (e i).2 < n) (hf : f ∈ l) (hn : ¬ Jn e (l.erase f) (e i).1 (e i).2) : Fo e n (i :: l.erase f) :=
  (fo_cons hi).2 ⟨h.sub List.erase_sublist, hn⟩
theorem len_le_of_sub [DecidableEq α] : ∀ {l l' : List α}, l.Nodup → (∀ i ∈ l, i ∈ l') → l.length ≤ l'.length
  | [], l', _, _ => Nat.zero_le _
  | i :: l, l', hn, hs => by
    have hi := hs i (List.mem_cons_self ..)
    have hn := List.nodup_cons.1 hn
    have := len_le_of_sub (l' := l'.erase i) hn.2 fun j hj => (List.mem_erase_of_ne (fun he : j = i => hn.1 (he ▸ hj))).2 (hs j (List.mem_cons_of_mem _ hj))
    rw [List.length_erase_of_mem hi] at this
    have := List.length_pos_of_mem hi
    rw [List.length_cons]; omega
end Go.Wire
