/-
  Contracts: two lists as two trees, and the reply, by the program.
-/
import Derived.Test.YtfphkpdobbffeaaDoorSw5
import Derived.Test.YtfphkpdobbffeaaDoorSw6
set_option linter.unusedSimpArgs false
set_option linter.unusedVariables false
namespace Go.Proofs.YtfphkpdobbffeaaDoor
open Go Go.AH
set_option maxRecDepth 100000
set_option maxHeartbeats 1000000

def areB (g : Gm) (x y : Bool) (a b : Nat) : Bool := x && (y && (decide (a &&& b = 0) && (decide (placesN g a &&& endsN g = endsN g) && (isTreeB g a (placesN g a) && isTreeB g b (placesN g a)))))
theorem are_eq {g : Gm} (hg : g.ok) (hst : g.s ≠ g.t) {a b : Nat} (ha : a < 2 ^ g.ws.length) (hb : b < 2 ^ g.ws.length) (x y : Bool) : areB g x y a b = areR g x y a b := by
  have he := ends_iff (pl := placesN g a) (s := g.s) (t := g.t)
  unfold areB areR endsN
  rw [Bool.eq_iff_iff]
  simp only [Bool.and_eq_true, decide_eq_true_eq, he, bit_test]
  constructor
  · rintro ⟨h1, h2, h3, ⟨h4, h5⟩, h6, h7⟩
    have hp := pop_two (placesN_lt8 hg ha) hst h4 h5
    rw [tree_pl hg ha (places_ltn hg ha) hp] at h6
    rw [tree_pl hg hb (places_ltn hg ha) hp] at h7
    exact ⟨h1, h2, h3, h4, h5, h6, h7⟩
  · rintro ⟨h1, h2, h3, h4, h5, h6, h7⟩
    have hp := pop_two (placesN_lt8 hg ha) hst h4 h5
    rw [← tree_pl hg ha (places_ltn hg ha) hp] at h6
    rw [← tree_pl hg hb (places_ltn hg ha) hp] at h7
    exact ⟨h1, h2, h3, ⟨h4, h5⟩, h6, h7⟩
theorem areTrees_spec {g : Gm} (hg : g.ok) (L0 L1 : List Int) (h0 : L0.length ≤ 1000) (h1 : L1.length ≤ 1000) : FDet Tryd.prog 73 [.g (gC g 0), .g [.rs 1 0 L0.length, .rs 2 0 L1.length]] [(0, wB g), (1, .ro (ints L0)), (2, .ro (ints L1)), (100002, .ro tab64)] 3
    (.t [.g [.int .i64 (setV g.ws.length L0), .int .i64 (setV g.ws.length L1)], .c (.bool (areB g (setOk g.ws.length L0) (setOk g.ws.length L1) (setV g.ws.length L0) (setV g.ws.length L1)))]) [] 3 := by
  have hgl := hg.len
  have s0 := set_spec hg L0 h0
  have s1 := set_spec hg L1 h1
  have ha := setV_lt g.ws.length L0
  have hb := setV_lt g.ws.length L1
  change FDet _ _ _ _ _ (.t [.c (.int .i64 (setV g.ws.length L0 : Nat)), .c (.bool (setOk g.ws.length L0))]) _ _ at s0
  change FDet _ _ _ _ _ (.t [.c (.int .i64 (setV g.ws.length L1 : Nat)), .c (.bool (setOk g.ws.length L1))]) _ _ at s1
  generalize setV g.ws.length L0 = a at *
  generalize setV g.ws.length L1 = b at *
  generalize setOk g.ws.length L0 = x at *
  generalize setOk g.ws.length L1 = y at *
  have hp2 : 2 ^ g.ws.length ≤ 1024 := Nat.pow_le_pow_right (by omega) hgl
  have hpl : placesN g a < 2 ^ 8 := placesN_lt hg _ fun y hy => (mem_lt hgl ha hy).2
  have hen := endsN_lt hg
  refine FSpec.of_body tok true Tryd.func73 rfl (by kernel_rfl) (by decide) (by simp [tupA, hpLt, tmLt, AV.lt, AE.lt, AC.lt, LL_cons, LL_nil, idOk, ABlk.lt, ints_LL, GB, tab64_LL, gC, wB, giC, noneB, gst, tC, pC]) (by simp [tupA, hpLt, tmLt, AV.lt, AE.lt, AC.lt, LL_cons, LL_nil, idOk, ABlk.lt, ints_LL, GB, tab64_LL, gC, wB, giC, noneB, gst, tC, pC]) (by show 2 ≤ _; decide) ?_
  (conv => whnf); (repeat ((first | (refine ⟨rfl, ?_⟩) | (refine ⟨trivial, ?_⟩) | (refine Wk.yes ?_) | (refine Wk.no ?_) | (refine Wk.and ?_) | (refine ⟨by exact ⟨shr_nonneg _ _, by decide⟩, ?_⟩) | (refine ⟨by exact ⟨shr_nonneg' _ _, by decide⟩, ?_⟩)); (conv => whnf)))
  refine CallA.ro [0, 1] (.t [.c (.int .i64 a), .c (.bool x)]) (s0) (by first | rfl | exact congrArg AV.g (ints_ren _ _) | (simp [ints_ren, AV.ren, ABlk.ren, AC.ren, AE.ren, qq]; done)) rfl (by (repeat (first | exact trivial | refine ⟨⟨(by first | exact .inl (by decide) | exact .inr (by decide)), (by first | (refine Or.inl ?_; first | rfl | exact congrArg some (ints_ren _ _).symm | exact congrArg ABlk.own (ints_ren _ _).symm | exact congrArg some (tab64_ren _).symm) | rfl | exact congrArg some (ints_ren _ _).symm | exact congrArg ABlk.own (ints_ren _ _).symm | exact congrArg some (tab64_ren _).symm | exact Or.inr ⟨rfl, rfl⟩)⟩, ?_⟩))) (by first | rfl | exact congrArg AV.g (ints_ren _ _) | (simp [ints_ren, AV.ren, ABlk.ren, AC.ren, AE.ren, qq]; done)) ?_
  (conv => whnf); (repeat ((first | (refine ⟨rfl, ?_⟩) | (refine ⟨trivial, ?_⟩) | (refine Wk.yes ?_) | (refine Wk.no ?_) | (refine Wk.and ?_) | (refine ⟨by exact ⟨shr_nonneg _ _, by decide⟩, ?_⟩) | (refine ⟨by exact ⟨shr_nonneg' _ _, by decide⟩, ?_⟩)); (conv => whnf)))
  refine CallA.ro [0, 2] (.t [.c (.int .i64 b), .c (.bool y)]) (s1) (by first | rfl | exact congrArg AV.g (ints_ren _ _) | (simp [ints_ren, AV.ren, ABlk.ren, AC.ren, AE.ren, qq]; done)) rfl (by (repeat (first | exact trivial | refine ⟨⟨(by first | exact .inl (by decide) | exact .inr (by decide)), (by first | (refine Or.inl ?_; first | rfl | exact congrArg some (ints_ren _ _).symm | exact congrArg ABlk.own (ints_ren _ _).symm | exact congrArg some (tab64_ren _).symm) | rfl | exact congrArg some (ints_ren _ _).symm | exact congrArg ABlk.own (ints_ren _ _).symm | exact congrArg some (tab64_ren _).symm | exact Or.inr ⟨rfl, rfl⟩)⟩, ?_⟩))) (by first | rfl | exact congrArg AV.g (ints_ren _ _) | (simp [ints_ren, AV.ren, ABlk.ren, AC.ren, AE.ren, qq]; done)) ?_
  (conv => whnf); (repeat ((first | (refine ⟨rfl, ?_⟩) | (refine ⟨trivial, ?_⟩) | (refine Wk.yes ?_) | (refine Wk.no ?_) | (refine Wk.and ?_) | (refine ⟨by exact ⟨shr_nonneg _ _, by decide⟩, ?_⟩) | (refine ⟨by exact ⟨shr_nonneg' _ _, by decide⟩, ?_⟩)); (conv => whnf)))
  refine CallA.ro [0] (.c (.int .i64 (placesN g a))) (places_spec hg ha) (by first | rfl | exact congrArg AV.g (ints_ren _ _) | (simp [ints_ren, AV.ren, ABlk.ren, AC.ren, AE.ren, qq]; done)) rfl (by (repeat (first | exact trivial | refine ⟨⟨(by first | exact .inl (by decide) | exact .inr (by decide)), (by first | (refine Or.inl ?_; first | rfl | exact congrArg some (ints_ren _ _).symm | exact congrArg ABlk.own (ints_ren _ _).symm | exact congrArg some (tab64_ren _).symm) | rfl | exact congrArg some (ints_ren _ _).symm | exact congrArg ABlk.own (ints_ren _ _).symm | exact congrArg some (tab64_ren _).symm | exact Or.inr ⟨rfl, rfl⟩)⟩, ?_⟩))) (by first | rfl | exact congrArg AV.g (ints_ren _ _) | (simp [ints_ren, AV.ren, ABlk.ren, AC.ren, AE.ren, qq]; done)) ?_
  (conv => whnf); (repeat ((first | (refine ⟨rfl, ?_⟩) | (refine ⟨trivial, ?_⟩) | (refine Wk.yes ?_) | (refine Wk.no ?_) | (refine Wk.and ?_) | (refine ⟨by exact ⟨shr_nonneg _ _, by decide⟩, ?_⟩) | (refine ⟨by exact ⟨shr_nonneg' _ _, by decide⟩, ?_⟩)); (conv => whnf)))
  refine Tr.draw (md := true) [⟨[], [29, 31, 32, 33, 34, 35, 36, 37, 38, 39, 40, 41, 42, 43, 44, 45, 46, 47, 48, 49, 50, 51, 52, 53, 54, 55, 56, 57, 58, 59, 60, 61], [], [], []⟩, ⟨[], [28, 31, 32, 33, 34, 35, 36, 37, 38, 39, 40, 41, 42, 43, 44, 45, 46, 47, 48, 49, 50, 51, 52, 53, 54, 55, 56, 57, 58, 59, 60, 61], [0], [], []⟩, ⟨[0, 1], [31, 32, 33, 34, 35, 36, 37, 38, 39, 40, 41, 42, 43, 44, 45, 46, 47, 48, 49, 50, 51, 52, 53, 54, 55, 56, 57, 58, 59, 60, 61], [], [], []⟩, ⟨[], [28, 29, 30], [0, 1, 2], [], []⟩, ⟨[3], [28, 29, 30], [0, 1, 2], [], []⟩, ⟨[3, 4], [28, 29, 30], [0, 1, 2], [], []⟩, ⟨[3, 4, 5], [28, 29, 30], [0, 1, 2], [], []⟩, ⟨[3, 4, 5, 6], [28, 29, 30], [0, 1, 2], [], []⟩, ⟨[3, 4, 5, 6, 7], [28, 29, 30, 37], [0, 1, 2], [], []⟩, ⟨[3, 4, 5, 6, 7], [28, 29, 30, 36], [0, 1, 2, 8], [], []⟩, ⟨[3, 4, 5, 6, 7, 8, 9], [28, 29, 30], [0, 1, 2], [], []⟩, ⟨[3, 4, 5, 6, 7, 8, 9, 10], [28, 29, 30], [0, 1, 2], [], []⟩, ⟨[3, 4, 5, 6, 7, 8, 9, 10, 11], [28, 29, 30], [0, 1, 2], [], []⟩, ⟨[3, 4, 5, 6, 7, 8, 9, 10, 11, 12], [28, 29, 30], [0, 1, 2], [], []⟩, ⟨[3, 4, 5, 6, 7, 8, 9, 10, 11, 12, 13], [28, 29, 30, 43, 44, 46, 47], [0, 1, 2], [], []⟩, ⟨[3, 4, 5, 6, 7, 8, 9, 10, 11, 12, 13], [28, 29, 30, 42, 46], [0, 1, 2, 14], [], []⟩, ⟨[3, 4, 5, 6, 7, 8, 9, 10, 11, 12, 13, 15], [28, 29, 30, 42, 46], [0, 1, 2, 14], [], []⟩, ⟨[3, 4, 5, 6, 7, 8, 9, 10, 11, 12, 13, 14, 15, 16], [28, 29, 30, 46, 47], [0, 1, 2], [], []⟩, ⟨[3, 4, 5, 6, 7, 8, 9, 10, 11, 12, 13], [28, 29, 30, 42, 43, 44, 45], [0, 1, 2, 14, 15, 16, 17], [], []⟩, ⟨[3, 4, 5, 6, 7, 8, 9, 10, 11, 12, 13, 15, 16, 18], [28, 29, 30, 42, 45], [0, 1, 2, 14, 17], [], []⟩, ⟨[3, 4, 5, 6, 7, 8, 9, 10, 11, 12, 13, 14, 15, 16, 17, 18, 19], [28, 29, 30], [0, 1, 2], [], []⟩, ⟨[3, 4, 5, 6, 7, 8, 9, 10, 11, 12, 13, 14, 15, 16, 17, 18, 19, 20], [28, 29, 30], [0, 1, 2], [], []⟩, ⟨[3, 4, 5, 6, 7, 8, 9, 10, 11, 12, 13, 14, 15, 16, 17, 18, 19, 20, 21], [28, 29, 30], [0, 1, 2], [], []⟩, ⟨[3, 4, 5, 6, 7, 8, 9, 10, 11, 12, 13, 14, 15, 16, 17, 18, 19, 20, 21, 22], [28, 29, 30, 52, 53], [0, 1, 2], [], []⟩, ⟨[3, 4, 5, 6, 7, 8, 9, 10, 11, 12, 13, 14, 15, 16, 17, 18, 19, 20, 21, 22], [28, 29, 30, 51, 53], [0, 1, 2, 23], [], []⟩, ⟨[3, 4, 5, 6, 7, 8, 9, 10, 11, 12, 13, 14, 15, 16, 17, 18, 19, 20, 21, 22], [28, 29, 30, 51, 52], [0, 1, 2, 23, 24], [], []⟩, ⟨[3, 4, 5, 6, 7, 8, 9, 10, 11, 12, 13, 14, 15, 16, 17, 18, 19, 20, 21, 22, 23, 24, 25], [28, 29, 30], [0, 1, 2], [], []⟩, ⟨[3, 4, 5, 6, 7, 8, 9, 10, 11, 12, 13, 14, 15, 16, 17, 18, 19, 20, 21, 22, 23, 24, 25, 26], [28, 29, 30], [0, 1, 2], [], []⟩, ⟨[3, 4, 5, 6, 7, 8, 9, 10, 11, 12, 13, 14, 15, 16, 17, 18, 19, 20, 21, 22, 23, 24, 25, 26, 27], [28, 29, 30], [0, 1, 2], [], []⟩, ⟨[3, 4, 5, 6, 7, 8, 9, 10, 11, 12, 13, 14, 15, 16, 17, 18, 19, 20, 21, 22, 23, 24, 25, 26, 27, 28], [28, 29, 30, 58, 59], [0, 1, 2], [], []⟩, ⟨[3, 4, 5, 6, 7, 8, 9, 10, 11, 12, 13, 14, 15, 16, 17, 18, 19, 20, 21, 22, 23, 24, 25, 26, 27, 28], [28, 29, 30, 57, 59], [0, 1, 2, 29], [], []⟩, ⟨[3, 4, 5, 6, 7, 8, 9, 10, 11, 12, 13, 14, 15, 16, 17, 18, 19, 20, 21, 22, 23, 24, 25, 26, 27, 28], [28, 29, 30, 57, 58], [0, 1, 2, 29, 30], [], []⟩, ⟨[3, 4, 5, 6, 7, 8, 9, 10, 11, 12, 13, 14, 15, 16, 17, 18, 19, 20, 21, 22, 23, 24, 25, 26, 27, 28, 29, 30, 31], [28, 29, 30], [0, 1, 2], [], []⟩, ⟨[3, 4, 5, 6, 7, 8, 9, 10, 11, 12, 13, 14, 15, 16, 17, 18, 19, 20, 21, 22, 23, 24, 25, 26, 27, 28, 29, 30, 31, 32], [28, 29, 30], [0, 1, 2], [], [5]⟩, ⟨[0, 1, 2, 3, 4, 5, 6, 7, 8, 9, 10, 11, 12, 13, 14, 15, 16, 17, 18, 19, 20, 21, 22, 23, 24, 25, 26, 27, 28, 29, 30, 31, 32], [61], [33], [5], []⟩] tok (by kernel_rfl) (by kernel_rfl) ?_
  (conv => whnf); (repeat ((first | (refine ⟨rfl, ?_⟩) | (refine ⟨trivial, ?_⟩) | (refine Wk.yes ?_) | (refine Wk.no ?_) | (refine Wk.and ?_) | (refine ⟨by exact ⟨shr_nonneg _ _, by decide⟩, ?_⟩) | (refine ⟨by exact ⟨shr_nonneg' _ _, by decide⟩, ?_⟩)); (conv => whnf)))
  have hare : areB g x y a b = (x && (y && (decide (a &&& b = 0) && (decide (placesN g a &&& endsN g = endsN g) && (isTreeB g a (placesN g a) && isTreeB g b (placesN g a)))))) := rfl
  rw [hare]
  have hta := isTree_spec hg (n := a) (pl := placesN g a) ha (by omega)
  have htb := isTree_spec hg (n := b) (pl := placesN g a) hb (by omega)
  generalize isTreeB g a (placesN g a) = ta at *
  generalize isTreeB g b (placesN g a) = tb at *
  generalize placesN g a = pl at *
  cases x with
  | false =>
    (conv => whnf); (repeat ((first | (refine ⟨rfl, ?_⟩) | (refine ⟨trivial, ?_⟩) | (refine Wk.yes ?_) | (refine Wk.no ?_) | (refine Wk.and ?_) | (refine ⟨by exact ⟨shr_nonneg _ _, by decide⟩, ?_⟩) | (refine ⟨by exact ⟨shr_nonneg' _ _, by decide⟩, ?_⟩)); (conv => whnf)))
    exact AH.Fin.nil [] ⟨rfl, rfl, rfl⟩ (by first | exact trivial | (simp [tupA, hpLt, tmLt, AV.lt, AE.lt, AC.lt, LL_cons, LL_nil, idOk, ABlk.lt, ints_LL, GB, tab64_LL, gC, wB, giC, noneB, gst, tC, pC]; done) | (simp [tupA, hpLt, tmLt, AV.lt, AE.lt, AC.lt, LL_cons, LL_nil, idOk, ABlk.lt, ints_LL, GB, tab64_LL, gC, wB, giC, noneB, gst, tC, pC, rdn, wrn]; done)) trivial trivial rfl (by simp [GB])
  | true =>
  (conv => whnf); (repeat ((first | (refine ⟨rfl, ?_⟩) | (refine ⟨trivial, ?_⟩) | (refine Wk.yes ?_) | (refine Wk.no ?_) | (refine Wk.and ?_) | (refine ⟨by exact ⟨shr_nonneg _ _, by decide⟩, ?_⟩) | (refine ⟨by exact ⟨shr_nonneg' _ _, by decide⟩, ?_⟩)); (conv => whnf)))
  cases y with
  | false =>
    (conv => whnf); (repeat ((first | (refine ⟨rfl, ?_⟩) | (refine ⟨trivial, ?_⟩) | (refine Wk.yes ?_) | (refine Wk.no ?_) | (refine Wk.and ?_) | (refine ⟨by exact ⟨shr_nonneg _ _, by decide⟩, ?_⟩) | (refine ⟨by exact ⟨shr_nonneg' _ _, by decide⟩, ?_⟩)); (conv => whnf)))
    exact AH.Fin.nil [] ⟨rfl, rfl, rfl⟩ (by first | exact trivial | (simp [tupA, hpLt, tmLt, AV.lt, AE.lt, AC.lt, LL_cons, LL_nil, idOk, ABlk.lt, ints_LL, GB, tab64_LL, gC, wB, giC, noneB, gst, tC, pC]; done) | (simp [tupA, hpLt, tmLt, AV.lt, AE.lt, AC.lt, LL_cons, LL_nil, idOk, ABlk.lt, ints_LL, GB, tab64_LL, gC, wB, giC, noneB, gst, tC, pC, rdn, wrn]; done)) trivial trivial rfl (by simp [GB])
  | true =>
  (conv => whnf); (repeat ((first | (refine ⟨rfl, ?_⟩) | (refine ⟨trivial, ?_⟩) | (refine Wk.yes ?_) | (refine Wk.no ?_) | (refine Wk.and ?_) | (refine ⟨by exact ⟨shr_nonneg _ _, by decide⟩, ?_⟩) | (refine ⟨by exact ⟨shr_nonneg' _ _, by decide⟩, ?_⟩)); (conv => whnf)))
  simp only [Int.toNat_natCast]
  by_cases d0 : a &&& b = 0
  rotate_left
  · rw [decide_eq_false d0, decide_eq_false (show ¬ ((a &&& b : Nat) : Int) = 0 by omega)]
    (conv => whnf); (repeat ((first | (refine ⟨rfl, ?_⟩) | (refine ⟨trivial, ?_⟩) | (refine Wk.yes ?_) | (refine Wk.no ?_) | (refine Wk.and ?_) | (refine ⟨by exact ⟨shr_nonneg _ _, by decide⟩, ?_⟩) | (refine ⟨by exact ⟨shr_nonneg' _ _, by decide⟩, ?_⟩)); (conv => whnf)))
    exact AH.Fin.nil [] ⟨rfl, rfl, rfl⟩ (by first | exact trivial | (simp [tupA, hpLt, tmLt, AV.lt, AE.lt, AC.lt, LL_cons, LL_nil, idOk, ABlk.lt, ints_LL, GB, tab64_LL, gC, wB, giC, noneB, gst, tC, pC]; done) | (simp [tupA, hpLt, tmLt, AV.lt, AE.lt, AC.lt, LL_cons, LL_nil, idOk, ABlk.lt, ints_LL, GB, tab64_LL, gC, wB, giC, noneB, gst, tC, pC, rdn, wrn]; done)) trivial trivial rfl (by simp [GB])
  rw [decide_eq_true d0, decide_eq_true (show ((a &&& b : Nat) : Int) = 0 by omega)]
  (conv => whnf); (repeat ((first | (refine ⟨rfl, ?_⟩) | (refine ⟨trivial, ?_⟩) | (refine Wk.yes ?_) | (refine Wk.no ?_) | (refine Wk.and ?_) | (refine ⟨by exact ⟨shr_nonneg _ _, by decide⟩, ?_⟩) | (refine ⟨by exact ⟨shr_nonneg' _ _, by decide⟩, ?_⟩)); (conv => whnf)))
  refine CallQ.ro [0] (.c (.int .i64 (endsN g))) (ends_spec hg) (by first | rfl | exact congrArg AV.g (ints_ren _ _) | (simp [ints_ren, AV.ren, ABlk.ren, AC.ren, AE.ren, qq]; done)) rfl (by (repeat (first | exact trivial | refine ⟨⟨(by first | exact .inl (by decide) | exact .inr (by decide)), (by first | (refine Or.inl ?_; first | rfl | exact congrArg some (ints_ren _ _).symm | exact congrArg ABlk.own (ints_ren _ _).symm | exact congrArg some (tab64_ren _).symm) | rfl | exact congrArg some (ints_ren _ _).symm | exact congrArg ABlk.own (ints_ren _ _).symm | exact congrArg some (tab64_ren _).symm | exact Or.inr ⟨rfl, rfl⟩)⟩, ?_⟩))) (by first | rfl | exact congrArg AV.g (ints_ren _ _) | (simp [ints_ren, AV.ren, ABlk.ren, AC.ren, AE.ren, qq]; done)) ?_
  (conv => whnf); (repeat ((first | (refine ⟨rfl, ?_⟩) | (refine ⟨trivial, ?_⟩) | (refine Wk.yes ?_) | (refine Wk.no ?_) | (refine Wk.and ?_) | (refine ⟨by exact ⟨shr_nonneg _ _, by decide⟩, ?_⟩) | (refine ⟨by exact ⟨shr_nonneg' _ _, by decide⟩, ?_⟩)); (conv => whnf)))
  refine CallQ.ro [0] (.c (.int .i64 (endsN g))) (ends_spec hg) (by first | rfl | exact congrArg AV.g (ints_ren _ _) | (simp [ints_ren, AV.ren, ABlk.ren, AC.ren, AE.ren, qq]; done)) rfl (by (repeat (first | exact trivial | refine ⟨⟨(by first | exact .inl (by decide) | exact .inr (by decide)), (by first | (refine Or.inl ?_; first | rfl | exact congrArg some (ints_ren _ _).symm | exact congrArg ABlk.own (ints_ren _ _).symm | exact congrArg some (tab64_ren _).symm) | rfl | exact congrArg some (ints_ren _ _).symm | exact congrArg ABlk.own (ints_ren _ _).symm | exact congrArg some (tab64_ren _).symm | exact Or.inr ⟨rfl, rfl⟩)⟩, ?_⟩))) (by first | rfl | exact congrArg AV.g (ints_ren _ _) | (simp [ints_ren, AV.ren, ABlk.ren, AC.ren, AE.ren, qq]; done)) ?_
  (conv => whnf); (repeat ((first | (refine ⟨rfl, ?_⟩) | (refine ⟨trivial, ?_⟩) | (refine Wk.yes ?_) | (refine Wk.no ?_) | (refine Wk.and ?_) | (refine ⟨by exact ⟨shr_nonneg _ _, by decide⟩, ?_⟩) | (refine ⟨by exact ⟨shr_nonneg' _ _, by decide⟩, ?_⟩)); (conv => whnf)))
  simp only [Int.toNat_natCast]
  by_cases d1 : pl &&& endsN g = endsN g
  rotate_left
  · rw [decide_eq_false d1, decide_eq_false (show ¬ ((pl &&& endsN g : Nat) : Int) = ((endsN g : Nat) : Int) by omega)]
    (conv => whnf); (repeat ((first | (refine ⟨rfl, ?_⟩) | (refine ⟨trivial, ?_⟩) | (refine Wk.yes ?_) | (refine Wk.no ?_) | (refine Wk.and ?_) | (refine ⟨by exact ⟨shr_nonneg _ _, by decide⟩, ?_⟩) | (refine ⟨by exact ⟨shr_nonneg' _ _, by decide⟩, ?_⟩)); (conv => whnf)))
    exact AH.Fin.nil [] ⟨rfl, rfl, rfl⟩ (by first | exact trivial | (simp [tupA, hpLt, tmLt, AV.lt, AE.lt, AC.lt, LL_cons, LL_nil, idOk, ABlk.lt, ints_LL, GB, tab64_LL, gC, wB, giC, noneB, gst, tC, pC]; done) | (simp [tupA, hpLt, tmLt, AV.lt, AE.lt, AC.lt, LL_cons, LL_nil, idOk, ABlk.lt, ints_LL, GB, tab64_LL, gC, wB, giC, noneB, gst, tC, pC, rdn, wrn]; done)) trivial trivial rfl (by simp [GB])
  rw [decide_eq_true d1, decide_eq_true (show ((pl &&& endsN g : Nat) : Int) = ((endsN g : Nat) : Int) by omega)]
  (conv => whnf); (repeat ((first | (refine ⟨rfl, ?_⟩) | (refine ⟨trivial, ?_⟩) | (refine Wk.yes ?_) | (refine Wk.no ?_) | (refine Wk.and ?_) | (refine ⟨by exact ⟨shr_nonneg _ _, by decide⟩, ?_⟩) | (refine ⟨by exact ⟨shr_nonneg' _ _, by decide⟩, ?_⟩)); (conv => whnf)))
  refine CallQ.ro [0] (.c (.bool ta)) (hta) (by first | rfl | exact congrArg AV.g (ints_ren _ _) | (simp [ints_ren, AV.ren, ABlk.ren, AC.ren, AE.ren, qq]; done)) rfl (by (repeat (first | exact trivial | refine ⟨⟨(by first | exact .inl (by decide) | exact .inr (by decide)), (by first | (refine Or.inl ?_; first | rfl | exact congrArg some (ints_ren _ _).symm | exact congrArg ABlk.own (ints_ren _ _).symm | exact congrArg some (tab64_ren _).symm) | rfl | exact congrArg some (ints_ren _ _).symm | exact congrArg ABlk.own (ints_ren _ _).symm | exact congrArg some (tab64_ren _).symm | exact Or.inr ⟨rfl, rfl⟩)⟩, ?_⟩))) (by first | rfl | exact congrArg AV.g (ints_ren _ _) | (simp [ints_ren, AV.ren, ABlk.ren, AC.ren, AE.ren, qq]; done)) ?_
  (conv => whnf); (repeat ((first | (refine ⟨rfl, ?_⟩) | (refine ⟨trivial, ?_⟩) | (refine Wk.yes ?_) | (refine Wk.no ?_) | (refine Wk.and ?_) | (refine ⟨by exact ⟨shr_nonneg _ _, by decide⟩, ?_⟩) | (refine ⟨by exact ⟨shr_nonneg' _ _, by decide⟩, ?_⟩)); (conv => whnf)))
  cases ta with
  | false =>
    (conv => whnf); (repeat ((first | (refine ⟨rfl, ?_⟩) | (refine ⟨trivial, ?_⟩) | (refine Wk.yes ?_) | (refine Wk.no ?_) | (refine Wk.and ?_) | (refine ⟨by exact ⟨shr_nonneg _ _, by decide⟩, ?_⟩) | (refine ⟨by exact ⟨shr_nonneg' _ _, by decide⟩, ?_⟩)); (conv => whnf)))
    exact AH.Fin.nil [] ⟨rfl, rfl, rfl⟩ (by first | exact trivial | (simp [tupA, hpLt, tmLt, AV.lt, AE.lt, AC.lt, LL_cons, LL_nil, idOk, ABlk.lt, ints_LL, GB, tab64_LL, gC, wB, giC, noneB, gst, tC, pC]; done) | (simp [tupA, hpLt, tmLt, AV.lt, AE.lt, AC.lt, LL_cons, LL_nil, idOk, ABlk.lt, ints_LL, GB, tab64_LL, gC, wB, giC, noneB, gst, tC, pC, rdn, wrn]; done)) trivial trivial rfl (by simp [GB])
  | true =>
    (conv => whnf); (repeat ((first | (refine ⟨rfl, ?_⟩) | (refine ⟨trivial, ?_⟩) | (refine Wk.yes ?_) | (refine Wk.no ?_) | (refine Wk.and ?_) | (refine ⟨by exact ⟨shr_nonneg _ _, by decide⟩, ?_⟩) | (refine ⟨by exact ⟨shr_nonneg' _ _, by decide⟩, ?_⟩)); (conv => whnf)))
    refine CallQ.ro [0] (.c (.bool tb)) (htb) (by first | rfl | exact congrArg AV.g (ints_ren _ _) | (simp [ints_ren, AV.ren, ABlk.ren, AC.ren, AE.ren, qq]; done)) rfl (by (repeat (first | exact trivial | refine ⟨⟨(by first | exact .inl (by decide) | exact .inr (by decide)), (by first | (refine Or.inl ?_; first | rfl | exact congrArg some (ints_ren _ _).symm | exact congrArg ABlk.own (ints_ren _ _).symm | exact congrArg some (tab64_ren _).symm) | rfl | exact congrArg some (ints_ren _ _).symm | exact congrArg ABlk.own (ints_ren _ _).symm | exact congrArg some (tab64_ren _).symm | exact Or.inr ⟨rfl, rfl⟩)⟩, ?_⟩))) (by first | rfl | exact congrArg AV.g (ints_ren _ _) | (simp [ints_ren, AV.ren, ABlk.ren, AC.ren, AE.ren, qq]; done)) ?_
    (conv => whnf); (repeat ((first | (refine ⟨rfl, ?_⟩) | (refine ⟨trivial, ?_⟩) | (refine Wk.yes ?_) | (refine Wk.no ?_) | (refine Wk.and ?_) | (refine ⟨by exact ⟨shr_nonneg _ _, by decide⟩, ?_⟩) | (refine ⟨by exact ⟨shr_nonneg' _ _, by decide⟩, ?_⟩)); (conv => whnf)))
    cases tb with
    | false =>
      (conv => whnf); (repeat ((first | (refine ⟨rfl, ?_⟩) | (refine ⟨trivial, ?_⟩) | (refine Wk.yes ?_) | (refine Wk.no ?_) | (refine Wk.and ?_) | (refine ⟨by exact ⟨shr_nonneg _ _, by decide⟩, ?_⟩) | (refine ⟨by exact ⟨shr_nonneg' _ _, by decide⟩, ?_⟩)); (conv => whnf)))
      exact AH.Fin.nil [] ⟨rfl, rfl, rfl⟩ (by first | exact trivial | (simp [tupA, hpLt, tmLt, AV.lt, AE.lt, AC.lt, LL_cons, LL_nil, idOk, ABlk.lt, ints_LL, GB, tab64_LL, gC, wB, giC, noneB, gst, tC, pC]; done) | (simp [tupA, hpLt, tmLt, AV.lt, AE.lt, AC.lt, LL_cons, LL_nil, idOk, ABlk.lt, ints_LL, GB, tab64_LL, gC, wB, giC, noneB, gst, tC, pC, rdn, wrn]; done)) trivial trivial rfl (by simp [GB])
    | true =>
      (conv => whnf); (repeat ((first | (refine ⟨rfl, ?_⟩) | (refine ⟨trivial, ?_⟩) | (refine Wk.yes ?_) | (refine Wk.no ?_) | (refine Wk.and ?_) | (refine ⟨by exact ⟨shr_nonneg _ _, by decide⟩, ?_⟩) | (refine ⟨by exact ⟨shr_nonneg' _ _, by decide⟩, ?_⟩)); (conv => whnf)))
      exact AH.Fin.nil [] ⟨rfl, rfl, rfl⟩ (by first | exact trivial | (simp [tupA, hpLt, tmLt, AV.lt, AE.lt, AC.lt, LL_cons, LL_nil, idOk, ABlk.lt, ints_LL, GB, tab64_LL, gC, wB, giC, noneB, gst, tC, pC]; done) | (simp [tupA, hpLt, tmLt, AV.lt, AE.lt, AC.lt, LL_cons, LL_nil, idOk, ABlk.lt, ints_LL, GB, tab64_LL, gC, wB, giC, noneB, gst, tC, pC, rdn, wrn]; done)) trivial trivial rfl (by simp [GB])
end Go.Proofs.YtfphkpdobbffeaaDoor

/-
  Contract: the reply to a cut wire, by the program.
-/
namespace Go.Proofs.YtfphkpdobbffeaaDoor
open Go Go.AH
set_option maxRecDepth 100000
set_option maxHeartbeats 1000000

def mends (g : Gm) (own cut : Nat) (i : Int) : Bool := isTreeB g (offN own cut ||| 2 ^ i.toNat) (placesN g own)
def replyO (g : Gm) (own oth cut : Nat) : Option Int := (mem oth).find? (mends g own cut)
def replyV (g : Gm) (x y : Bool) (a b : Nat) (cut : Int) : Int × Bool × Int :=
  if cut < 0 ∨ (g.ws.length : Int) ≤ cut then (0, false, 1) else if areB g x y a b = false then (0, false, 1) else if b.testBit cut.toNat = true then ((replyO g b a cut.toNat).getD 0, true, 0) else if a.testBit cut.toNat = true then ((replyO g a b cut.toNat).getD 0, true, 0) else (0, false, 0)
def replyT (q : Int × Bool × Int) : AV := .t [.c (.int .i64 q.1), .c (.bool q.2.1), .c (.int .i64 q.2.2)]
theorem Reply_spec {g : Gm} (hg : g.game) (L0 L1 : List Int) (h0 : L0.length ≤ 1000) (h1 : L1.length ≤ 1000) (cut : Int) : FDet Tryd.prog 33 [.g (gC g 0), .g [.rs 1 0 L0.length, .rs 2 0 L1.length], .c (.int .i64 cut)] [(0, wB g), (1, .ro (ints L0)), (2, .ro (ints L1)), (100002, .ro tab64)] 3
    (replyT (replyV g (setOk g.ws.length L0) (setOk g.ws.length L1) (setV g.ws.length L0) (setV g.ws.length L1) cut)) [] 3 := by
  have hgl := hg.ok.len
  have hp2 : 2 ^ g.ws.length ≤ 1024 := Nat.pow_le_pow_right (by omega) hgl
  have har := areTrees_spec hg.ok L0 L1 h0 h1
  have ha := setV_lt g.ws.length L0
  have hb := setV_lt g.ws.length L1
  generalize setV g.ws.length L0 = a at *
  generalize setV g.ws.length L1 = b at *
  generalize setOk g.ws.length L0 = x at *
  generalize setOk g.ws.length L1 = y at *
  refine FSpec.of_body tok true Tryd.func33 rfl (by kernel_rfl) (by decide) (by simp [tupA, hpLt, tmLt, AV.lt, AE.lt, AC.lt, LL_cons, LL_nil, idOk, ABlk.lt, ints_LL, GB, tab64_LL, gC, wB, giC, noneB, gst, tC, pC]) (by simp [tupA, hpLt, tmLt, AV.lt, AE.lt, AC.lt, LL_cons, LL_nil, idOk, ABlk.lt, ints_LL, GB, tab64_LL, gC, wB, giC, noneB, gst, tC, pC]) (by show 3 ≤ _; decide) ?_
  (conv => whnf); (repeat ((first | (refine ⟨rfl, ?_⟩) | (refine ⟨trivial, ?_⟩) | (refine Wk.yes ?_) | (refine Wk.no ?_) | (refine Wk.and ?_) | (refine ⟨by exact ⟨shr_nonneg _ _, by decide⟩, ?_⟩) | (refine ⟨by exact ⟨shr_nonneg' _ _, by decide⟩, ?_⟩)); (conv => whnf)))
  refine CallA.ro [0] (.c (.int .i64 0)) (check_ok hg) (by first | rfl | exact congrArg AV.g (ints_ren _ _) | (simp [ints_ren, AV.ren, ABlk.ren, AC.ren, AE.ren, qq]; done)) rfl (by (repeat (first | exact trivial | refine ⟨⟨(by first | exact .inl (by decide) | exact .inr (by decide)), (by first | (refine Or.inl ?_; first | rfl | exact congrArg some (ints_ren _ _).symm | exact congrArg ABlk.own (ints_ren _ _).symm | exact congrArg some (tab64_ren _).symm) | rfl | exact congrArg some (ints_ren _ _).symm | exact congrArg ABlk.own (ints_ren _ _).symm | exact congrArg some (tab64_ren _).symm | exact Or.inr ⟨rfl, rfl⟩)⟩, ?_⟩))) (by first | rfl | exact congrArg AV.g (ints_ren _ _) | (simp [ints_ren, AV.ren, ABlk.ren, AC.ren, AE.ren, qq]; done)) ?_
  (conv => whnf); (repeat ((first | (refine ⟨rfl, ?_⟩) | (refine ⟨trivial, ?_⟩) | (refine Wk.yes ?_) | (refine Wk.no ?_) | (refine Wk.and ?_) | (refine ⟨by exact ⟨shr_nonneg _ _, by decide⟩, ?_⟩) | (refine ⟨by exact ⟨shr_nonneg' _ _, by decide⟩, ?_⟩)); (conv => whnf)))
  by_cases c1 : cut < 0
  · rw [decide_eq_true c1]
    rw [show replyV g x y a b cut = (0, false, 1) by rw [replyV, if_pos (.inl c1)]]
    (conv => whnf); (repeat ((first | (refine ⟨rfl, ?_⟩) | (refine ⟨trivial, ?_⟩) | (refine Wk.yes ?_) | (refine Wk.no ?_) | (refine Wk.and ?_) | (refine ⟨by exact ⟨shr_nonneg _ _, by decide⟩, ?_⟩) | (refine ⟨by exact ⟨shr_nonneg' _ _, by decide⟩, ?_⟩)); (conv => whnf)))
    exact AH.Fin.nil [] ⟨rfl, rfl, rfl⟩ (by first | exact trivial | (simp [tupA, hpLt, tmLt, AV.lt, AE.lt, AC.lt, LL_cons, LL_nil, idOk, ABlk.lt, ints_LL, GB, tab64_LL, gC, wB, giC, noneB, gst, tC, pC]; done) | (simp [tupA, hpLt, tmLt, AV.lt, AE.lt, AC.lt, LL_cons, LL_nil, idOk, ABlk.lt, ints_LL, GB, tab64_LL, gC, wB, giC, noneB, gst, tC, pC, rdn, wrn]; done)) trivial trivial rfl (by simp [GB])
  rw [decide_eq_false c1]
  (conv => whnf); (repeat ((first | (refine ⟨rfl, ?_⟩) | (refine ⟨trivial, ?_⟩) | (refine Wk.yes ?_) | (refine Wk.no ?_) | (refine Wk.and ?_) | (refine ⟨by exact ⟨shr_nonneg _ _, by decide⟩, ?_⟩) | (refine ⟨by exact ⟨shr_nonneg' _ _, by decide⟩, ?_⟩)); (conv => whnf)))
  by_cases c2 : (g.ws.length : Int) ≤ cut
  · rw [decide_eq_true c2]
    rw [show replyV g x y a b cut = (0, false, 1) by rw [replyV, if_pos (.inr c2)]]
    (conv => whnf); (repeat ((first | (refine ⟨rfl, ?_⟩) | (refine ⟨trivial, ?_⟩) | (refine Wk.yes ?_) | (refine Wk.no ?_) | (refine Wk.and ?_) | (refine ⟨by exact ⟨shr_nonneg _ _, by decide⟩, ?_⟩) | (refine ⟨by exact ⟨shr_nonneg' _ _, by decide⟩, ?_⟩)); (conv => whnf)))
    exact AH.Fin.nil [] ⟨rfl, rfl, rfl⟩ (by first | exact trivial | (simp [tupA, hpLt, tmLt, AV.lt, AE.lt, AC.lt, LL_cons, LL_nil, idOk, ABlk.lt, ints_LL, GB, tab64_LL, gC, wB, giC, noneB, gst, tC, pC]; done) | (simp [tupA, hpLt, tmLt, AV.lt, AE.lt, AC.lt, LL_cons, LL_nil, idOk, ABlk.lt, ints_LL, GB, tab64_LL, gC, wB, giC, noneB, gst, tC, pC, rdn, wrn]; done)) trivial trivial rfl (by simp [GB])
  rw [decide_eq_false c2]
  have hv0 : replyV g x y a b cut = if areB g x y a b = false then (0, false, 1) else if b.testBit cut.toNat = true then ((replyO g b a cut.toNat).getD 0, true, 0) else if a.testBit cut.toNat = true then ((replyO g a b cut.toNat).getD 0, true, 0) else (0, false, 0) := by rw [replyV, if_neg (by omega)]
  obtain ⟨c, rfl⟩ : ∃ c : Nat, cut = c := ⟨cut.toNat, by omega⟩
  rw [Int.toNat_natCast] at hv0
  have hcl : c < g.ws.length := by omega
  generalize areB g x y a b = ar at *
  (conv => whnf); (repeat ((first | (refine ⟨rfl, ?_⟩) | (refine ⟨trivial, ?_⟩) | (refine Wk.yes ?_) | (refine Wk.no ?_) | (refine Wk.and ?_) | (refine ⟨by exact ⟨shr_nonneg _ _, by decide⟩, ?_⟩) | (refine ⟨by exact ⟨shr_nonneg' _ _, by decide⟩, ?_⟩)); (conv => whnf)))
  refine CallA.ro [0, 1, 2] (.t [.g [.int .i64 a, .int .i64 b], .c (.bool ar)]) (har) (by first | rfl | exact congrArg AV.g (ints_ren _ _) | (simp [ints_ren, AV.ren, ABlk.ren, AC.ren, AE.ren, qq]; done)) rfl (by (repeat (first | exact trivial | refine ⟨⟨(by first | exact .inl (by decide) | exact .inr (by decide)), (by first | (refine Or.inl ?_; first | rfl | exact congrArg some (ints_ren _ _).symm | exact congrArg ABlk.own (ints_ren _ _).symm | exact congrArg some (tab64_ren _).symm) | rfl | exact congrArg some (ints_ren _ _).symm | exact congrArg ABlk.own (ints_ren _ _).symm | exact congrArg some (tab64_ren _).symm | exact Or.inr ⟨rfl, rfl⟩)⟩, ?_⟩))) (by first | rfl | exact congrArg AV.g (ints_ren _ _) | (simp [ints_ren, AV.ren, ABlk.ren, AC.ren, AE.ren, qq]; done)) ?_
  (conv => whnf); (repeat ((first | (refine ⟨rfl, ?_⟩) | (refine ⟨trivial, ?_⟩) | (refine Wk.yes ?_) | (refine Wk.no ?_) | (refine Wk.and ?_) | (refine ⟨by exact ⟨shr_nonneg _ _, by decide⟩, ?_⟩) | (refine ⟨by exact ⟨shr_nonneg' _ _, by decide⟩, ?_⟩)); (conv => whnf)))
  cases ar with
  | false =>
    rw [hv0, if_pos rfl]
    (conv => whnf); (repeat ((first | (refine ⟨rfl, ?_⟩) | (refine ⟨trivial, ?_⟩) | (refine Wk.yes ?_) | (refine Wk.no ?_) | (refine Wk.and ?_) | (refine ⟨by exact ⟨shr_nonneg _ _, by decide⟩, ?_⟩) | (refine ⟨by exact ⟨shr_nonneg' _ _, by decide⟩, ?_⟩)); (conv => whnf)))
    exact AH.Fin.nil [] ⟨rfl, rfl, rfl⟩ (by first | exact trivial | (simp [tupA, hpLt, tmLt, AV.lt, AE.lt, AC.lt, LL_cons, LL_nil, idOk, ABlk.lt, ints_LL, GB, tab64_LL, gC, wB, giC, noneB, gst, tC, pC]; done) | (simp [tupA, hpLt, tmLt, AV.lt, AE.lt, AC.lt, LL_cons, LL_nil, idOk, ABlk.lt, ints_LL, GB, tab64_LL, gC, wB, giC, noneB, gst, tC, pC, rdn, wrn]; done)) trivial trivial rfl (by simp [GB])
  | true =>
  rw [if_neg (by decide)] at hv0
  rw [hv0]
  (conv => whnf); (repeat ((first | (refine ⟨rfl, ?_⟩) | (refine ⟨trivial, ?_⟩) | (refine Wk.yes ?_) | (refine Wk.no ?_) | (refine Wk.and ?_) | (refine ⟨by exact ⟨shr_nonneg _ _, by decide⟩, ?_⟩) | (refine ⟨by exact ⟨shr_nonneg' _ _, by decide⟩, ?_⟩)); (conv => whnf)))
  refine Tr.draw (md := true) [⟨[], [12, 41, 42], [], [], []⟩, ⟨[0], [12, 41, 42], [], [], []⟩, ⟨[], [12, 39, 40], [0, 1], [], [6]⟩, ⟨[2], [12, 39, 40], [0, 1], [], [6]⟩, ⟨[], [39, 40, 41, 42], [0, 1, 2, 3], [], []⟩, ⟨[0, 1, 4], [41, 42], [2, 3], [6], []⟩] tok (by kernel_rfl) (by kernel_rfl) ?_
  (conv => whnf); (repeat ((first | (refine ⟨rfl, ?_⟩) | (refine ⟨trivial, ?_⟩) | (refine Wk.yes ?_) | (refine Wk.no ?_) | (refine Wk.and ?_) | (refine ⟨by exact ⟨shr_nonneg _ _, by decide⟩, ?_⟩) | (refine ⟨by exact ⟨shr_nonneg' _ _, by decide⟩, ?_⟩)); (conv => whnf)))
  rw [wrapU (by omega)]
  have he : ∀ n : Nat, (((n : Nat) : Int) / 2 ^ ((c : Nat) : Int).toNat).toNat &&& Int.toNat 1 = bit n c := fun n => by
    have e : ((n : Nat) : Int) / 2 ^ ((c : Nat) : Int).toNat = ((n / 2 ^ c : Nat) : Int) := by rw [Int.toNat_natCast]; simp
    rw [e, Int.toNat_natCast]
    exact Nat.and_one_is_mod _
  have hsh : ∀ n : Nat, n < 1024 → 0 ≤ ((n : Nat) : Int) / 2 ^ ((c : Nat) : Int).toNat ∧ ((n : Nat) : Int) / 2 ^ ((c : Nat) : Int).toNat < 9223372036854775808 := fun n hn => by
    have e : ((n : Nat) : Int) / 2 ^ ((c : Nat) : Int).toNat = ((n / 2 ^ c : Nat) : Int) := by rw [Int.toNat_natCast]; simp
    have := Nat.div_le_self n (2 ^ c)
    rw [e]
    generalize n / 2 ^ c = d at *
    omega
  have hsb := hsh b (by omega)
  have hsa := hsh a (by omega)
  refine ⟨⟨by omega, by show (c : Int) < 64; omega⟩, ?_⟩
  (conv => whnf); (repeat ((first | (refine ⟨rfl, ?_⟩) | (refine ⟨trivial, ?_⟩) | (refine Wk.yes ?_) | (refine Wk.no ?_) | (refine Wk.and ?_) | (refine ⟨by exact ⟨shr_nonneg _ _, by decide⟩, ?_⟩) | (refine ⟨by exact ⟨shr_nonneg' _ _, by decide⟩, ?_⟩)); (conv => whnf)))
  rw [he b]
  have cb := bit_01 b c
  have ca := bit_01 a c
  obtain ⟨q, hq⟩ : ∃ q, q = 2 ^ c := ⟨_, rfl⟩
  have hqs : q < 2048 := hq ▸ pow_small (by omega)
  by_cases d1 : b.testBit c = true
  · have d2 := (bit_test b c).2 d1
    rw [if_pos d1, decide_eq_true (show ((bit b c : Nat) : Int) = 1 by omega)]
    (conv => whnf); (repeat ((first | (refine ⟨rfl, ?_⟩) | (refine ⟨trivial, ?_⟩) | (refine Wk.yes ?_) | (refine Wk.no ?_) | (refine Wk.and ?_) | (refine ⟨by exact ⟨shr_nonneg _ _, by decide⟩, ?_⟩) | (refine ⟨by exact ⟨shr_nonneg' _ _, by decide⟩, ?_⟩)); (conv => whnf)))
    refine Tr.draw (md := true) [⟨[], [53, 54], [], [], []⟩, ⟨[0], [53, 54], [], [], []⟩, ⟨[], [51, 52], [0, 1], [], [6]⟩, ⟨[2], [51, 52], [0, 1], [], [6]⟩, ⟨[0, 1], [53, 54], [2, 3], [6], []⟩] tok (by kernel_rfl) (by kernel_rfl) ?_
    (conv => whnf); (repeat ((first | (refine ⟨rfl, ?_⟩) | (refine ⟨trivial, ?_⟩) | (refine Wk.yes ?_) | (refine Wk.no ?_) | (refine Wk.and ?_) | (refine ⟨by exact ⟨shr_nonneg _ _, by decide⟩, ?_⟩) | (refine ⟨by exact ⟨shr_nonneg' _ _, by decide⟩, ?_⟩)); (conv => whnf)))
    rw [wrapU (by omega)]
    refine ⟨⟨by omega, by omega, by rw [shl1 hq]; unfold I64; omega⟩, ?_⟩
    rw [shl1 hq]
    (conv => whnf); (repeat ((first | (refine ⟨rfl, ?_⟩) | (refine ⟨trivial, ?_⟩) | (refine Wk.yes ?_) | (refine Wk.no ?_) | (refine Wk.and ?_) | (refine ⟨by exact ⟨shr_nonneg _ _, by decide⟩, ?_⟩) | (refine ⟨by exact ⟨shr_nonneg' _ _, by decide⟩, ?_⟩)); (conv => whnf)))
    have hofe : b ^^^ (b &&& q) = offN b c := by rw [offN, hq]
    have hofl : offN b c < 2 ^ 10 := by
      have h1 : b &&& 2 ^ c ≤ b := Nat.and_le_left
      exact Nat.xor_lt_two_pow (by omega) (by omega)
    simp only [Int.toNat_natCast, hofe]
    refine CallA.det [] (.c (.fn 98 [] [9])) ([(8, .own [.int .i64 0]), (7, .own [.int .i64 (offN b c : Nat)]), (6, .own [.int .i64 b]), (5, .own [.int .i64 a, .int .i64 b]), (4, .own [.rs 1 0 L0.length, .rs 2 0 L1.length]), (3, .own (gC g 0)), (0, wB g), (1, .ro (ints L0)), (2, .ro (ints L1)), (100002, .ro tab64), (9, .own [.int .i64 a])]) (members_spec a) (by first | rfl | exact congrArg AV.g (ints_ren _ _) | (simp [ints_ren, AV.ren, ABlk.ren, AC.ren, AE.ren, qq]; done)) rfl (by (repeat (first | exact trivial | refine ⟨⟨(by first | exact .inl (by decide) | exact .inr (by decide)), (by first | (refine Or.inl ?_; first | rfl | exact congrArg some (ints_ren _ _).symm | exact congrArg ABlk.own (ints_ren _ _).symm | exact congrArg some (tab64_ren _).symm) | rfl | exact congrArg some (ints_ren _ _).symm | exact congrArg ABlk.own (ints_ren _ _).symm | exact congrArg some (tab64_ren _).symm | exact Or.inr ⟨rfl, rfl⟩)⟩, ?_⟩))) (by first | rfl | exact congrArg AV.g (ints_ren _ _) | (simp [ints_ren, AV.ren, ABlk.ren, AC.ren, AE.ren, qq]; done)) (by first | rfl | (simp [behind, gone, lk, up, del, qq, ABlk.wr, GB, ints_ren, AV.ren, ABlk.ren, AC.ren, AE.ren]; done) | (simp [behind, gone, lk, up, del, qq, ABlk.wr, GB, ints_ren, AV.ren, ABlk.ren, AC.ren, AE.ren]; rfl)) ?_
    (conv => whnf); (repeat ((first | (refine ⟨rfl, ?_⟩) | (refine ⟨trivial, ?_⟩) | (refine Wk.yes ?_) | (refine Wk.no ?_) | (refine Wk.and ?_) | (refine ⟨by exact ⟨shr_nonneg _ _, by decide⟩, ?_⟩) | (refine ⟨by exact ⟨shr_nonneg' _ _, by decide⟩, ?_⟩)); (conv => whnf)))
    refine Tr.range (md := true) tok rfl (mem a) ([(9, .ro [.int .i64 a]), (100002, .ro tab64)]) (members1_iter (by omega) 9 (by decide)) (by (repeat (first | exact trivial | refine ⟨trivial, ?_⟩ | refine ⟨rfl, ?_⟩))) rfl (fun pre => [(9, .ro [.int .i64 a]), (8, .own [.int .i64 0]), (7, .own [.int .i64 (offN b c : Nat)]), (6, .own [.int .i64 b]), (5, .own [.int .i64 a, .int .i64 b]), (4, .own [.rs 1 0 L0.length, .rs 2 0 L1.length]), (3, .own (gC g 0)), (0, wB g), (1, .ro (ints L0)), (2, .ro (ints L1)), (100002, .ro tab64)]) (fun pre => ∀ y ∈ pre, mends g b c y = false) (10) (by decide) (by first | trivial | rfl | decide | simp) (by (repeat (first | exact trivial | refine ⟨trivial, ?_⟩ | refine ⟨rfl, ?_⟩))) (fun pre hpre => (by simp [tupA, hpLt, tmLt, AV.lt, AE.lt, AC.lt, LL_cons, LL_nil, idOk, ABlk.lt, ints_LL, GB, tab64_LL, gC, wB, giC, noneB, gst, tC, pC])) (fun pre hpre => ⟨(by (repeat (first | exact trivial | refine ⟨trivial, ?_⟩ | refine ⟨rfl, ?_⟩))), (by (repeat (first | exact trivial | refine ⟨trivial, ?_⟩ | refine ⟨rfl, ?_⟩)))⟩) rfl rfl (by decide) ?_ ?_
    · intro pre z hpre hinv hz hl
      obtain ⟨z0, z1⟩ := mem_lt hgl ha hz
      obtain ⟨w, hw, hzw, hw10⟩ := mem_memN hz
      subst hzw
      rw [Int.toNat_natCast] at z1
      obtain ⟨q2, hq2⟩ : ∃ q, q = 2 ^ w := ⟨_, rfl⟩
      have p2 : q2 < 2048 := hq2 ▸ pow_small (by omega)
      have hor : offN b c ||| q2 < 2 ^ g.ws.length := by
        refine or_lt ?_ (by rw [hq2]; exact (Nat.pow_lt_pow_iff_right (by omega)).2 z1)
        have h1 : b &&& 2 ^ c ≤ b := Nat.and_le_left
        exact Nat.xor_lt_two_pow (by omega) (by omega)
      have hpl := placesN_lt8 hg.ok hb
      have hit := isTree_spec hg.ok (n := offN b c ||| q2) (pl := placesN g b) hor (by omega)
      have hme : mends g b c w = isTreeB g (offN b c ||| q2) (placesN g b) := by rw [mends, Int.toNat_natCast, hq2]
      rw [← hme] at hit
      have next : mends g b c w = false → ∀ y ∈ pre ++ [(w : Int)], mends g b c y = false := fun h y hy => by
        rcases List.mem_append.1 hy with hy | hy
        · exact hinv y hy
        · simp at hy; exact hy ▸ h
      have hfound : mends g b c w = true → pre ++ [(w : Int)] <+: mem a → replyO g b a c = some (w : Int) := fun h hpfx => by
        obtain ⟨suf, hsuf⟩ := hpfx
        rw [replyO, ← hsuf, List.append_assoc, List.find?_append, List.find?_eq_none.2 (fun y hy => by rw [hinv y hy]; simp)]
        simp [h]
      generalize mends g b c w = mw at *
      (conv => whnf); (repeat ((first | (refine ⟨rfl, ?_⟩) | (refine ⟨trivial, ?_⟩) | (refine Wk.yes ?_) | (refine Wk.no ?_) | (refine Wk.and ?_) | (refine ⟨by exact ⟨shr_nonneg _ _, by decide⟩, ?_⟩) | (refine ⟨by exact ⟨shr_nonneg' _ _, by decide⟩, ?_⟩)); (conv => whnf)))
      refine Tr.draw (md := true) [⟨[], [72, 73, 74, 75, 76, 77, 78, 79], [], [], []⟩, ⟨[], [71, 73, 74, 75, 77, 78, 79], [0], [], []⟩, ⟨[], [71, 72, 77, 78, 79], [0, 1], [], []⟩, ⟨[2], [71, 72, 77, 78, 79], [0, 1], [], []⟩, ⟨[2, 3], [71, 72, 77, 78, 79], [0, 1], [], []⟩, ⟨[1, 2, 3, 4], [71, 77, 78, 79], [0], [], []⟩, ⟨[], [71, 72, 73, 74, 75, 76, 78], [0, 1, 2, 3, 4, 5], [], []⟩, ⟨[], [71, 72, 73, 74, 75, 76, 77], [0, 1, 2, 3, 4, 5, 6], [], []⟩, ⟨[6, 7], [71, 72, 73, 74, 75, 76], [0, 1, 2, 3, 4, 5], [], []⟩] tok (by kernel_rfl) (by kernel_rfl) ?_
      (conv => whnf); (repeat ((first | (refine ⟨rfl, ?_⟩) | (refine ⟨trivial, ?_⟩) | (refine Wk.yes ?_) | (refine Wk.no ?_) | (refine Wk.and ?_) | (refine ⟨by exact ⟨shr_nonneg _ _, by decide⟩, ?_⟩) | (refine ⟨by exact ⟨shr_nonneg' _ _, by decide⟩, ?_⟩)); (conv => whnf)))
      rw [wrapU (by omega)]
      refine ⟨⟨by omega, by omega, by rw [shl1 hq2]; unfold I64; omega⟩, ?_⟩
      rw [shl1 hq2]
      (conv => whnf); (repeat ((first | (refine ⟨rfl, ?_⟩) | (refine ⟨trivial, ?_⟩) | (refine Wk.yes ?_) | (refine Wk.no ?_) | (refine Wk.and ?_) | (refine ⟨by exact ⟨shr_nonneg _ _, by decide⟩, ?_⟩) | (refine ⟨by exact ⟨shr_nonneg' _ _, by decide⟩, ?_⟩)); (conv => whnf)))
      simp only [Int.toNat_natCast]
      refine CallQ.ro [0] (.c (.int .i64 (placesN g b))) (places_spec hg.ok hb) (by first | rfl | exact congrArg AV.g (ints_ren _ _) | (simp [ints_ren, AV.ren, ABlk.ren, AC.ren, AE.ren, qq]; done)) rfl (by (repeat (first | exact trivial | refine ⟨⟨(by first | exact .inl (by decide) | exact .inr (by decide)), (by first | (refine Or.inl ?_; first | rfl | exact congrArg some (ints_ren _ _).symm | exact congrArg ABlk.own (ints_ren _ _).symm | exact congrArg some (tab64_ren _).symm) | rfl | exact congrArg some (ints_ren _ _).symm | exact congrArg ABlk.own (ints_ren _ _).symm | exact congrArg some (tab64_ren _).symm | exact Or.inr ⟨rfl, rfl⟩)⟩, ?_⟩))) (by first | rfl | exact congrArg AV.g (ints_ren _ _) | (simp [ints_ren, AV.ren, ABlk.ren, AC.ren, AE.ren, qq]; done)) ?_
      (conv => whnf); (repeat ((first | (refine ⟨rfl, ?_⟩) | (refine ⟨trivial, ?_⟩) | (refine Wk.yes ?_) | (refine Wk.no ?_) | (refine Wk.and ?_) | (refine ⟨by exact ⟨shr_nonneg _ _, by decide⟩, ?_⟩) | (refine ⟨by exact ⟨shr_nonneg' _ _, by decide⟩, ?_⟩)); (conv => whnf)))
      refine CallA.ro [0] (.c (.bool mw)) (hit) (by first | rfl | exact congrArg AV.g (ints_ren _ _) | (simp [ints_ren, AV.ren, ABlk.ren, AC.ren, AE.ren, qq]; done)) rfl (by (repeat (first | exact trivial | refine ⟨⟨(by first | exact .inl (by decide) | exact .inr (by decide)), (by first | (refine Or.inl ?_; first | rfl | exact congrArg some (ints_ren _ _).symm | exact congrArg ABlk.own (ints_ren _ _).symm | exact congrArg some (tab64_ren _).symm) | rfl | exact congrArg some (ints_ren _ _).symm | exact congrArg ABlk.own (ints_ren _ _).symm | exact congrArg some (tab64_ren _).symm | exact Or.inr ⟨rfl, rfl⟩)⟩, ?_⟩))) (by first | rfl | exact congrArg AV.g (ints_ren _ _) | (simp [ints_ren, AV.ren, ABlk.ren, AC.ren, AE.ren, qq]; done)) ?_
      (conv => whnf); (repeat ((first | (refine ⟨rfl, ?_⟩) | (refine ⟨trivial, ?_⟩) | (refine Wk.yes ?_) | (refine Wk.no ?_) | (refine Wk.and ?_) | (refine ⟨by exact ⟨shr_nonneg _ _, by decide⟩, ?_⟩) | (refine ⟨by exact ⟨shr_nonneg' _ _, by decide⟩, ?_⟩)); (conv => whnf)))
      cases mw with
      | true =>
        refine ⟨fun _ => ?_, fun h => (by cases h)⟩
        (conv => whnf); (repeat ((first | (refine ⟨rfl, ?_⟩) | (refine ⟨trivial, ?_⟩) | (refine Wk.yes ?_) | (refine Wk.no ?_) | (refine Wk.and ?_) | (refine ⟨by exact ⟨shr_nonneg _ _, by decide⟩, ?_⟩) | (refine ⟨by exact ⟨shr_nonneg' _ _, by decide⟩, ?_⟩)); (conv => whnf)))
        intro hpfx
        rw [hfound rfl hpfx]
        refine ⟨trivial, ?_⟩
        (conv => whnf); (repeat ((first | (refine ⟨rfl, ?_⟩) | (refine ⟨trivial, ?_⟩) | (refine Wk.yes ?_) | (refine Wk.no ?_) | (refine Wk.and ?_) | (refine ⟨by exact ⟨shr_nonneg _ _, by decide⟩, ?_⟩) | (refine ⟨by exact ⟨shr_nonneg' _ _, by decide⟩, ?_⟩)); (conv => whnf)))
        exact AH.Fin.nil [] ⟨rfl, rfl, rfl⟩ (by first | exact trivial | (simp [tupA, hpLt, tmLt, AV.lt, AE.lt, AC.lt, LL_cons, LL_nil, idOk, ABlk.lt, ints_LL, GB, tab64_LL, gC, wB, giC, noneB, gst, tC, pC]; done) | (simp [tupA, hpLt, tmLt, AV.lt, AE.lt, AC.lt, LL_cons, LL_nil, idOk, ABlk.lt, ints_LL, GB, tab64_LL, gC, wB, giC, noneB, gst, tC, pC, rdn, wrn]; done)) trivial trivial rfl (by simp [GB])
      | false =>
        refine ⟨fun h => (by cases h), fun _ => ?_⟩
        exact ⟨(), next rfl, RoundOk.nil (by (repeat (first | exact trivial | refine ⟨trivial, ?_⟩ | refine ⟨rfl, ?_⟩))) rfl⟩
    · intro hinv
      have hno : replyO g b a c = none := by
        rw [replyO, List.find?_eq_none]
        exact fun x hx => by rw [hinv x hx]; simp
      rw [hno]
      (conv => whnf); (repeat ((first | (refine ⟨rfl, ?_⟩) | (refine ⟨trivial, ?_⟩) | (refine Wk.yes ?_) | (refine Wk.no ?_) | (refine Wk.and ?_) | (refine ⟨by exact ⟨shr_nonneg _ _, by decide⟩, ?_⟩) | (refine ⟨by exact ⟨shr_nonneg' _ _, by decide⟩, ?_⟩)); (conv => whnf)))
      exact AH.Fin.nil [] ⟨rfl, rfl, rfl⟩ (by first | exact trivial | (simp [tupA, hpLt, tmLt, AV.lt, AE.lt, AC.lt, LL_cons, LL_nil, idOk, ABlk.lt, ints_LL, GB, tab64_LL, gC, wB, giC, noneB, gst, tC, pC]; done) | (simp [tupA, hpLt, tmLt, AV.lt, AE.lt, AC.lt, LL_cons, LL_nil, idOk, ABlk.lt, ints_LL, GB, tab64_LL, gC, wB, giC, noneB, gst, tC, pC, rdn, wrn]; done)) trivial trivial rfl (by simp [GB])
  · have d2 : ¬ bit b c = 1 := fun h => d1 ((bit_test b c).1 h)
    rw [if_neg d1, decide_eq_false (show ¬ ((bit b c : Nat) : Int) = 1 by omega)]
    (conv => whnf); (repeat ((first | (refine ⟨rfl, ?_⟩) | (refine ⟨trivial, ?_⟩) | (refine Wk.yes ?_) | (refine Wk.no ?_) | (refine Wk.and ?_) | (refine ⟨by exact ⟨shr_nonneg _ _, by decide⟩, ?_⟩) | (refine ⟨by exact ⟨shr_nonneg' _ _, by decide⟩, ?_⟩)); (conv => whnf)))
    rw [wrapU (by omega)]
    refine ⟨⟨by omega, by show (c : Int) < 64; omega⟩, ?_⟩
    (conv => whnf); (repeat ((first | (refine ⟨rfl, ?_⟩) | (refine ⟨trivial, ?_⟩) | (refine Wk.yes ?_) | (refine Wk.no ?_) | (refine Wk.and ?_) | (refine ⟨by exact ⟨shr_nonneg _ _, by decide⟩, ?_⟩) | (refine ⟨by exact ⟨shr_nonneg' _ _, by decide⟩, ?_⟩)); (conv => whnf)))
    rw [he a]
    by_cases d3 : a.testBit c = true
    · have d4 := (bit_test a c).2 d3
      rw [if_pos d3, decide_eq_false (show ¬ ((bit a c : Nat) : Int) = 0 by omega)]
      (conv => whnf); (repeat ((first | (refine ⟨rfl, ?_⟩) | (refine ⟨trivial, ?_⟩) | (refine Wk.yes ?_) | (refine Wk.no ?_) | (refine Wk.and ?_) | (refine ⟨by exact ⟨shr_nonneg _ _, by decide⟩, ?_⟩) | (refine ⟨by exact ⟨shr_nonneg' _ _, by decide⟩, ?_⟩)); (conv => whnf)))
      rw [wrapU (by omega)]
      refine ⟨⟨by omega, by omega, by rw [shl1 hq]; unfold I64; omega⟩, ?_⟩
      rw [shl1 hq]
      (conv => whnf); (repeat ((first | (refine ⟨rfl, ?_⟩) | (refine ⟨trivial, ?_⟩) | (refine Wk.yes ?_) | (refine Wk.no ?_) | (refine Wk.and ?_) | (refine ⟨by exact ⟨shr_nonneg _ _, by decide⟩, ?_⟩) | (refine ⟨by exact ⟨shr_nonneg' _ _, by decide⟩, ?_⟩)); (conv => whnf)))
      have hofe : a ^^^ (a &&& q) = offN a c := by rw [offN, hq]
      have hofl : offN a c < 2 ^ 10 := by
        have h1 : a &&& 2 ^ c ≤ a := Nat.and_le_left
        exact Nat.xor_lt_two_pow (by omega) (by omega)
      simp only [Int.toNat_natCast, hofe]
      refine CallA.det [] (.c (.fn 98 [] [9])) ([(8, .own [.int .i64 0]), (7, .own [.int .i64 (offN a c : Nat)]), (6, .own [.int .i64 a]), (5, .own [.int .i64 a, .int .i64 b]), (4, .own [.rs 1 0 L0.length, .rs 2 0 L1.length]), (3, .own (gC g 0)), (0, wB g), (1, .ro (ints L0)), (2, .ro (ints L1)), (100002, .ro tab64), (9, .own [.int .i64 b])]) (members_spec b) (by first | rfl | exact congrArg AV.g (ints_ren _ _) | (simp [ints_ren, AV.ren, ABlk.ren, AC.ren, AE.ren, qq]; done)) rfl (by (repeat (first | exact trivial | refine ⟨⟨(by first | exact .inl (by decide) | exact .inr (by decide)), (by first | (refine Or.inl ?_; first | rfl | exact congrArg some (ints_ren _ _).symm | exact congrArg ABlk.own (ints_ren _ _).symm | exact congrArg some (tab64_ren _).symm) | rfl | exact congrArg some (ints_ren _ _).symm | exact congrArg ABlk.own (ints_ren _ _).symm | exact congrArg some (tab64_ren _).symm | exact Or.inr ⟨rfl, rfl⟩)⟩, ?_⟩))) (by first | rfl | exact congrArg AV.g (ints_ren _ _) | (simp [ints_ren, AV.ren, ABlk.ren, AC.ren, AE.ren, qq]; done)) (by first | rfl | (simp [behind, gone, lk, up, del, qq, ABlk.wr, GB, ints_ren, AV.ren, ABlk.ren, AC.ren, AE.ren]; done) | (simp [behind, gone, lk, up, del, qq, ABlk.wr, GB, ints_ren, AV.ren, ABlk.ren, AC.ren, AE.ren]; rfl)) ?_
      (conv => whnf); (repeat ((first | (refine ⟨rfl, ?_⟩) | (refine ⟨trivial, ?_⟩) | (refine Wk.yes ?_) | (refine Wk.no ?_) | (refine Wk.and ?_) | (refine ⟨by exact ⟨shr_nonneg _ _, by decide⟩, ?_⟩) | (refine ⟨by exact ⟨shr_nonneg' _ _, by decide⟩, ?_⟩)); (conv => whnf)))
      refine Tr.range (md := true) tok rfl (mem b) ([(9, .ro [.int .i64 b]), (100002, .ro tab64)]) (members1_iter (by omega) 9 (by decide)) (by (repeat (first | exact trivial | refine ⟨trivial, ?_⟩ | refine ⟨rfl, ?_⟩))) rfl (fun pre => [(9, .ro [.int .i64 b]), (8, .own [.int .i64 0]), (7, .own [.int .i64 (offN a c : Nat)]), (6, .own [.int .i64 a]), (5, .own [.int .i64 a, .int .i64 b]), (4, .own [.rs 1 0 L0.length, .rs 2 0 L1.length]), (3, .own (gC g 0)), (0, wB g), (1, .ro (ints L0)), (2, .ro (ints L1)), (100002, .ro tab64)]) (fun pre => ∀ y ∈ pre, mends g a c y = false) (10) (by decide) (by first | trivial | rfl | decide | simp) (by (repeat (first | exact trivial | refine ⟨trivial, ?_⟩ | refine ⟨rfl, ?_⟩))) (fun pre hpre => (by simp [tupA, hpLt, tmLt, AV.lt, AE.lt, AC.lt, LL_cons, LL_nil, idOk, ABlk.lt, ints_LL, GB, tab64_LL, gC, wB, giC, noneB, gst, tC, pC])) (fun pre hpre => ⟨(by (repeat (first | exact trivial | refine ⟨trivial, ?_⟩ | refine ⟨rfl, ?_⟩))), (by (repeat (first | exact trivial | refine ⟨trivial, ?_⟩ | refine ⟨rfl, ?_⟩)))⟩) rfl rfl (by decide) ?_ ?_
      · intro pre z hpre hinv hz hl
        obtain ⟨z0, z1⟩ := mem_lt hgl hb hz
        obtain ⟨w, hw, hzw, hw10⟩ := mem_memN hz
        subst hzw
        rw [Int.toNat_natCast] at z1
        obtain ⟨q2, hq2⟩ : ∃ q, q = 2 ^ w := ⟨_, rfl⟩
        have p2 : q2 < 2048 := hq2 ▸ pow_small (by omega)
        have hor : offN a c ||| q2 < 2 ^ g.ws.length := by
          refine or_lt ?_ (by rw [hq2]; exact (Nat.pow_lt_pow_iff_right (by omega)).2 z1)
          have h1 : a &&& 2 ^ c ≤ a := Nat.and_le_left
          exact Nat.xor_lt_two_pow (by omega) (by omega)
        have hpl := placesN_lt8 hg.ok ha
        have hit := isTree_spec hg.ok (n := offN a c ||| q2) (pl := placesN g a) hor (by omega)
        have hme : mends g a c w = isTreeB g (offN a c ||| q2) (placesN g a) := by rw [mends, Int.toNat_natCast, hq2]
        rw [← hme] at hit
        have next : mends g a c w = false → ∀ y ∈ pre ++ [(w : Int)], mends g a c y = false := fun h y hy => by
          rcases List.mem_append.1 hy with hy | hy
          · exact hinv y hy
          · simp at hy; exact hy ▸ h
        have hfound : mends g a c w = true → pre ++ [(w : Int)] <+: mem b → replyO g a b c = some (w : Int) := fun h hpfx => by
          obtain ⟨suf, hsuf⟩ := hpfx
          rw [replyO, ← hsuf, List.append_assoc, List.find?_append, List.find?_eq_none.2 (fun y hy => by rw [hinv y hy]; simp)]
          simp [h]
        generalize mends g a c w = mw at *
        (conv => whnf); (repeat ((first | (refine ⟨rfl, ?_⟩) | (refine ⟨trivial, ?_⟩) | (refine Wk.yes ?_) | (refine Wk.no ?_) | (refine Wk.and ?_) | (refine ⟨by exact ⟨shr_nonneg _ _, by decide⟩, ?_⟩) | (refine ⟨by exact ⟨shr_nonneg' _ _, by decide⟩, ?_⟩)); (conv => whnf)))
        refine Tr.draw (md := true) [⟨[], [72, 73, 74, 75, 76, 77, 78, 79], [], [], []⟩, ⟨[], [71, 73, 74, 75, 77, 78, 79], [0], [], []⟩, ⟨[], [71, 72, 77, 78, 79], [0, 1], [], []⟩, ⟨[2], [71, 72, 77, 78, 79], [0, 1], [], []⟩, ⟨[2, 3], [71, 72, 77, 78, 79], [0, 1], [], []⟩, ⟨[1, 2, 3, 4], [71, 77, 78, 79], [0], [], []⟩, ⟨[], [71, 72, 73, 74, 75, 76, 78], [0, 1, 2, 3, 4, 5], [], []⟩, ⟨[], [71, 72, 73, 74, 75, 76, 77], [0, 1, 2, 3, 4, 5, 6], [], []⟩, ⟨[6, 7], [71, 72, 73, 74, 75, 76], [0, 1, 2, 3, 4, 5], [], []⟩] tok (by kernel_rfl) (by kernel_rfl) ?_
        (conv => whnf); (repeat ((first | (refine ⟨rfl, ?_⟩) | (refine ⟨trivial, ?_⟩) | (refine Wk.yes ?_) | (refine Wk.no ?_) | (refine Wk.and ?_) | (refine ⟨by exact ⟨shr_nonneg _ _, by decide⟩, ?_⟩) | (refine ⟨by exact ⟨shr_nonneg' _ _, by decide⟩, ?_⟩)); (conv => whnf)))
        rw [wrapU (by omega)]
        refine ⟨⟨by omega, by omega, by rw [shl1 hq2]; unfold I64; omega⟩, ?_⟩
        rw [shl1 hq2]
        (conv => whnf); (repeat ((first | (refine ⟨rfl, ?_⟩) | (refine ⟨trivial, ?_⟩) | (refine Wk.yes ?_) | (refine Wk.no ?_) | (refine Wk.and ?_) | (refine ⟨by exact ⟨shr_nonneg _ _, by decide⟩, ?_⟩) | (refine ⟨by exact ⟨shr_nonneg' _ _, by decide⟩, ?_⟩)); (conv => whnf)))
        simp only [Int.toNat_natCast]
        refine CallQ.ro [0] (.c (.int .i64 (placesN g a))) (places_spec hg.ok ha) (by first | rfl | exact congrArg AV.g (ints_ren _ _) | (simp [ints_ren, AV.ren, ABlk.ren, AC.ren, AE.ren, qq]; done)) rfl (by (repeat (first | exact trivial | refine ⟨⟨(by first | exact .inl (by decide) | exact .inr (by decide)), (by first | (refine Or.inl ?_; first | rfl | exact congrArg some (ints_ren _ _).symm | exact congrArg ABlk.own (ints_ren _ _).symm | exact congrArg some (tab64_ren _).symm) | rfl | exact congrArg some (ints_ren _ _).symm | exact congrArg ABlk.own (ints_ren _ _).symm | exact congrArg some (tab64_ren _).symm | exact Or.inr ⟨rfl, rfl⟩)⟩, ?_⟩))) (by first | rfl | exact congrArg AV.g (ints_ren _ _) | (simp [ints_ren, AV.ren, ABlk.ren, AC.ren, AE.ren, qq]; done)) ?_
        (conv => whnf); (repeat ((first | (refine ⟨rfl, ?_⟩) | (refine ⟨trivial, ?_⟩) | (refine Wk.yes ?_) | (refine Wk.no ?_) | (refine Wk.and ?_) | (refine ⟨by exact ⟨shr_nonneg _ _, by decide⟩, ?_⟩) | (refine ⟨by exact ⟨shr_nonneg' _ _, by decide⟩, ?_⟩)); (conv => whnf)))
        refine CallA.ro [0] (.c (.bool mw)) (hit) (by first | rfl | exact congrArg AV.g (ints_ren _ _) | (simp [ints_ren, AV.ren, ABlk.ren, AC.ren, AE.ren, qq]; done)) rfl (by (repeat (first | exact trivial | refine ⟨⟨(by first | exact .inl (by decide) | exact .inr (by decide)), (by first | (refine Or.inl ?_; first | rfl | exact congrArg some (ints_ren _ _).symm | exact congrArg ABlk.own (ints_ren _ _).symm | exact congrArg some (tab64_ren _).symm) | rfl | exact congrArg some (ints_ren _ _).symm | exact congrArg ABlk.own (ints_ren _ _).symm | exact congrArg some (tab64_ren _).symm | exact Or.inr ⟨rfl, rfl⟩)⟩, ?_⟩))) (by first | rfl | exact congrArg AV.g (ints_ren _ _) | (simp [ints_ren, AV.ren, ABlk.ren, AC.ren, AE.ren, qq]; done)) ?_
        (conv => whnf); (repeat ((first | (refine ⟨rfl, ?_⟩) | (refine ⟨trivial, ?_⟩) | (refine Wk.yes ?_) | (refine Wk.no ?_) | (refine Wk.and ?_) | (refine ⟨by exact ⟨shr_nonneg _ _, by decide⟩, ?_⟩) | (refine ⟨by exact ⟨shr_nonneg' _ _, by decide⟩, ?_⟩)); (conv => whnf)))
        cases mw with
        | true =>
          refine ⟨fun _ => ?_, fun h => (by cases h)⟩
          (conv => whnf); (repeat ((first | (refine ⟨rfl, ?_⟩) | (refine ⟨trivial, ?_⟩) | (refine Wk.yes ?_) | (refine Wk.no ?_) | (refine Wk.and ?_) | (refine ⟨by exact ⟨shr_nonneg _ _, by decide⟩, ?_⟩) | (refine ⟨by exact ⟨shr_nonneg' _ _, by decide⟩, ?_⟩)); (conv => whnf)))
          intro hpfx
          rw [hfound rfl hpfx]
          refine ⟨trivial, ?_⟩
          (conv => whnf); (repeat ((first | (refine ⟨rfl, ?_⟩) | (refine ⟨trivial, ?_⟩) | (refine Wk.yes ?_) | (refine Wk.no ?_) | (refine Wk.and ?_) | (refine ⟨by exact ⟨shr_nonneg _ _, by decide⟩, ?_⟩) | (refine ⟨by exact ⟨shr_nonneg' _ _, by decide⟩, ?_⟩)); (conv => whnf)))
          exact AH.Fin.nil [] ⟨rfl, rfl, rfl⟩ (by first | exact trivial | (simp [tupA, hpLt, tmLt, AV.lt, AE.lt, AC.lt, LL_cons, LL_nil, idOk, ABlk.lt, ints_LL, GB, tab64_LL, gC, wB, giC, noneB, gst, tC, pC]; done) | (simp [tupA, hpLt, tmLt, AV.lt, AE.lt, AC.lt, LL_cons, LL_nil, idOk, ABlk.lt, ints_LL, GB, tab64_LL, gC, wB, giC, noneB, gst, tC, pC, rdn, wrn]; done)) trivial trivial rfl (by simp [GB])
        | false =>
          refine ⟨fun h => (by cases h), fun _ => ?_⟩
          exact ⟨(), next rfl, RoundOk.nil (by (repeat (first | exact trivial | refine ⟨trivial, ?_⟩ | refine ⟨rfl, ?_⟩))) rfl⟩
      · intro hinv
        have hno : replyO g a b c = none := by
          rw [replyO, List.find?_eq_none]
          exact fun x hx => by rw [hinv x hx]; simp
        rw [hno]
        (conv => whnf); (repeat ((first | (refine ⟨rfl, ?_⟩) | (refine ⟨trivial, ?_⟩) | (refine Wk.yes ?_) | (refine Wk.no ?_) | (refine Wk.and ?_) | (refine ⟨by exact ⟨shr_nonneg _ _, by decide⟩, ?_⟩) | (refine ⟨by exact ⟨shr_nonneg' _ _, by decide⟩, ?_⟩)); (conv => whnf)))
        exact AH.Fin.nil [] ⟨rfl, rfl, rfl⟩ (by first | exact trivial | (simp [tupA, hpLt, tmLt, AV.lt, AE.lt, AC.lt, LL_cons, LL_nil, idOk, ABlk.lt, ints_LL, GB, tab64_LL, gC, wB, giC, noneB, gst, tC, pC]; done) | (simp [tupA, hpLt, tmLt, AV.lt, AE.lt, AC.lt, LL_cons, LL_nil, idOk, ABlk.lt, ints_LL, GB, tab64_LL, gC, wB, giC, noneB, gst, tC, pC, rdn, wrn]; done)) trivial trivial rfl (by simp [GB])
    · have d4 : ¬ bit a c = 1 := fun h => d3 ((bit_test a c).1 h)
      rw [if_neg d3, decide_eq_true (show ((bit a c : Nat) : Int) = 0 by omega)]
      (conv => whnf); (repeat ((first | (refine ⟨rfl, ?_⟩) | (refine ⟨trivial, ?_⟩) | (refine Wk.yes ?_) | (refine Wk.no ?_) | (refine Wk.and ?_) | (refine ⟨by exact ⟨shr_nonneg _ _, by decide⟩, ?_⟩) | (refine ⟨by exact ⟨shr_nonneg' _ _, by decide⟩, ?_⟩)); (conv => whnf)))
      exact AH.Fin.nil [] ⟨rfl, rfl, rfl⟩ (by first | exact trivial | (simp [tupA, hpLt, tmLt, AV.lt, AE.lt, AC.lt, LL_cons, LL_nil, idOk, ABlk.lt, ints_LL, GB, tab64_LL, gC, wB, giC, noneB, gst, tC, pC]; done) | (simp [tupA, hpLt, tmLt, AV.lt, AE.lt, AC.lt, LL_cons, LL_nil, idOk, ABlk.lt, ints_LL, GB, tab64_LL, gC, wB, giC, noneB, gst, tC, pC, rdn, wrn]; done)) trivial trivial rfl (by simp [GB])
end Go.Proofs.YtfphkpdobbffeaaDoor

/-
  Plain law: the reply mends; two trees as lists.
-/
namespace Go.Proofs.YtfphkpdobbffeaaDoor
open Go Go.AH
set_option maxRecDepth 100000
set_option maxHeartbeats 1000000

theorem risTo_mono {n : Nat} {L : List Int} (hl : ∀ y ∈ L, y < n) : ∀ i, i ≤ L.length → risTo 10 L i = true → risTo n L i = true
  | 0, _, _ => rfl
  | i + 1, hi, h => by
    obtain ⟨h1, h2, _, h4⟩ := (risTo_succ 10 L i).1 h
    refine (risTo_succ n L i).2 ⟨risTo_mono hl i (by omega) h1, h2, hl _ ?_, h4⟩
    rw [List.getD_eq_getElem?_getD, List.getElem?_eq_getElem (show i < L.length by omega)]
    exact List.getElem_mem _
theorem mem_set10 : ∀ a, a < 1024 → risTo 10 (mem a) (mem a).length = true ∧ setToL (mem a) (mem a).length = a := by decide +kernel
theorem mem_len10 : ∀ a, a < 1024 → (mem a).length ≤ 10 := by decide +kernel
theorem mem_set {n a : Nat} (hn : n ≤ 10) (ha : a < 2 ^ n) : setOk n (mem a) = true ∧ setV n (mem a) = a := by
  have hp : 2 ^ n ≤ 1024 := Nat.pow_le_pow_right (by omega) hn
  obtain ⟨h1, h2⟩ := mem_set10 a (by omega)
  have h3 : risTo n (mem a) (mem a).length = true := risTo_mono (fun y hy => by have := mem_lt hn ha hy; omega) _ (Nat.le_refl _) h1
  exact ⟨h3, by rw [setV, h3]; exact h2⟩
/-- The reply is a wire of the other tree, and mends. -/
theorem reply_fine {g : Gm} (hg : g.ok) (hst : g.s ≠ g.t) {a b pl c : Nat} (ha : a < 2 ^ g.ws.length) (hb : b < 2 ^ g.ws.length) (hpa : placesN g a = pl) (hs : pl.testBit g.s = true) (ht : pl.testBit g.t = true) (hab : a &&& b = 0)
    (hta : treeR g a pl = true) (htb : treeR g b pl = true) (hc : a.testBit c = true) : ∃ w : Nat, replyO g a b c = some (w : Int) ∧ w < g.ws.length ∧ (decide (bit b w = 1) && treeR g (offN a c ||| 2 ^ w) (placesN g a)) = true := by
  have hp2 : 2 ^ g.ws.length ≤ 1024 := Nat.pow_le_pow_right (by omega) hg.len
  have hpl := places_ltn hg ha
  rw [hpa] at hpl
  have h8 := placesN_lt8 hg ha
  rw [hpa] at h8
  have hpop := pop_two h8 hst hs ht
  have hcl := lt_len ha hc
  have hcm : (c : Int) ∈ mem a := (mem_iff (by omega)).2 ⟨c, rfl, hc⟩
  have hlp : pop (offN a c) = pop a - 1 ∧ offN a c < a := by
    have := off_mem (show a < 1024 by omega) hcm
    rwa [Int.toNat_natCast] at this
  have hor : ∀ w, w < g.ws.length → offN a c ||| 2 ^ w < 2 ^ g.ws.length := fun w hw => or_lt (by omega) ((Nat.pow_lt_pow_iff_right (by omega)).2 hw)
  have hme : ∀ w : Nat, w < g.ws.length → mends g a c w = treeR g (offN a c ||| 2 ^ w) pl := fun w hw => by
    rw [mends, hpa, Int.toNat_natCast, tree_pl hg (hor w hw) hpl hpop]
  obtain ⟨w0, hw0, ht0⟩ := exchange hg ha hb hpl hpop hab hta htb hc
  have hw0l := lt_len hb hw0
  have hsome : ((mem b).find? (mends g a c)).isSome = true := List.find?_isSome.2 ⟨(w0 : Int), (mem_iff (by omega)).2 ⟨w0, rfl, hw0⟩, by rw [hme w0 hw0l]; exact ht0⟩
  obtain ⟨y, hy⟩ := Option.isSome_iff_exists.1 hsome
  obtain ⟨w, rfl, hw⟩ := (mem_iff (by omega)).1 (List.mem_of_find?_eq_some hy)
  have hwl := lt_len hb hw
  have := List.find?_some hy
  rw [hme w hwl] at this
  exact ⟨w, hy, hwl, by rw [hpa, (bit_test b w).2 hw, this]; rfl⟩
/-- What two trees are, for the reference. -/
theorem areR_iff {g : Gm} {a b : Nat} {x y : Bool} (h : areR g x y a b = true) : x = true ∧ y = true ∧ a &&& b = 0 ∧ (placesN g a).testBit g.s = true ∧ (placesN g a).testBit g.t = true ∧ treeR g a (placesN g a) = true ∧ treeR g b (placesN g a) = true := by
  unfold areR at h
  simp only [Bool.and_eq_true, decide_eq_true_eq, bit_test] at h
  exact ⟨h.1, h.2.1, h.2.2.1, h.2.2.2.1, h.2.2.2.2.1, h.2.2.2.2.2.1, h.2.2.2.2.2.2⟩
theorem places_same {g : Gm} (hg : g.ok) (hst : g.s ≠ g.t) {a b : Nat} (ha : a < 2 ^ g.ws.length) (hb : b < 2 ^ g.ws.length) {x y : Bool} (h : areR g x y a b = true) : placesN g b = placesN g a := by
  rw [← are_eq hg hst ha hb] at h
  unfold areB isTreeB at h
  simp only [Bool.and_eq_true, decide_eq_true_eq] at h
  exact h.2.2.2.2.2.1.1
/-- What Trees gives are two trees. -/
theorem trees_are {g : Gm} (hg : g.ok) (hst : g.s ≠ g.t) {a b : Nat} (h : treesF g (alT g) = some (a, b)) : areR g (setOk g.ws.length (mem a)) (setOk g.ws.length (mem b)) (setV g.ws.length (mem a)) (setV g.ws.length (mem b)) = true := by
  obtain ⟨h1, h2, h3, h4, h5, h6, h7⟩ := treesF_lt hg.len h
  have ha : a < 2 ^ g.ws.length := by omega
  rw [(mem_set hg.len ha).1, (mem_set hg.len ha).2, (mem_set hg.len h3).1, (mem_set hg.len h3).2, ← are_eq hg hst ha h3]
  unfold areB
  unfold alT at h4
  simp only [Bool.and_eq_true, decide_eq_true_eq] at h4 ⊢
  exact ⟨trivial, trivial, h6, h4, h5, h7⟩
end Go.Proofs.YtfphkpdobbffeaaDoor

/-
  The law SwitchLehman, as a contract.
-/
namespace Go.Proofs.YtfphkpdobbffeaaDoor
open Go Go.AH
set_option maxRecDepth 100000
set_option maxHeartbeats 1000000

theorem Gm.game.ends {g : Gm} (h : g.game) : g.s ≠ g.t := by
  have h1 := h.1
  unfold bad0 at h1
  omega
theorem TreesL_none {g : Gm} (hg : g.game) (h : treesF g (alT g) = none) : FDet Tryd.prog 25 [.g (gC g 0)] [(0, wB g), (100002, .ro tab64), (100000, noneB)] 1 (.t [.g [.nils, .nils], .c (.bool false), .c (.int .i64 0)]) [] 1 := by
  have := Trees_spec hg
  rw [h] at this
  exact this
theorem TreesL_some {g : Gm} (hg : g.game) {a b : Nat} (h : treesF g (alT g) = some (a, b)) : FDet Tryd.prog 25 [.g (gC g 0)] [(0, wB g), (100002, .ro tab64), (100000, noneB)] 1 (.t [.g [.rs 1 0 (mem a).length, .rs 2 0 (mem b).length], .c (.bool true), .c (.int .i64 0)]) [(1, .row 3 1 (ints (mem a))), (2, .row 3 1 (ints (mem b)))] 3 := by
  have := Trees_spec hg
  rw [h] at this
  exact FDet.post this _ _ ⟨.inr ⟨⟨⟨rfl, rfl, rfl⟩, trivial⟩, ⟨⟨rfl, rfl, rfl⟩, trivial⟩, trivial⟩, rfl, rfl, trivial⟩ ⟨⟨⟨rfl, rfl⟩, .inl rfl⟩, ⟨⟨rfl, rfl⟩, .inl rfl⟩, trivial⟩ (by simp [tupA, hpLt, tmLt, AV.lt, AE.lt, AC.lt, LL_cons, LL_nil, idOk, ABlk.lt, ints_LL, GB, tab64_LL, gC, wB, giC, noneB, gst, tC, pC, gN, gR, rC, rB, treesK, treesH, treesR]) (by simp [tupA, hpLt, tmLt, AV.lt, AE.lt, AC.lt, LL_cons, LL_nil, idOk, ABlk.lt, ints_LL, GB, tab64_LL, gC, wB, giC, noneB, gst, tC, pC, gN, gR, rC, rB, treesK, treesH, treesR]) rfl
theorem nilW3 {g : Gm} (h : g.ws = []) {fn : FuncId} {args : List AV} {r : AV} {k' : Nat} (h1 : FDet Tryd.prog fn (.g (gC g 0) :: args) [(0, wB g), (100002, .ro tab64), (100000, noneB)] 1 r [] k')
    (hw : wkVs [(0, .ro []), (100002, .ro tab64), (100000, noneB)] args args) (ha : ∀ v ∈ args, v.all (· ≠ 0)) (hr : r.all (· ≠ 0)) : FDet Tryd.prog fn (.g (gN g) :: args) [(100002, .ro tab64), (100000, noneB)] 1 r [] k' := by
  rw [show wB g = .ro [] by rw [wB, h]; rfl] at h1
  refine FDet.nil0 h1 _ 100002 tab64 rfl ⟨.inr ⟨rfl, rfl, rfl, by show g.ws.length = 0; rw [h]; rfl, trivial⟩, hw⟩ ?_ ?_ hr
  · intro v hv
    rcases List.mem_cons.1 hv with rfl | hv
    · exact gN_all g _ _ (by simp)
    · exact ha v hv
  · intro p hp
    simp only [List.mem_cons, List.not_mem_nil, or_false] at hp
    rcases hp with rfl | rfl
    · exact ⟨by decide, tab_all _⟩
    · refine ⟨by decide, fun x hx => ?_⟩
      simp only [List.mem_cons, List.not_mem_nil, or_false] at hx
      rcases hx with rfl | rfl <;> trivial
theorem trees_nil {g : Gm} (hg : g.game) (h : g.ws = []) (hT : treesF g (alT g) = none) : FDet Tryd.prog 25 [.g (gN g)] [(100002, .ro tab64), (100000, noneB)] 1 (.t [.g [.nils, .nils], .c (.bool false), .c (.int .i64 0)]) [] 1 :=
  nilW3 h (TreesL_none hg hT) trivial (fun v hv => by cases hv) (by intro e he; simp at he; rcases he with rfl | rfl | rfl <;> first | trivial | (intro x hx; simp at hx; subst hx; trivial))
theorem nil_trees {g : Gm} (hg : g.ok) (h : g.ws = []) : treesF g (alT g) = none := by
  cases hT : treesF g (alT g) with
  | none => rfl
  | some p =>
    obtain ⟨a, b⟩ := p
    obtain ⟨h1, h2, h3, _⟩ := treesF_lt hg.len hT
    rw [h] at h3
    have h3 : b < 1 := h3
    omega
end Go.Proofs.YtfphkpdobbffeaaDoor
