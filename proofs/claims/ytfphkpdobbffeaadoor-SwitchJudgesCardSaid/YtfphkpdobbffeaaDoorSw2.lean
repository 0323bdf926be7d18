/-
  Contracts: pairs of trees.
-/
import Derived.Test.YtfphkpdobbffeaaDoorSw1
set_option linter.unusedSimpArgs false
set_option linter.unusedVariables false
namespace Go.Proofs.YtfphkpdobbffeaaDoor
open Go Go.AH
set_option maxRecDepth 100000
set_option maxHeartbeats 1000000

def firstFrom {β : Type} (f : Nat → Option β) : Nat → Nat → Option β
  | 0, _ => none
  | k + 1, i => match f i with | some x => some x | none => firstFrom f k (i + 1)
theorem firstFrom_some {β : Type} {f : Nat → Option β} {x : β} : ∀ {k i : Nat}, firstFrom f k i = some x → ∃ j, i ≤ j ∧ j < i + k ∧ f j = some x
  | 0, i, h => by cases h
  | k + 1, i, h => by
    simp only [firstFrom] at h
    split at h
    · rename_i y e; injection h with h; exact ⟨i, by omega, by omega, h ▸ e⟩
    · obtain ⟨j, a, b, c⟩ := firstFrom_some h; exact ⟨j, by omega, by omega, c⟩
theorem firstFrom_none {β : Type} {f : Nat → Option β} : ∀ {k i : Nat}, firstFrom f k i = none → ∀ j, i ≤ j → j < i + k → f j = none
  | 0, i, _, j, a, b => by omega
  | k + 1, i, h, j, a, b => by
    simp only [firstFrom] at h
    split at h
    · cases h
    · rename_i e
      by_cases hj : j = i
      · exact hj ▸ e
      · exact firstFrom_none h j (by omega) (by omega)
theorem firstFrom_go {β : Type} {f : Nat → Option β} {k i : Nat} (hk : 0 < k) (h : f i = none) : firstFrom f k i = firstFrom f (k - 1) (i + 1) := by
  obtain ⟨k, rfl⟩ : ∃ m, k = m + 1 := ⟨k - 1, by omega⟩
  simp [firstFrom, h]
theorem firstFrom_stop {β : Type} {f : Nat → Option β} {k i : Nat} {x : β} (hk : 0 < k) (h : f i = some x) : firstFrom f k i = some x := by
  obtain ⟨k, rfl⟩ : ∃ m, k = m + 1 := ⟨k - 1, by omega⟩
  simp [firstFrom, h]

def okB (g : Gm) (a b : Nat) : Option (Nat × Nat) := if a &&& b = 0 ∧ isTreeB g b (placesN g a) = true then some (a, b) else none
def okA (g : Gm) (al : Nat → Bool) (q a : Nat) : Option (Nat × Nat) :=
  if a = 0 ∨ al (placesN g a) = false ∨ isTreeB g a (placesN g a) = false then none else firstFrom (okB g a) (q - (a + 1)) (a + 1)
def treesF (g : Gm) (al : Nat → Bool) : Option (Nat × Nat) := firstFrom (okA g al (2 ^ g.ws.length)) (2 ^ g.ws.length) 0
def pairC : Option (Nat × Nat) → List AC
  | none => [.int .i64 (-1), .int .i64 (-1)]
  | some (a, b) => [.int .i64 a, .int .i64 b]
def noneB : ABlk := .ro [.int .i64 (-1), .int .i64 (-1)]

theorem trees_spec {g : Gm} (hg : g.ok) {f : Nat} {al : Nat → Bool} (hf : ∀ pl : Nat, pl < 256 → FDet Tryd.prog f [.c (.int .i64 pl), .c (.ptr 1 0)] [(0, wB g), (1, .ro (gC g 0))] 2 (.c (.bool (al pl))) [] 2) :
    FDet Tryd.prog 61 [.g (gC g 0), .c (.fn f [] [1])] [(0, wB g), (1, .ro (gC g 0)), (100002, .ro tab64), (100000, noneB)] 2 (.g (pairC (treesF g al))) [] 2 := by
  have hl := hg.len
  obtain ⟨q, hq⟩ : ∃ q, q = 2 ^ g.ws.length := ⟨_, rfl⟩
  have hq2 : q < 2048 := by rw [hq]; exact pow_small (by omega)
  have hq3 : 0 < q := by rw [hq]; exact pow_pos2 _
  have hq4 : q ≤ 1024 := by rw [hq]; exact Nat.pow_le_pow_right (by omega) hl
  have hall := all_spec hg
  have htr : ∀ n pl, n < q → pl < 1024 → _ := fun n pl (h1 : n < q) h2 => isTree_spec hg (n := n) (pl := pl) (by rw [← hq]; exact h1) h2
  have hpl : ∀ n, n < q → _ := fun n (h1 : n < q) => places_spec hg (n := n) (by rw [← hq]; exact h1)
  have hp8 : ∀ n, n < q → placesN g n < 256 := fun n h1 => placesN_lt8 hg (by rw [← hq]; exact h1)
  rw [← hq] at hall
  have htd : treesF g al = firstFrom (okA g al q) q 0 := by rw [treesF, ← hq]
  refine FSpec.of_body tok true Tryd.func61 rfl (by kernel_rfl) (by decide) (by simp [tupA, hpLt, tmLt, AV.lt, AE.lt, AC.lt, LL_cons, LL_nil, idOk, ABlk.lt, ints_LL, GB, tab64_LL, gC, wB, giC, noneB]) (by simp [tupA, hpLt, tmLt, AV.lt, AE.lt, AC.lt, LL_cons, LL_nil, idOk, ABlk.lt, ints_LL, GB, tab64_LL, gC, wB, giC, noneB]) (by show 2 ≤ _; decide) ?_
  refine Wk.on ?_
  refine CallA.ro [0] (.c (.int .i64 (q - 1 : Nat))) (hall) (by first | rfl | exact congrArg AV.g (ints_ren _ _) | (simp [ints_ren, AV.ren, ABlk.ren, AC.ren, AE.ren, qq]; done)) rfl (by (repeat (first | exact trivial | refine ⟨⟨(by first | exact .inl (by decide) | exact .inr (by decide)), (by first | (refine Or.inl ?_; first | rfl | exact congrArg some (ints_ren _ _).symm | exact congrArg ABlk.own (ints_ren _ _).symm | exact congrArg some (tab64_ren _).symm) | rfl | exact congrArg some (ints_ren _ _).symm | exact congrArg ABlk.own (ints_ren _ _).symm | exact congrArg some (tab64_ren _).symm | exact Or.inr ⟨rfl, rfl⟩)⟩, ?_⟩))) (by first | rfl | exact congrArg AV.g (ints_ren _ _) | (simp [ints_ren, AV.ren, ABlk.ren, AC.ren, AE.ren, qq]; done)) ?_
  refine Wk.on ?_
  refine Tr.loop (md := true) (X := Nat) (st := fun i => ⟨[(1, .c (.fn f [] [1])), (2, .c (.ptr 2 0)), (4, .c (.ptr 3 0)), (10, .c (.int .i64 q)), (11, .c (.int .i64 i))], [(2, .own (gC g 0)), (3, .own [.int .i64 0, .int .i64 0]), (0, wB g), (1, .ro (gC g 0)), (100002, .ro tab64), (100000, noneB)], 4, 55, 2⟩) (inv := fun i => i ≤ q ∧ treesF g al = firstFrom (okA g al q) (q - i) i) (μ := fun i => q - i) (x0 := 0) (l := []) tok ⟨by omega, htd⟩ ?_ ?_
  · exact Sub.nil ⟨rfl, rfl, (by simp [tab64_LL, gC, wB, giC, noneB]), rfl, (by simp [tupA, hpLt, tmLt, AV.lt, AE.lt, AC.lt, LL_cons, LL_nil, idOk, ABlk.lt, ints_LL, GB, tab64_LL, gC, wB, giC, noneB]), (by simp [tupA, hpLt, tmLt, AV.lt, AE.lt, AC.lt, LL_cons, LL_nil, idOk, ABlk.lt, ints_LL, GB, tab64_LL, gC, wB, giC, noneB])⟩ ⟨rfl, rfl, rfl, by show AV.c (.int .i64 _) = AV.c (.int .i64 _); congr 2; omega, rfl, trivial⟩ ⟨rfl, rfl, rfl, rfl, rfl, rfl, trivial⟩
  · rintro i ⟨hi, hinv⟩
    refine Wk.on ?_
    refine ⟨fun hc => ?_, fun hc => ?_⟩ <;> (try simp only [decide_eq_true_eq, decide_eq_false_iff_not, Decidable.not_not, Bool.not_true, Bool.not_false, ne_eq, cond_true, cond_false, Bool.not_eq_true', Bool.not_eq_false'] at hc)
    rotate_left
    · have : i = q := by omega
      subst this
      rw [Nat.sub_self] at hinv
      refine Wk.on ?_
      exact AH.Fin.nil [] ⟨by rw [hinv]; rfl, rfl, rfl⟩ (by first | exact trivial | (simp [tupA, hpLt, tmLt, AV.lt, AE.lt, AC.lt, LL_cons, LL_nil, idOk, ABlk.lt, ints_LL, GB, tab64_LL, gC, wB, giC, noneB]; done) | (simp [tupA, hpLt, tmLt, AV.lt, AE.lt, AC.lt, LL_cons, LL_nil, idOk, ABlk.lt, ints_LL, GB, tab64_LL, gC, wB, giC, noneB, rdn, wrn]; done)) trivial trivial rfl (by simp [GB])
    have hiq : i < q := by omega
    refine Wk.on ?_
    refine CallA.ro [0] (.c (.int .i64 (placesN g i))) (hpl i hiq) (by first | rfl | exact congrArg AV.g (ints_ren _ _) | (simp [ints_ren, AV.ren, ABlk.ren, AC.ren, AE.ren, qq]; done)) rfl (by (repeat (first | exact trivial | refine ⟨⟨(by first | exact .inl (by decide) | exact .inr (by decide)), (by first | (refine Or.inl ?_; first | rfl | exact congrArg some (ints_ren _ _).symm | exact congrArg ABlk.own (ints_ren _ _).symm | exact congrArg some (tab64_ren _).symm) | rfl | exact congrArg some (ints_ren _ _).symm | exact congrArg ABlk.own (ints_ren _ _).symm | exact congrArg some (tab64_ren _).symm | exact Or.inr ⟨rfl, rfl⟩)⟩, ?_⟩))) (by first | rfl | exact congrArg AV.g (ints_ren _ _) | (simp [ints_ren, AV.ren, ABlk.ren, AC.ren, AE.ren, qq]; done)) ?_
    refine Wk.on ?_
    have next : okA g al q i = none → i + 1 ≤ q ∧ treesF g al = firstFrom (okA g al q) (q - (i + 1)) (i + 1) := fun h => ⟨hiq, by rw [hinv, firstFrom_go (by omega) h]; congr 1⟩
    refine ⟨fun hc => ?_, fun hc => ?_⟩ <;> (try simp only [decide_eq_true_eq, decide_eq_false_iff_not, Decidable.not_not, Bool.not_true, Bool.not_false, ne_eq, cond_true, cond_false, Bool.not_eq_true', Bool.not_eq_false'] at hc)
    rotate_left
    · have hz : okA g al q i = none := by rw [okA, if_pos (.inl (by omega))]
      refine Wk.on ?_
      refine Again.mk (i + 1) (Sub.nil ⟨rfl, rfl, (by simp [tab64_LL, gC, wB, giC, noneB]), rfl, (by simp [tupA, hpLt, tmLt, AV.lt, AE.lt, AC.lt, LL_cons, LL_nil, idOk, ABlk.lt, ints_LL, GB, tab64_LL, gC, wB, giC, noneB]), (by simp [tupA, hpLt, tmLt, AV.lt, AE.lt, AC.lt, LL_cons, LL_nil, idOk, ABlk.lt, ints_LL, GB, tab64_LL, gC, wB, giC, noneB])⟩ (by (repeat (first | exact trivial | refine ⟨trivial, ?_⟩ | refine ⟨rfl, ?_⟩))) (by (repeat (first | exact trivial | refine ⟨trivial, ?_⟩ | refine ⟨rfl, ?_⟩)))) (next hz) (by omega)
    have hi0 : ¬ i = 0 := by omega
    refine Wk.on ?_
    refine CallA.ro [0, 1] (.c (.bool (al (placesN g i)))) (hf _ (hp8 i hiq)) (by first | rfl | exact congrArg AV.g (ints_ren _ _) | (simp [ints_ren, AV.ren, ABlk.ren, AC.ren, AE.ren, qq]; done)) rfl (by (repeat (first | exact trivial | refine ⟨⟨(by first | exact .inl (by decide) | exact .inr (by decide)), (by first | (refine Or.inl ?_; first | rfl | exact congrArg some (ints_ren _ _).symm | exact congrArg ABlk.own (ints_ren _ _).symm | exact congrArg some (tab64_ren _).symm) | rfl | exact congrArg some (ints_ren _ _).symm | exact congrArg ABlk.own (ints_ren _ _).symm | exact congrArg some (tab64_ren _).symm | exact Or.inr ⟨rfl, rfl⟩)⟩, ?_⟩))) (by first | rfl | exact congrArg AV.g (ints_ren _ _) | (simp [ints_ren, AV.ren, ABlk.ren, AC.ren, AE.ren, qq]; done)) ?_
    refine Wk.on ?_
    refine ⟨fun hc => ?_, fun hc => ?_⟩ <;> (try simp only [decide_eq_true_eq, decide_eq_false_iff_not, Decidable.not_not, Bool.not_true, Bool.not_false, ne_eq, cond_true, cond_false, Bool.not_eq_true', Bool.not_eq_false'] at hc)
    rotate_left
    · have hz : okA g al q i = none := by rw [okA, if_pos (.inr (.inl hc))]
      refine Wk.on ?_
      refine Again.mk (i + 1) (Sub.nil ⟨rfl, rfl, (by simp [tab64_LL, gC, wB, giC, noneB]), rfl, (by simp [tupA, hpLt, tmLt, AV.lt, AE.lt, AC.lt, LL_cons, LL_nil, idOk, ABlk.lt, ints_LL, GB, tab64_LL, gC, wB, giC, noneB]), (by simp [tupA, hpLt, tmLt, AV.lt, AE.lt, AC.lt, LL_cons, LL_nil, idOk, ABlk.lt, ints_LL, GB, tab64_LL, gC, wB, giC, noneB])⟩ (by (repeat (first | exact trivial | refine ⟨trivial, ?_⟩ | refine ⟨rfl, ?_⟩))) (by (repeat (first | exact trivial | refine ⟨trivial, ?_⟩ | refine ⟨rfl, ?_⟩)))) (next hz) (by omega)
    have hal := hc
    refine Wk.on ?_
    refine CallA.ro [0] (.c (.bool (isTreeB g i (placesN g i)))) (htr i (placesN g i) hiq (by have := hp8 i hiq; omega)) (by first | rfl | exact congrArg AV.g (ints_ren _ _) | (simp [ints_ren, AV.ren, ABlk.ren, AC.ren, AE.ren, qq]; done)) rfl (by (repeat (first | exact trivial | refine ⟨⟨(by first | exact .inl (by decide) | exact .inr (by decide)), (by first | (refine Or.inl ?_; first | rfl | exact congrArg some (ints_ren _ _).symm | exact congrArg ABlk.own (ints_ren _ _).symm | exact congrArg some (tab64_ren _).symm) | rfl | exact congrArg some (ints_ren _ _).symm | exact congrArg ABlk.own (ints_ren _ _).symm | exact congrArg some (tab64_ren _).symm | exact Or.inr ⟨rfl, rfl⟩)⟩, ?_⟩))) (by first | rfl | exact congrArg AV.g (ints_ren _ _) | (simp [ints_ren, AV.ren, ABlk.ren, AC.ren, AE.ren, qq]; done)) ?_
    refine Wk.on ?_
    refine ⟨fun hc => ?_, fun hc => ?_⟩ <;> (try simp only [decide_eq_true_eq, decide_eq_false_iff_not, Decidable.not_not, Bool.not_true, Bool.not_false, ne_eq, cond_true, cond_false, Bool.not_eq_true', Bool.not_eq_false'] at hc)
    · have hz : okA g al q i = none := by rw [okA, if_pos (.inr (.inr hc))]
      refine Wk.on ?_
      refine Again.mk (i + 1) (Sub.nil ⟨rfl, rfl, (by simp [tab64_LL, gC, wB, giC, noneB]), rfl, (by simp [tupA, hpLt, tmLt, AV.lt, AE.lt, AC.lt, LL_cons, LL_nil, idOk, ABlk.lt, ints_LL, GB, tab64_LL, gC, wB, giC, noneB]), (by simp [tupA, hpLt, tmLt, AV.lt, AE.lt, AC.lt, LL_cons, LL_nil, idOk, ABlk.lt, ints_LL, GB, tab64_LL, gC, wB, giC, noneB])⟩ (by (repeat (first | exact trivial | refine ⟨trivial, ?_⟩ | refine ⟨rfl, ?_⟩))) (by (repeat (first | exact trivial | refine ⟨trivial, ?_⟩ | refine ⟨rfl, ?_⟩)))) (next hz) (by omega)
    have hti := hc
    have hgo : okA g al q i = firstFrom (okB g i) (q - (i + 1)) (i + 1) := by
      rw [okA, if_neg (by simp [hi0, hal, hti])]
    refine Wk.on ?_
    refine Tr.loop (md := true) (X := Nat) (st := fun j => ⟨[(1, .c (.fn f [] [1])), (2, .c (.ptr 2 0)), (4, .c (.ptr 3 0)), (5, .c (.int .i64 i)), (6, .c (.int .i64 (placesN g i))), (7, .c (.int .i64 j)), (10, .c (.int .i64 q)), (11, .c (.int .i64 i))], [(2, .own (gC g 0)), (3, .own [.int .i64 0, .int .i64 0]), (0, wB g), (1, .ro (gC g 0)), (100002, .ro tab64), (100000, noneB)], 4, 55, 2⟩) (inv := fun j => i < j ∧ j ≤ q ∧ okA g al q i = firstFrom (okB g i) (q - j) j) (μ := fun j => q - j) (x0 := i + 1) (l := []) tok ⟨by omega, by omega, hgo⟩ ?_ ?_
    · exact Sub.nil ⟨rfl, rfl, (by simp [tab64_LL, gC, wB, giC, noneB]), rfl, (by simp [tupA, hpLt, tmLt, AV.lt, AE.lt, AC.lt, LL_cons, LL_nil, idOk, ABlk.lt, ints_LL, GB, tab64_LL, gC, wB, giC, noneB]), (by simp [tupA, hpLt, tmLt, AV.lt, AE.lt, AC.lt, LL_cons, LL_nil, idOk, ABlk.lt, ints_LL, GB, tab64_LL, gC, wB, giC, noneB])⟩ (by (repeat (first | exact trivial | refine ⟨trivial, ?_⟩ | refine ⟨rfl, ?_⟩))) (by (repeat (first | exact trivial | refine ⟨trivial, ?_⟩ | refine ⟨rfl, ?_⟩)))
    · rintro j ⟨hj1, hj2, hjv⟩
      refine Wk.on ?_
      refine CallA.ro [0] (.c (.int .i64 (q - 1 : Nat))) (hall) (by first | rfl | exact congrArg AV.g (ints_ren _ _) | (simp [ints_ren, AV.ren, ABlk.ren, AC.ren, AE.ren, qq]; done)) rfl (by (repeat (first | exact trivial | refine ⟨⟨(by first | exact .inl (by decide) | exact .inr (by decide)), (by first | (refine Or.inl ?_; first | rfl | exact congrArg some (ints_ren _ _).symm | exact congrArg ABlk.own (ints_ren _ _).symm | exact congrArg some (tab64_ren _).symm) | rfl | exact congrArg some (ints_ren _ _).symm | exact congrArg ABlk.own (ints_ren _ _).symm | exact congrArg some (tab64_ren _).symm | exact Or.inr ⟨rfl, rfl⟩)⟩, ?_⟩))) (by first | rfl | exact congrArg AV.g (ints_ren _ _) | (simp [ints_ren, AV.ren, ABlk.ren, AC.ren, AE.ren, qq]; done)) ?_
      refine Wk.on ?_
      refine ⟨fun hc => ?_, fun hc => ?_⟩ <;> (try simp only [decide_eq_true_eq, decide_eq_false_iff_not, Decidable.not_not, Bool.not_true, Bool.not_false, ne_eq, cond_true, cond_false, Bool.not_eq_true', Bool.not_eq_false'] at hc)
      · have hjq : j < q := by omega
        have nextj : okB g i j = none → i < j + 1 ∧ j + 1 ≤ q ∧ okA g al q i = firstFrom (okB g i) (q - (j + 1)) (j + 1) := fun h => ⟨by omega, hjq, by rw [hjv, firstFrom_go (by omega) h]; congr 1⟩
        refine Wk.on ?_
        simp only [Int.toNat_natCast]
        refine ⟨fun hc => ?_, fun hc => ?_⟩ <;> (try simp only [decide_eq_true_eq, decide_eq_false_iff_not, Decidable.not_not, Bool.not_true, Bool.not_false, ne_eq, cond_true, cond_false, Bool.not_eq_true', Bool.not_eq_false'] at hc)
        · have hand : i &&& j = 0 := by omega
          refine Wk.on ?_
          refine CallA.ro [0] (.c (.bool (isTreeB g j (placesN g i)))) (htr j (placesN g i) hjq (by have := hp8 i hiq; omega)) (by first | rfl | exact congrArg AV.g (ints_ren _ _) | (simp [ints_ren, AV.ren, ABlk.ren, AC.ren, AE.ren, qq]; done)) rfl (by (repeat (first | exact trivial | refine ⟨⟨(by first | exact .inl (by decide) | exact .inr (by decide)), (by first | (refine Or.inl ?_; first | rfl | exact congrArg some (ints_ren _ _).symm | exact congrArg ABlk.own (ints_ren _ _).symm | exact congrArg some (tab64_ren _).symm) | rfl | exact congrArg some (ints_ren _ _).symm | exact congrArg ABlk.own (ints_ren _ _).symm | exact congrArg some (tab64_ren _).symm | exact Or.inr ⟨rfl, rfl⟩)⟩, ?_⟩))) (by first | rfl | exact congrArg AV.g (ints_ren _ _) | (simp [ints_ren, AV.ren, ABlk.ren, AC.ren, AE.ren, qq]; done)) ?_
          refine Wk.on ?_
          refine ⟨fun hc => ?_, fun hc => ?_⟩ <;> (try simp only [decide_eq_true_eq, decide_eq_false_iff_not, Decidable.not_not, Bool.not_true, Bool.not_false, ne_eq, cond_true, cond_false, Bool.not_eq_true', Bool.not_eq_false'] at hc)
          · have hfound : okB g i j = some (i, j) := by rw [okB, if_pos ⟨hand, hc⟩]
            have hres : treesF g al = some (i, j) := by rw [hinv, firstFrom_stop (by omega) (by rw [hjv, firstFrom_stop (by omega) hfound])]
            refine Wk.on ?_
            exact AH.Fin.nil [] ⟨by rw [hres]; rfl, rfl, rfl⟩ (by first | exact trivial | (simp [tupA, hpLt, tmLt, AV.lt, AE.lt, AC.lt, LL_cons, LL_nil, idOk, ABlk.lt, ints_LL, GB, tab64_LL, gC, wB, giC, noneB]; done) | (simp [tupA, hpLt, tmLt, AV.lt, AE.lt, AC.lt, LL_cons, LL_nil, idOk, ABlk.lt, ints_LL, GB, tab64_LL, gC, wB, giC, noneB, rdn, wrn]; done)) trivial trivial rfl (by simp [GB])
          · have hz : okB g i j = none := by rw [okB, if_neg (by simp [hc])]
            refine Wk.on ?_
            refine Again.mk (j + 1) (Sub.nil ⟨rfl, rfl, (by simp [tab64_LL, gC, wB, giC, noneB]), rfl, (by simp [tupA, hpLt, tmLt, AV.lt, AE.lt, AC.lt, LL_cons, LL_nil, idOk, ABlk.lt, ints_LL, GB, tab64_LL, gC, wB, giC, noneB]), (by simp [tupA, hpLt, tmLt, AV.lt, AE.lt, AC.lt, LL_cons, LL_nil, idOk, ABlk.lt, ints_LL, GB, tab64_LL, gC, wB, giC, noneB])⟩ (by (repeat (first | exact trivial | refine ⟨trivial, ?_⟩ | refine ⟨rfl, ?_⟩))) (by (repeat (first | exact trivial | refine ⟨trivial, ?_⟩ | refine ⟨rfl, ?_⟩)))) (nextj hz) (by omega)
        · have hz : okB g i j = none := by rw [okB, if_neg (fun h => hc (by omega))]
          refine Wk.on ?_
          refine Again.mk (j + 1) (Sub.nil ⟨rfl, rfl, (by simp [tab64_LL, gC, wB, giC, noneB]), rfl, (by simp [tupA, hpLt, tmLt, AV.lt, AE.lt, AC.lt, LL_cons, LL_nil, idOk, ABlk.lt, ints_LL, GB, tab64_LL, gC, wB, giC, noneB]), (by simp [tupA, hpLt, tmLt, AV.lt, AE.lt, AC.lt, LL_cons, LL_nil, idOk, ABlk.lt, ints_LL, GB, tab64_LL, gC, wB, giC, noneB])⟩ (by (repeat (first | exact trivial | refine ⟨trivial, ?_⟩ | refine ⟨rfl, ?_⟩))) (by (repeat (first | exact trivial | refine ⟨trivial, ?_⟩ | refine ⟨rfl, ?_⟩)))) (nextj hz) (by omega)
      · have : j = q := by omega
        subst this
        have hz : okA g al j i = none := by rw [hjv, Nat.sub_self]; rfl
        refine Wk.on ?_
        refine Again.mk (i + 1) (Sub.nil ⟨rfl, rfl, (by simp [tab64_LL, gC, wB, giC, noneB]), rfl, (by simp [tupA, hpLt, tmLt, AV.lt, AE.lt, AC.lt, LL_cons, LL_nil, idOk, ABlk.lt, ints_LL, GB, tab64_LL, gC, wB, giC, noneB]), (by simp [tupA, hpLt, tmLt, AV.lt, AE.lt, AC.lt, LL_cons, LL_nil, idOk, ABlk.lt, ints_LL, GB, tab64_LL, gC, wB, giC, noneB])⟩ (by (repeat (first | exact trivial | refine ⟨trivial, ?_⟩ | refine ⟨rfl, ?_⟩))) (by (repeat (first | exact trivial | refine ⟨trivial, ?_⟩ | refine ⟨rfl, ?_⟩)))) (next hz) (by omega)
end Go.Proofs.YtfphkpdobbffeaaDoor

/-
  Contracts: two trees, as lists.
-/
namespace Go.Proofs.YtfphkpdobbffeaaDoor
open Go Go.AH
set_option maxRecDepth 100000
set_option maxHeartbeats 1000000

theorem ok1 {a : Int} (h1 : -9223372036854775808 ≤ a) (h2 : a ≤ 9223372036854775807) : okC (.int .i64 a) (.int .i64 0) := ⟨rfl, h1, h2⟩
theorem pairC_ren (q : Nat → Nat) (p : Option (Nat × Nat)) : (pairC p).map (AC.ren q) = pairC p := by rcases p with _ | ⟨a, b⟩ <;> rfl
theorem lists_none : FDet Tryd.prog 64 [.g (pairC none)] [(100002, .ro tab64), (100000, noneB)] 0 (.t [.g [.nils, .nils], .c (.bool false)]) [] 0 := by
  refine FSpec.of_body tok true Tryd.func64 rfl (by kernel_rfl) (by decide) (by simp [tupA, hpLt, tmLt, AV.lt, AE.lt, AC.lt, LL_cons, LL_nil, idOk, ABlk.lt, ints_LL, GB, tab64_LL, gC, wB, giC, noneB, pairC]) (by simp [tupA, hpLt, tmLt, AV.lt, AE.lt, AC.lt, LL_cons, LL_nil, idOk, ABlk.lt, ints_LL, GB, tab64_LL, gC, wB, giC, noneB, pairC]) (by show 1 ≤ _; decide) ?_
  refine Wk.on ?_
  refine ⟨⟨⟨ok1 (by omega) (by omega), ok1 (by omega) (by omega), trivial⟩, ⟨ok1 (by omega) (by omega), ok1 (by omega) (by omega), trivial⟩⟩, ?_⟩
  refine Wk.on ?_
  exact AH.Fin.nil [] ⟨rfl, rfl, rfl⟩ (by first | exact trivial | (simp [tupA, hpLt, tmLt, AV.lt, AE.lt, AC.lt, LL_cons, LL_nil, idOk, ABlk.lt, ints_LL, GB, tab64_LL, gC, wB, giC, noneB, pairC]; done) | (simp [tupA, hpLt, tmLt, AV.lt, AE.lt, AC.lt, LL_cons, LL_nil, idOk, ABlk.lt, ints_LL, GB, tab64_LL, gC, wB, giC, noneB, pairC, rdn, wrn]; done)) trivial trivial rfl (by simp [GB])
theorem lists_some {a b : Nat} (ha : a < 1024) (hb : b < 1024) (ha0 : 0 < a) (hb0 : 0 < b) : FDet Tryd.prog 64 [.g (pairC (some (a, b)))] [(100002, .ro tab64), (100000, noneB)] 0
    (.t [.g [.row 0 (mem a).length, .row 1 (mem b).length], .c (.bool true)]) [(0, .row 3 1 (ints (mem a))), (1, .row 3 1 (ints (mem b)))] 2 := by
  refine FSpec.of_body tok true Tryd.func64 rfl (by kernel_rfl) (by decide) (by simp [tupA, hpLt, tmLt, AV.lt, AE.lt, AC.lt, LL_cons, LL_nil, idOk, ABlk.lt, ints_LL, GB, tab64_LL, gC, wB, giC, noneB, pairC]) (by simp [tupA, hpLt, tmLt, AV.lt, AE.lt, AC.lt, LL_cons, LL_nil, idOk, ABlk.lt, ints_LL, GB, tab64_LL, gC, wB, giC, noneB, pairC]) (by show 1 ≤ _; decide) ?_
  refine Wk.on ?_
  refine ⟨⟨⟨ok1 (by omega) (by omega), ok1 (by omega) (by omega), trivial⟩, ⟨ok1 (by omega) (by omega), ok1 (by omega) (by omega), trivial⟩⟩, ?_⟩
  refine Wk.on ?_
  intro _
  refine Wk.on ?_
  refine Tr.draw (md := true) [⟨[], [11, 12], [], [], []⟩, ⟨[0], [11, 12], [], [], []⟩, ⟨[0, 1], [11, 12], [], [], []⟩, ⟨[], [8, 9, 10], [0, 1, 2], [], []⟩, ⟨[3], [8, 9, 10], [0, 1, 2], [], []⟩] tok (by kernel_rfl) (by kernel_rfl) ?_
  refine Wk.on ?_
  refine CallQ.new [] (.c (.row 2 (mem a).length)) ([(2, .row 3 1 (ints (mem a)))]) (listed_spec ha ha0) (by first | rfl | exact congrArg AV.g (ints_ren _ _) | (simp [ints_ren, AV.ren, ABlk.ren, AC.ren, AE.ren, pairC_ren, qq]; done)) rfl (by (repeat (first | exact trivial | refine ⟨⟨(by first | exact .inl (by decide) | exact .inr (by decide)), (by first | (refine Or.inl ?_; first | rfl | exact congrArg some (ints_ren _ _).symm | exact congrArg ABlk.own (ints_ren _ _).symm | exact congrArg some (tab64_ren _).symm) | rfl | exact congrArg some (ints_ren _ _).symm | exact congrArg ABlk.own (ints_ren _ _).symm | exact congrArg some (tab64_ren _).symm | exact Or.inr ⟨rfl, rfl⟩)⟩, ?_⟩))) (by first | rfl | exact congrArg AV.g (ints_ren _ _) | (simp [ints_ren, AV.ren, ABlk.ren, AC.ren, AE.ren, pairC_ren, qq]; done)) (by first | rfl | (simp [behind, gone, lk, up, del, qq, ABlk.wr, GB, ints_ren, AV.ren, ABlk.ren, AC.ren, AE.ren, pairC_ren]; done) | (simp [behind, gone, lk, up, del, qq, ABlk.wr, GB, ints_ren, AV.ren, ABlk.ren, AC.ren, AE.ren, pairC_ren]; rfl)) ?_
  refine Wk.on ?_
  refine CallA.det [] (.c (.row 3 (mem b).length)) ([(2, .row 3 1 (ints (mem a))), (1, .own [.nils, .nils]), (0, .own (pairC (some (a, b)))), (100002, .ro tab64), (100000, noneB), (3, .row 3 1 (ints (mem b)))]) (listed_spec hb hb0) (by first | rfl | exact congrArg AV.g (ints_ren _ _) | (simp [ints_ren, AV.ren, ABlk.ren, AC.ren, AE.ren, pairC_ren, qq]; done)) rfl (by (repeat (first | exact trivial | refine ⟨⟨(by first | exact .inl (by decide) | exact .inr (by decide)), (by first | (refine Or.inl ?_; first | rfl | exact congrArg some (ints_ren _ _).symm | exact congrArg ABlk.own (ints_ren _ _).symm | exact congrArg some (tab64_ren _).symm) | rfl | exact congrArg some (ints_ren _ _).symm | exact congrArg ABlk.own (ints_ren _ _).symm | exact congrArg some (tab64_ren _).symm | exact Or.inr ⟨rfl, rfl⟩)⟩, ?_⟩))) (by first | rfl | exact congrArg AV.g (ints_ren _ _) | (simp [ints_ren, AV.ren, ABlk.ren, AC.ren, AE.ren, pairC_ren, qq]; done)) (by first | rfl | (simp [behind, gone, lk, up, del, qq, ABlk.wr, GB, ints_ren, AV.ren, ABlk.ren, AC.ren, AE.ren, pairC_ren]; done) | (simp [behind, gone, lk, up, del, qq, ABlk.wr, GB, ints_ren, AV.ren, ABlk.ren, AC.ren, AE.ren, pairC_ren]; rfl)) ?_
  refine Wk.on ?_
  exact AH.Fin.new [2, 3] _ _ ⟨rfl, rfl, rfl⟩ rfl ⟨by show some (ABlk.row 3 1 _) = some (ABlk.row 3 1 ((ints _).map _)); rw [ints_ren], by show some (ABlk.row 3 1 _) = some (ABlk.row 3 1 ((ints _).map _)); rw [ints_ren], trivial⟩ rfl (by simp [tupA, hpLt, tmLt, AV.lt, AE.lt, AC.lt, LL_cons, LL_nil, idOk, ABlk.lt, ints_LL, GB, tab64_LL, gC, wB, giC, noneB, pairC]) (by simp [tupA, hpLt, tmLt, AV.lt, AE.lt, AC.lt, LL_cons, LL_nil, idOk, ABlk.lt, ints_LL, GB, tab64_LL, gC, wB, giC, noneB, pairC])
theorem treesF_lt {g : Gm} (hl : g.ws.length ≤ 10) {al : Nat → Bool} {a b : Nat} (h : treesF g al = some (a, b)) : 0 < a ∧ a < b ∧ b < 2 ^ g.ws.length ∧ al (placesN g a) = true ∧ isTreeB g a (placesN g a) = true ∧ a &&& b = 0 ∧ isTreeB g b (placesN g a) = true := by
  obtain ⟨i, h1, h2, h3⟩ := firstFrom_some h
  unfold okA at h3
  split at h3
  · cases h3
  · rename_i hn
    simp only [not_or, Bool.not_eq_false] at hn
    obtain ⟨j, h4, h5, h6⟩ := firstFrom_some h3
    unfold okB at h6
    split at h6
    · rename_i hc
      injection h6 with h6; injection h6 with e1 e2
      subst e1; subst e2
      exact ⟨by omega, by omega, by omega, hn.2.1, hn.2.2, hc.1, hc.2⟩
    · cases h6
def treesR : Option (Nat × Nat) → List AC × Bool
  | none => ([.nils, .nils], false)
  | some (a, b) => ([.row 1 (mem a).length, .row 2 (mem b).length], true)
def treesH : Option (Nat × Nat) → List (Nat × ABlk)
  | none => []
  | some (a, b) => [(1, .row 3 1 (ints (mem a))), (2, .row 3 1 (ints (mem b)))]
def treesK : Option (Nat × Nat) → Nat
  | none => 1
  | some _ => 3
def alT (g : Gm) (pl : Nat) : Bool := decide (pl &&& endsN g = endsN g)
theorem Trees_spec {g : Gm} (hg : g.game) : FDet Tryd.prog 25 [.g (gC g 0)] [(0, wB g), (100002, .ro tab64), (100000, noneB)] 1
    (.t [.g (treesR (treesF g (alT g))).1, .c (.bool (treesR (treesF g (alT g))).2), .c (.int .i64 0)]) (treesH (treesF g (alT g))) (treesK (treesF g (alT g))) := by
  have ht := trees_spec hg.ok (f := 62) (al := alT g) (fun pl hp => allowT_spec hg.ok hp)
  have hp2 : 2 ^ g.ws.length ≤ 1024 := Nat.pow_le_pow_right (by omega) hg.ok.len
  refine FSpec.of_body tok true Tryd.func25 rfl (by kernel_rfl) (by decide) (by simp [tupA, hpLt, tmLt, AV.lt, AE.lt, AC.lt, LL_cons, LL_nil, idOk, ABlk.lt, ints_LL, GB, tab64_LL, gC, wB, giC, noneB, pairC]) (by simp [tupA, hpLt, tmLt, AV.lt, AE.lt, AC.lt, LL_cons, LL_nil, idOk, ABlk.lt, ints_LL, GB, tab64_LL, gC, wB, giC, noneB, pairC]) (by show 1 ≤ _; decide) ?_
  refine Wk.on ?_
  refine CallA.ro [0] (.c (.int .i64 0)) (check_ok hg) (by first | rfl | exact congrArg AV.g (ints_ren _ _) | (simp [ints_ren, AV.ren, ABlk.ren, AC.ren, AE.ren, pairC_ren, qq]; done)) rfl (by (repeat (first | exact trivial | refine ⟨⟨(by first | exact .inl (by decide) | exact .inr (by decide)), (by first | (refine Or.inl ?_; first | rfl | exact congrArg some (ints_ren _ _).symm | exact congrArg ABlk.own (ints_ren _ _).symm | exact congrArg some (tab64_ren _).symm) | rfl | exact congrArg some (ints_ren _ _).symm | exact congrArg ABlk.own (ints_ren _ _).symm | exact congrArg some (tab64_ren _).symm | exact Or.inr ⟨rfl, rfl⟩)⟩, ?_⟩))) (by first | rfl | exact congrArg AV.g (ints_ren _ _) | (simp [ints_ren, AV.ren, ABlk.ren, AC.ren, AE.ren, pairC_ren, qq]; done)) ?_
  refine Wk.on ?_
  refine CallA.ro [0, 1] (.g (pairC (treesF g (alT g)))) (ht) (by first | rfl | exact congrArg AV.g (ints_ren _ _) | (simp [ints_ren, AV.ren, ABlk.ren, AC.ren, AE.ren, pairC_ren, qq]; done)) rfl (by (repeat (first | exact trivial | refine ⟨⟨(by first | exact .inl (by decide) | exact .inr (by decide)), (by first | (refine Or.inl ?_; first | rfl | exact congrArg some (ints_ren _ _).symm | exact congrArg ABlk.own (ints_ren _ _).symm | exact congrArg some (tab64_ren _).symm) | rfl | exact congrArg some (ints_ren _ _).symm | exact congrArg ABlk.own (ints_ren _ _).symm | exact congrArg some (tab64_ren _).symm | exact Or.inr ⟨rfl, rfl⟩)⟩, ?_⟩))) (by first | rfl | exact congrArg AV.g (ints_ren _ _) | (simp [ints_ren, AV.ren, ABlk.ren, AC.ren, AE.ren, pairC_ren, qq]; done)) ?_
  refine Wk.on ?_
  cases hT : treesF g (alT g) with
  | none =>
    refine CallA.ro [] (.t [.g [.nils, .nils], .c (.bool false)]) (lists_none) (by first | rfl | exact congrArg AV.g (ints_ren _ _) | (simp [ints_ren, AV.ren, ABlk.ren, AC.ren, AE.ren, pairC_ren, qq]; done)) rfl (by (repeat (first | exact trivial | refine ⟨⟨(by first | exact .inl (by decide) | exact .inr (by decide)), (by first | (refine Or.inl ?_; first | rfl | exact congrArg some (ints_ren _ _).symm | exact congrArg ABlk.own (ints_ren _ _).symm | exact congrArg some (tab64_ren _).symm) | rfl | exact congrArg some (ints_ren _ _).symm | exact congrArg ABlk.own (ints_ren _ _).symm | exact congrArg some (tab64_ren _).symm | exact Or.inr ⟨rfl, rfl⟩)⟩, ?_⟩))) (by first | rfl | exact congrArg AV.g (ints_ren _ _) | (simp [ints_ren, AV.ren, ABlk.ren, AC.ren, AE.ren, pairC_ren, qq]; done)) ?_
    refine Wk.on ?_
    exact AH.Fin.nil [] ⟨rfl, rfl, rfl⟩ (by first | exact trivial | (simp [tupA, hpLt, tmLt, AV.lt, AE.lt, AC.lt, LL_cons, LL_nil, idOk, ABlk.lt, ints_LL, GB, tab64_LL, gC, wB, giC, noneB, pairC]; done) | (simp [tupA, hpLt, tmLt, AV.lt, AE.lt, AC.lt, LL_cons, LL_nil, idOk, ABlk.lt, ints_LL, GB, tab64_LL, gC, wB, giC, noneB, pairC, rdn, wrn]; done)) trivial trivial rfl (by simp [GB])
  | some p =>
    obtain ⟨a, b⟩ := p
    obtain ⟨h1, h2, h3, _⟩ := treesF_lt hg.ok.len hT
    refine CallA.det [] (.t [.g [.row 3 (mem a).length, .row 4 (mem b).length], .c (.bool true)]) ([(2, .own [.nils, .nils]), (1, .own (gC g 0)), (0, wB g), (100002, .ro tab64), (100000, noneB), (4, .row 3 1 (ints (mem b))), (3, .row 3 1 (ints (mem a)))]) (lists_some (a := a) (b := b) (by omega) (by omega) h1 (by omega)) (by first | rfl | exact congrArg AV.g (ints_ren _ _) | (simp [ints_ren, AV.ren, ABlk.ren, AC.ren, AE.ren, pairC_ren, qq]; done)) rfl (by (repeat (first | exact trivial | refine ⟨⟨(by first | exact .inl (by decide) | exact .inr (by decide)), (by first | (refine Or.inl ?_; first | rfl | exact congrArg some (ints_ren _ _).symm | exact congrArg ABlk.own (ints_ren _ _).symm | exact congrArg some (tab64_ren _).symm) | rfl | exact congrArg some (ints_ren _ _).symm | exact congrArg ABlk.own (ints_ren _ _).symm | exact congrArg some (tab64_ren _).symm | exact Or.inr ⟨rfl, rfl⟩)⟩, ?_⟩))) (by first | rfl | exact congrArg AV.g (ints_ren _ _) | (simp [ints_ren, AV.ren, ABlk.ren, AC.ren, AE.ren, pairC_ren, qq]; done)) (by first | rfl | (simp [behind, gone, lk, up, del, qq, ABlk.wr, GB, ints_ren, AV.ren, ABlk.ren, AC.ren, AE.ren, pairC_ren]; done) | (simp [behind, gone, lk, up, del, qq, ABlk.wr, GB, ints_ren, AV.ren, ABlk.ren, AC.ren, AE.ren, pairC_ren]; rfl)) ?_
    refine Wk.on ?_
    exact AH.Fin.new [3, 4] _ _ ⟨rfl, rfl, rfl⟩ rfl ⟨by show some (ABlk.row 3 1 _) = some (ABlk.row 3 1 ((ints _).map _)); rw [ints_ren], by show some (ABlk.row 3 1 _) = some (ABlk.row 3 1 ((ints _).map _)); rw [ints_ren], trivial⟩ rfl (by simp [treesR, tupA, AV.lt, AE.lt, AC.lt, LL_cons, LL_nil, idOk]) (by simp [treesH, hpLt, ABlk.lt, ints_LL, idOk])
end Go.Proofs.YtfphkpdobbffeaaDoor

/-
  Contracts: the reference's sizes and groups.
-/
namespace Go.Proofs.YtfphkpdobbffeaaDoor
open Go Go.AH
set_option maxRecDepth 100000
set_option maxHeartbeats 1000000

def bit (n i : Nat) : Nat := n / 2 ^ i % 2
theorem shrN (n i : Nat) : (n : Int) / 2 ^ (Int.toNat (i : Int)) = ((n / 2 ^ i : Nat) : Int) := by simp
theorem mod2N (n : Nat) : (n : Int) % 2 = ((n % 2 : Nat) : Int) := by omega
def popTo (n i : Nat) : Nat := ((List.range i).filter n.testBit).length
theorem popTo_succ (n i : Nat) : popTo n (i + 1) = popTo n i + bit n i := by
  simp only [popTo, List.range_succ, List.filter_append, List.length_append, bit]
  congr 1
  have := Nat.testBit_eq_decide_div_mod_eq (x := n) (i := i)
  have h2 : n / 2 ^ i % 2 = 0 ∨ n / 2 ^ i % 2 = 1 := by omega
  rcases h2 with h | h <;> simp [List.filter_cons, this, h]
theorem popTo_end : ∀ n, n < 1024 → ∀ i, i < 11 → n / 2 ^ i = 0 → popTo n i = pop n := by decide +kernel
theorem popTo_go : ∀ n, n < 1024 → ∀ i, i < 11 → 0 < n / 2 ^ i → i < 10 := by decide +kernel
theorem popTo_le (n i : Nat) : popTo n i ≤ i := by
  have := List.length_filter_le n.testBit (List.range i)
  simpa [popTo] using this
theorem size_spec {n : Nat} (hn : n < 1024) : FDet Tryd.prog 69 [.c (.int .i64 n)] [] 0 (.c (.int .i64 (pop n))) [] 0 := by
  refine FSpec.of_body tok true Tryd.func69 rfl (by kernel_rfl) (by decide) (by simp [tupA, hpLt, tmLt, AV.lt, AE.lt, AC.lt, LL_cons, LL_nil, idOk, ABlk.lt, ints_LL, GB, tab64_LL, gC, wB, giC, noneB]) (by simp [tupA, hpLt, tmLt, AV.lt, AE.lt, AC.lt, LL_cons, LL_nil, idOk, ABlk.lt, ints_LL, GB, tab64_LL, gC, wB, giC, noneB]) (by show 1 ≤ _; decide) ?_
  refine Wk.on ?_
  refine Tr.loop (md := true) (X := Nat) (st := fun i => ⟨[(0, .c (.int .i64 n)), (3, .c (.int .i64 (popTo n i))), (4, .c (.int .i64 i))], [], 0, 18, 0⟩) (inv := fun i => i < 11) (μ := fun i => 11 - i) (x0 := 0) (l := []) tok (by omega) ?_ ?_
  · exact Sub.nil ⟨rfl, rfl, (by simp [tab64_LL, gC, wB, giC, noneB]), rfl, (by simp [tupA, hpLt, tmLt, AV.lt, AE.lt, AC.lt, LL_cons, LL_nil, idOk, ABlk.lt, ints_LL, GB, tab64_LL, gC, wB, giC, noneB]), (by simp [tupA, hpLt, tmLt, AV.lt, AE.lt, AC.lt, LL_cons, LL_nil, idOk, ABlk.lt, ints_LL, GB, tab64_LL, gC, wB, giC, noneB])⟩ (by (repeat (first | exact trivial | refine ⟨trivial, ?_⟩ | refine ⟨rfl, ?_⟩))) (by (repeat (first | exact trivial | refine ⟨trivial, ?_⟩ | refine ⟨rfl, ?_⟩)))
  · intro i hi
    have h1 := popTo_le n i
    have h2 := popTo_succ n i
    have h3 : bit n i < 2 := by unfold bit; omega
    obtain ⟨q, hq⟩ : ∃ q, q = n / 2 ^ i := ⟨_, rfl⟩
    refine Wk.on ?_
    rw [shrN, ← hq]
    refine Wk.on ?_
    refine ⟨fun hc => ?_, fun hc => ?_⟩ <;> (try simp only [decide_eq_true_eq, decide_eq_false_iff_not, Decidable.not_not, Bool.not_true, Bool.not_false, ne_eq, cond_true, cond_false, Bool.not_eq_true', Bool.not_eq_false'] at hc)
    · have h10 := popTo_go n hn i hi (by rw [← hq]; omega)
      refine Wk.on ?_
      rw [shrN, ← hq]
      refine Wk.on ?_
      rw [mod2N, show q % 2 = bit n i from by rw [hq]; rfl]
      refine Wk.on ?_
      refine Again.mk (i + 1) (Sub.nil ⟨rfl, rfl, (by simp [tab64_LL, gC, wB, giC, noneB]), rfl, (by simp [tupA, hpLt, tmLt, AV.lt, AE.lt, AC.lt, LL_cons, LL_nil, idOk, ABlk.lt, ints_LL, GB, tab64_LL, gC, wB, giC, noneB]), (by simp [tupA, hpLt, tmLt, AV.lt, AE.lt, AC.lt, LL_cons, LL_nil, idOk, ABlk.lt, ints_LL, GB, tab64_LL, gC, wB, giC, noneB])⟩ ⟨rfl, by show AV.c (.int .i64 _) = AV.c (.int .i64 _); rw [h2]; rfl, rfl, trivial⟩ (by (repeat (first | exact trivial | refine ⟨trivial, ?_⟩ | refine ⟨rfl, ?_⟩)))) (by omega) (by omega)
    · refine Wk.on ?_
      exact AH.Fin.nil [] ⟨by rw [← popTo_end n hn i hi (by rw [← hq]; omega)]; rfl, rfl, rfl⟩ (by first | exact trivial | (simp [tupA, hpLt, tmLt, AV.lt, AE.lt, AC.lt, LL_cons, LL_nil, idOk, ABlk.lt, ints_LL, GB, tab64_LL, gC, wB, giC, noneB]; done) | (simp [tupA, hpLt, tmLt, AV.lt, AE.lt, AC.lt, LL_cons, LL_nil, idOk, ABlk.lt, ints_LL, GB, tab64_LL, gC, wB, giC, noneB, rdn, wrn]; done)) trivial trivial rfl (by simp [GB])
end Go.Proofs.YtfphkpdobbffeaaDoor

/-
  Contracts: the reference's groups.
-/
namespace Go.Proofs.YtfphkpdobbffeaaDoor
open Go Go.AH
set_option maxRecDepth 100000
set_option maxHeartbeats 1000000

def iota (n : Nat) : List Int := (List.range n).map Int.ofNat
theorem iota_succ (n : Nat) : iota (n + 1) = iota n ++ [(n : Int)] := by simp [iota, List.range_succ]
theorem iota_len (n : Nat) : (iota n).length = n := by simp [iota]
def repTo (xs : List Int) (mx mn : Int) : Nat → List Int
  | 0 => xs
  | k + 1 => if (repTo xs mx mn k).getD k 0 = mx then (repTo xs mx mn k).set k mn else repTo xs mx mn k
theorem repTo_len (xs : List Int) (mx mn : Int) : ∀ k, (repTo xs mx mn k).length = xs.length
  | 0 => rfl
  | k + 1 => by
    simp only [repTo]
    split
    · rw [List.length_set]; exact repTo_len xs mx mn k
    · exact repTo_len xs mx mn k
def grpS (g : Gm) (set : Nat) (xs : List Int) (i : Nat) : List Int :=
  if bit set i = 1 then repTo xs (max (xs.getD (g.ws.getD i (0, 0)).1 0) (xs.getD (g.ws.getD i (0, 0)).2 0)) (min (xs.getD (g.ws.getD i (0, 0)).1 0) (xs.getD (g.ws.getD i (0, 0)).2 0)) g.n else xs
def grpR (g : Gm) (set : Nat) : Nat → List Int
  | 0 => iota g.n
  | i + 1 => grpS g set (grpR g set i) i
theorem grpR_len (g : Gm) (set : Nat) : ∀ i, (grpR g set i).length = g.n
  | 0 => iota_len _
  | i + 1 => by
    simp only [grpR, grpS]
    split
    · rw [repTo_len]; exact grpR_len g set i
    · exact grpR_len g set i
theorem wBEq {g : Gm} {q : Nat → Nat} : some (wB g) = some ((wB g).ren q) := by simp only [wB, ABlk.ren, ints_ren]
def gst (g : Gm) (set : Nat) (i : Nat) : AS := match i with
  | 0 => ⟨[(2, .c (.ptr 1 0)), (1, .c (.int .i64 set)), (5, .c .nils), (6, .c (.int .i64 (0 : Nat)))], [(1, .own (gC g 0)), (0, wB g)], 2, 74, 1⟩
  | j + 1 => ⟨[(2, .c (.ptr 1 0)), (1, .c (.int .i64 set)), (5, .c (.row 2 (j + 1))), (6, .c (.int .i64 (j + 1 : Nat)))], [(1, .own (gC g 0)), (0, wB g), (2, .row 3 1 (ints (iota (j + 1))))], 3, 74, 1⟩

theorem groups_spec {g : Gm} (hg : g.ok) {set : Nat} (hn : set < 1024) : FDet Tryd.prog 87 [.g (gC g 0), .c (.int .i64 set)] [(0, wB g)] 1 (.c (.row 1 g.n)) [(1, .row 3 1 (ints (grpR g set g.ws.length)))] 2 := by
  have hn8 := hg.n8
  have hn2 := hg.n2
  have hlen := hg.len
  refine FSpec.of_body tok true Tryd.func87 rfl (by kernel_rfl) (by decide) (by simp [tupA, hpLt, tmLt, AV.lt, AE.lt, AC.lt, LL_cons, LL_nil, idOk, ABlk.lt, ints_LL, GB, tab64_LL, gC, wB, giC, noneB, gst]) (by simp [tupA, hpLt, tmLt, AV.lt, AE.lt, AC.lt, LL_cons, LL_nil, idOk, ABlk.lt, ints_LL, GB, tab64_LL, gC, wB, giC, noneB, gst]) (by show 2 ≤ _; decide) ?_
  refine Wk.on ?_
  refine Tr.loop (md := true) (X := Nat) (st := gst g set) (inv := fun i => i ≤ g.n) (μ := fun i => g.n - i) (x0 := 0) (l := []) tok (by omega) ?_ ?_
  · exact Sub.nil ⟨rfl, rfl, (by simp [tab64_LL, gC, wB, giC, noneB, gst]), rfl, (by simp [tupA, hpLt, tmLt, AV.lt, AE.lt, AC.lt, LL_cons, LL_nil, idOk, ABlk.lt, ints_LL, GB, tab64_LL, gC, wB, giC, noneB, gst]), (by simp [tupA, hpLt, tmLt, AV.lt, AE.lt, AC.lt, LL_cons, LL_nil, idOk, ABlk.lt, ints_LL, GB, tab64_LL, gC, wB, giC, noneB, gst])⟩ (by (repeat (first | exact trivial | refine ⟨trivial, ?_⟩ | refine ⟨rfl, ?_⟩))) (by (repeat (first | exact trivial | refine ⟨trivial, ?_⟩ | refine ⟨rfl, ?_⟩)))
  · intro i hi
    rcases i with _ | j
    · refine Wk.on ?_
      refine ⟨fun _ => ?_, fun h => (by simp at h; omega)⟩
      refine Wk.on ?_
      refine Again.mk (1) (Sub.new [(2, 3)] ⟨rfl, rfl, (by simp [tupA, hpLt, tmLt, AV.lt, AE.lt, AC.lt, LL_cons, LL_nil, idOk, ABlk.lt, ints_LL, GB, tab64_LL, gC, wB, giC, noneB, gst])⟩ rfl (by (repeat (first | exact trivial | refine ⟨trivial, ?_⟩ | refine ⟨rfl, ?_⟩))) ⟨rfl, wBEq, rowEq rfl, trivial⟩ rfl (by simp [tupA, hpLt, tmLt, AV.lt, AE.lt, AC.lt, LL_cons, LL_nil, idOk, ABlk.lt, ints_LL, GB, tab64_LL, gC, wB, giC, noneB, gst]) (by simp [tupA, hpLt, tmLt, AV.lt, AE.lt, AC.lt, LL_cons, LL_nil, idOk, ABlk.lt, ints_LL, GB, tab64_LL, gC, wB, giC, noneB, gst])) (by omega) (by omega)
    · refine Wk.on ?_
      refine ⟨fun hc => ?_, fun hc => ?_⟩ <;> (try simp only [decide_eq_true_eq, decide_eq_false_iff_not, Decidable.not_not, Bool.not_true, Bool.not_false, ne_eq, cond_true, cond_false, Bool.not_eq_true', Bool.not_eq_false'] at hc)
      · refine Wk.on ?_
        refine ⟨⟨Nat.le_of_ble_eq_true rfl, rfl, rfl, by rw [ints_len, iota_len, Nat.mul_one], by show ((j + 1 + 1 : Nat) : Int) * 8 ≤ _; omega, by omega⟩, ?_⟩
        refine Wk.on ?_
        refine Again.mk (j + 2) (Sub.new [(2, 4)] ⟨rfl, rfl, (by simp [tupA, hpLt, tmLt, AV.lt, AE.lt, AC.lt, LL_cons, LL_nil, idOk, ABlk.lt, ints_LL, GB, tab64_LL, gC, wB, giC, noneB, gst])⟩ rfl (by (repeat (first | exact trivial | refine ⟨trivial, ?_⟩ | refine ⟨rfl, ?_⟩))) ⟨rfl, wBEq, rowEq (by rw [iota_succ (j + 1), ← ints_app]; rfl), trivial⟩ rfl (by simp [tupA, hpLt, tmLt, AV.lt, AE.lt, AC.lt, LL_cons, LL_nil, idOk, ABlk.lt, ints_LL, GB, tab64_LL, gC, wB, giC, noneB, gst]) (by simp [tupA, hpLt, tmLt, AV.lt, AE.lt, AC.lt, LL_cons, LL_nil, idOk, ABlk.lt, ints_LL, GB, tab64_LL, gC, wB, giC, noneB, gst])) (by omega) (by omega)
      · have hj : j + 1 = g.n := by omega
        rw [hj]
        refine Wk.on ?_
        refine Tr.loop (md := true) (X := Nat) (st := fun i => ⟨[(2, .c (.ptr 1 0)), (1, .c (.int .i64 set)), (5, .c (.row 2 g.n)), (7, .c (.int .i64 i))], [(1, .own (gC g 0)), (0, wB g), (2, .row 3 1 (ints (grpR g set i)))], 3, 74, 1⟩) (inv := fun i => i ≤ g.ws.length) (μ := fun i => g.ws.length - i) (x0 := 0) (l := []) tok (by omega) ?_ ?_
        · exact Sub.nil ⟨rfl, rfl, (by simp [tab64_LL, gC, wB, giC, noneB, gst]), rfl, (by simp [tupA, hpLt, tmLt, AV.lt, AE.lt, AC.lt, LL_cons, LL_nil, idOk, ABlk.lt, ints_LL, GB, tab64_LL, gC, wB, giC, noneB, gst]), (by simp [tupA, hpLt, tmLt, AV.lt, AE.lt, AC.lt, LL_cons, LL_nil, idOk, ABlk.lt, ints_LL, GB, tab64_LL, gC, wB, giC, noneB, gst])⟩ (by (repeat (first | exact trivial | refine ⟨trivial, ?_⟩ | refine ⟨rfl, ?_⟩))) (by (repeat (first | exact trivial | refine ⟨trivial, ?_⟩ | refine ⟨rfl, ?_⟩)))
        · intro i hi
          have hxl : (ints (grpR g set i)).length = g.n := by rw [ints_len, grpR_len]
          refine Wk.on ?_
          refine ⟨fun hc => ?_, fun hc => ?_⟩ <;> (try simp only [decide_eq_true_eq, decide_eq_false_iff_not, Decidable.not_not, Bool.not_true, Bool.not_false, ne_eq, cond_true, cond_false, Bool.not_eq_true', Bool.not_eq_false'] at hc)
          rotate_left
          · have hil : i = g.ws.length := by omega
            refine Wk.on ?_
            exact AH.Fin.new [2] _ _ ⟨rfl, rfl, rfl⟩ rfl ⟨by rw [← hil]; exact rowEq rfl, trivial⟩ rfl (by simp [tupA, hpLt, tmLt, AV.lt, AE.lt, AC.lt, LL_cons, LL_nil, idOk, ABlk.lt, ints_LL, GB, tab64_LL, gC, wB, giC, noneB, gst]) (by simp [tupA, hpLt, tmLt, AV.lt, AE.lt, AC.lt, LL_cons, LL_nil, idOk, ABlk.lt, ints_LL, GB, tab64_LL, gC, wB, giC, noneB, gst])
          have hil : i < g.ws.length := by omega
          have he := hg.ends i hil
          obtain ⟨w1, hw1⟩ : ∃ w, w = (g.ws.getD i (0, 0)).1 := ⟨_, rfl⟩
          obtain ⟨w2, hw2⟩ : ∃ w, w = (g.ws.getD i (0, 0)).2 := ⟨_, rfl⟩
          rw [← hw1, ← hw2] at he
          have hwl : (ints (fl g.ws)).length = g.ws.length * 2 := by rw [ints_len, fl_len]
          refine Wk.on ?_
          refine Tr.draw (md := true) [⟨[], [29, 30, 31, 32, 33, 34, 37, 38, 39, 40, 41, 42, 43, 44, 45], [], [], []⟩, ⟨[], [28, 31, 37, 38, 39, 40, 41, 42, 43, 44, 45], [0], [], []⟩, ⟨[1], [28, 31, 37, 38, 39, 40, 41, 42, 43, 44, 45], [0], [], []⟩, ⟨[], [28, 29, 30, 37, 38, 39, 40, 41, 42, 43, 44, 45], [0, 1, 2], [], []⟩, ⟨[1, 2, 3], [28, 37, 38, 39, 40, 41, 42, 43, 44, 45], [0], [], []⟩, ⟨[1, 2, 3, 4], [28, 37, 38, 39, 40, 41, 42, 43, 44, 45], [0], [], []⟩, ⟨[1, 2, 3, 4, 5], [28, 37, 38, 39, 40, 41, 42, 43, 44, 45], [0], [], []⟩, ⟨[0, 1, 2, 3, 4, 5, 6], [37, 38, 39, 40, 41, 42, 43, 44, 45], [], [], []⟩, ⟨[0, 1, 2, 3, 4, 5, 6, 7], [37, 38, 39, 40, 41, 42, 43, 44, 45], [], [], []⟩, ⟨[], [8, 28, 29, 30, 31, 32, 33, 34, 35, 36, 38, 39, 40, 41, 42, 43], [0, 1, 2, 3, 4, 5, 6, 7, 8], [], []⟩, ⟨[], [8, 28, 29, 30, 31, 32, 33, 34, 35, 36, 37, 40], [0, 1, 2, 3, 4, 5, 6, 7, 8, 9], [], []⟩, ⟨[10], [8, 28, 29, 30, 31, 32, 33, 34, 35, 36, 37, 40], [0, 1, 2, 3, 4, 5, 6, 7, 8, 9], [], []⟩, ⟨[], [8, 28, 29, 30, 31, 32, 33, 34, 35, 36, 37, 38, 39], [0, 1, 2, 3, 4, 5, 6, 7, 8, 9, 10, 11], [], []⟩, ⟨[10, 11, 12], [8, 28, 29, 30, 31, 32, 33, 34, 35, 36, 37], [0, 1, 2, 3, 4, 5, 6, 7, 8, 9], [], []⟩, ⟨[10, 11, 12, 13], [8, 28, 29, 30, 31, 32, 33, 34, 35, 36, 37], [0, 1, 2, 3, 4, 5, 6, 7, 8, 9], [], []⟩, ⟨[10, 11, 12, 13, 14], [8, 28, 29, 30, 31, 32, 33, 34, 35, 36, 37], [0, 1, 2, 3, 4, 5, 6, 7, 8, 9], [], []⟩, ⟨[9, 10, 11, 12, 13, 14, 15], [8, 28, 29, 30, 31, 32, 33, 34, 35, 36], [0, 1, 2, 3, 4, 5, 6, 7, 8], [], []⟩, ⟨[9, 10, 11, 12, 13, 14, 15, 16], [8, 28, 29, 30, 31, 32, 33, 34, 35, 36], [0, 1, 2, 3, 4, 5, 6, 7, 8], [], []⟩, ⟨[0, 1, 2, 3, 4, 5, 6, 7, 8], [37, 38, 39, 40, 41, 42, 43, 44, 45], [9, 10, 11, 12, 13, 14, 15, 16, 17], [], []⟩] tok (by kernel_rfl) (by kernel_rfl) ?_
          refine Wk.on ?_
          rw [wget0, Int.toNat_natCast, ← hw1]
          refine Wk.on ?_
          rw [wget1, Int.toNat_natCast, ← hw2]
          refine Wk.on ?_
          simp only [ints_getD, Int.toNat_natCast, Nat.mul_one]
          obtain ⟨xs, hxs⟩ : ∃ xs, xs = grpR g set i := ⟨_, rfl⟩
          rw [← hxs] at hxl ⊢
          obtain ⟨a, ha⟩ : ∃ a, a = xs.getD w1 0 := ⟨_, rfl⟩
          obtain ⟨b, hb⟩ : ∃ b, b = xs.getD w2 0 := ⟨_, rfl⟩
          rw [← ha, ← hb]
          have hstep : grpR g set (i + 1) = if bit set i = 1 then repTo xs (max a b) (min a b) g.n else xs := by
            rw [grpR, grpS, ← hxs, ← hw1, ← hw2, ← ha, ← hb]
          refine Tr.loop (md := true) (X := Nat) (st := fun k => ⟨[(2, .c (.ptr 1 0)), (1, .c (.int .i64 set)), (5, .c (.row 2 g.n)), (7, .c (.int .i64 i)), (8, .c (.int .i64 a)), (9, .c (.int .i64 b)), (10, .c (.int .i64 k))], [(1, .own (gC g 0)), (0, wB g), (2, .row 3 1 (ints (repTo xs (max a b) (min a b) k)))], 3, 74, 1⟩) (inv := fun k => k ≤ g.n ∧ (0 < k → bit set i = 1)) (μ := fun k => g.n - k) (x0 := 0) (l := []) tok ⟨by omega, by omega⟩ ?_ ?_
          · exact Sub.nil ⟨rfl, rfl, (by simp [tab64_LL, gC, wB, giC, noneB, gst]), rfl, (by simp [tupA, hpLt, tmLt, AV.lt, AE.lt, AC.lt, LL_cons, LL_nil, idOk, ABlk.lt, ints_LL, GB, tab64_LL, gC, wB, giC, noneB, gst]), (by simp [tupA, hpLt, tmLt, AV.lt, AE.lt, AC.lt, LL_cons, LL_nil, idOk, ABlk.lt, ints_LL, GB, tab64_LL, gC, wB, giC, noneB, gst])⟩ (by (repeat (first | exact trivial | refine ⟨trivial, ?_⟩ | refine ⟨rfl, ?_⟩))) (by (repeat (first | exact trivial | refine ⟨trivial, ?_⟩ | refine ⟨rfl, ?_⟩)))
          · rintro k ⟨hk, hkb⟩
            have hyl : (ints (repTo xs (max a b) (min a b) k)).length = g.n := by rw [ints_len, repTo_len]; rw [ints_len] at hxl; exact hxl
            refine Wk.on ?_
            refine ⟨fun hc => ?_, fun hc => ?_⟩ <;> (try simp only [decide_eq_true_eq, decide_eq_false_iff_not, Decidable.not_not, Bool.not_true, Bool.not_false, ne_eq, cond_true, cond_false, Bool.not_eq_true', Bool.not_eq_false'] at hc)
            rotate_left
            · have hkn : k = g.n := by omega
              refine Wk.on ?_
              have hb1 := hkb (by omega)
              refine Again.mk (i + 1) (Sub.nil ⟨rfl, rfl, (by simp [tab64_LL, gC, wB, giC, noneB, gst]), rfl, (by simp [tupA, hpLt, tmLt, AV.lt, AE.lt, AC.lt, LL_cons, LL_nil, idOk, ABlk.lt, ints_LL, GB, tab64_LL, gC, wB, giC, noneB, gst]), (by simp [tupA, hpLt, tmLt, AV.lt, AE.lt, AC.lt, LL_cons, LL_nil, idOk, ABlk.lt, ints_LL, GB, tab64_LL, gC, wB, giC, noneB, gst])⟩ (by (repeat (first | exact trivial | refine ⟨trivial, ?_⟩ | refine ⟨rfl, ?_⟩))) ⟨rfl, rfl, by show ABlk.row 3 1 _ = ABlk.row 3 1 _; rw [hstep, if_pos hb1, hkn], trivial⟩) (by omega) (by omega)
            have hkn : k < g.n := by omega
            obtain ⟨q, hq⟩ : ∃ q, q = set / 2 ^ i := ⟨_, rfl⟩
            obtain ⟨c, hcb⟩ : ∃ c, c = bit set i := ⟨_, rfl⟩
            rw [← hcb] at hkb hstep
            refine Wk.on ?_
            rw [shrN, ← hq]
            refine Wk.on ?_
            rw [mod2N, show q % 2 = c from by rw [hcb, hq]; rfl]
            refine Wk.on ?_
            refine ⟨fun hc => ?_, fun hc => ?_⟩ <;> (try simp only [decide_eq_true_eq, decide_eq_false_iff_not, Decidable.not_not, Bool.not_true, Bool.not_false, ne_eq, cond_true, cond_false, Bool.not_eq_true', Bool.not_eq_false'] at hc)
            · have hc1 : c = 1 := by omega
              have hrep : repTo xs (max a b) (min a b) (k + 1) = if (repTo xs (max a b) (min a b) k).getD k 0 = max a b then (repTo xs (max a b) (min a b) k).set k (min a b) else repTo xs (max a b) (min a b) k := rfl
              refine Wk.on ?_
              simp only [ints_getD, Int.toNat_natCast, Nat.mul_one]
              refine Wk.on ?_
              refine ⟨fun hc => ?_, fun hc => ?_⟩ <;> (try simp only [decide_eq_true_eq, decide_eq_false_iff_not, Decidable.not_not, Bool.not_true, Bool.not_false, ne_eq, cond_true, cond_false, Bool.not_eq_true', Bool.not_eq_false'] at hc)
              · refine Wk.on ?_
                refine Again.mk (k + 1) (Sub.nil ⟨rfl, rfl, (by simp [tab64_LL, gC, wB, giC, noneB, gst]), rfl, (by simp [tupA, hpLt, tmLt, AV.lt, AE.lt, AC.lt, LL_cons, LL_nil, idOk, ABlk.lt, ints_LL, GB, tab64_LL, gC, wB, giC, noneB, gst]), (by simp [tupA, hpLt, tmLt, AV.lt, AE.lt, AC.lt, LL_cons, LL_nil, idOk, ABlk.lt, ints_LL, GB, tab64_LL, gC, wB, giC, noneB, gst])⟩ (by (repeat (first | exact trivial | refine ⟨trivial, ?_⟩ | refine ⟨rfl, ?_⟩))) ⟨rfl, rfl, by show ABlk.row 3 1 _ = ABlk.row 3 1 _; rw [hrep, if_pos hc, ints_set]; simp, trivial⟩) (⟨by omega, fun _ => by rw [← hcb]; exact hc1⟩) (by omega)
              · refine Wk.on ?_
                refine Again.mk (k + 1) (Sub.nil ⟨rfl, rfl, (by simp [tab64_LL, gC, wB, giC, noneB, gst]), rfl, (by simp [tupA, hpLt, tmLt, AV.lt, AE.lt, AC.lt, LL_cons, LL_nil, idOk, ABlk.lt, ints_LL, GB, tab64_LL, gC, wB, giC, noneB, gst]), (by simp [tupA, hpLt, tmLt, AV.lt, AE.lt, AC.lt, LL_cons, LL_nil, idOk, ABlk.lt, ints_LL, GB, tab64_LL, gC, wB, giC, noneB, gst])⟩ (by (repeat (first | exact trivial | refine ⟨trivial, ?_⟩ | refine ⟨rfl, ?_⟩))) ⟨rfl, rfl, by show ABlk.row 3 1 _ = ABlk.row 3 1 _; rw [hrep, if_neg hc], trivial⟩) (⟨by omega, fun _ => by rw [← hcb]; exact hc1⟩) (by omega)
            · have hc0 : ¬ c = 1 := by omega
              have hk0 : k = 0 := by
                by_cases h : k = 0
                · exact h
                · exact absurd (hkb (by omega)) hc0
              refine Wk.on ?_
              refine Again.mk (i + 1) (Sub.nil ⟨rfl, rfl, (by simp [tab64_LL, gC, wB, giC, noneB, gst]), rfl, (by simp [tupA, hpLt, tmLt, AV.lt, AE.lt, AC.lt, LL_cons, LL_nil, idOk, ABlk.lt, ints_LL, GB, tab64_LL, gC, wB, giC, noneB, gst]), (by simp [tupA, hpLt, tmLt, AV.lt, AE.lt, AC.lt, LL_cons, LL_nil, idOk, ABlk.lt, ints_LL, GB, tab64_LL, gC, wB, giC, noneB, gst])⟩ (by (repeat (first | exact trivial | refine ⟨trivial, ?_⟩ | refine ⟨rfl, ?_⟩))) ⟨rfl, rfl, by show ABlk.row 3 1 _ = ABlk.row 3 1 _; rw [hstep, if_neg hc0, hk0]; rfl, trivial⟩) (by omega) (by omega)
end Go.Proofs.YtfphkpdobbffeaaDoor

/-
  Contracts: the reference's trees, and their number.
-/
namespace Go.Proofs.YtfphkpdobbffeaaDoor
open Go Go.AH
set_option maxRecDepth 100000
set_option maxHeartbeats 1000000

theorem shr_nonneg (n i : Nat) : 0 ≤ (n : Int) / 2 ^ (Int.toNat (i : Int)) := by rw [shrN]; exact Int.natCast_nonneg _
theorem bitE (n i : Nat) : (n : Int) / 2 ^ (Int.toNat (i : Int)) % 2 = (bit n i : Int) := by rw [shrN, mod2N]; rfl
theorem shr_nonneg' (n i : Nat) : 0 ≤ (n : Int) / 2 ^ i := by have := shr_nonneg n i; rwa [Int.toNat_natCast] at this
theorem bitE' (n i : Nat) : (n : Int) / 2 ^ i % 2 = (bit n i : Int) := by have := bitE n i; rwa [Int.toNat_natCast] at this
theorem bit_01 (n i : Nat) : bit n i = 0 ∨ bit n i = 1 := by unfold bit; omega
def wOk (g : Gm) (set pl i : Nat) : Bool :=
  !(decide (bit set i = 1) && (decide (bit pl (g.ws.getD i (0, 0)).1 = 0) || decide (bit pl (g.ws.getD i (0, 0)).2 = 0)))
def scanF (l : List Int) (pl : Nat) : Nat → Nat → Int → Bool
  | 0, _, _ => true
  | f + 1, k, first => if bit pl k = 0 then scanF l pl f (k + 1) first else
    if l.getD k 0 = (if first < 0 then l.getD k 0 else first) then scanF l pl f (k + 1) (if first < 0 then l.getD k 0 else first) else false
def treeR (g : Gm) (set pl : Nat) : Bool :=
  decide (∀ i, i < g.ws.length → wOk g set pl i = true) && scanF (grpR g set g.ws.length) pl g.n 0 (-1) && decide ((pop set : Int) = pop pl - 1)

theorem tree_spec {g : Gm} (hg : g.ok) {set pl : Nat} (hs : set < 1024) (hp : pl < 1024) : FDet Tryd.prog 60 [.g (gC g 0), .c (.int .i64 set), .c (.int .i64 pl)] [(0, wB g)] 1 (.c (.bool (treeR g set pl))) [] 1 := by
  have hn8 := hg.n8
  have hlen := hg.len
  have hwl : (ints (fl g.ws)).length = g.ws.length * 2 := by rw [ints_len, fl_len]
  refine FSpec.of_body tok true Tryd.func60 rfl (by kernel_rfl) (by decide) (by simp [tupA, hpLt, tmLt, AV.lt, AE.lt, AC.lt, LL_cons, LL_nil, idOk, ABlk.lt, ints_LL, GB, tab64_LL, gC, wB, giC, noneB, gst]) (by simp [tupA, hpLt, tmLt, AV.lt, AE.lt, AC.lt, LL_cons, LL_nil, idOk, ABlk.lt, ints_LL, GB, tab64_LL, gC, wB, giC, noneB, gst]) (by show 3 ≤ _; decide) ?_
  (conv => whnf); (repeat ((first | (refine ⟨rfl, ?_⟩) | (refine ⟨trivial, ?_⟩) | (refine Wk.yes ?_) | (refine Wk.no ?_) | (refine Wk.and ?_) | (refine ⟨by exact ⟨shr_nonneg _ _, by decide⟩, ?_⟩) | (refine ⟨by exact ⟨shr_nonneg' _ _, by decide⟩, ?_⟩)); (conv => whnf)))
  refine Tr.loop (md := true) (X := Nat) (st := fun i => ⟨[(1, .c (.int .i64 set)), (2, .c (.int .i64 pl)), (3, .c (.ptr 1 0)), (7, .c (.int .i64 i))], [(1, .own (gC g 0)), (0, wB g)], 2, 77, 1⟩) (inv := fun i => i ≤ g.ws.length ∧ ∀ j, j < i → wOk g set pl j = true) (μ := fun i => g.ws.length - i) (x0 := 0) (l := []) tok ⟨by omega, fun j hj => by omega⟩ ?_ ?_
  · exact Sub.nil ⟨rfl, rfl, (by simp [tab64_LL, gC, wB, giC, noneB, gst]), rfl, (by simp [tupA, hpLt, tmLt, AV.lt, AE.lt, AC.lt, LL_cons, LL_nil, idOk, ABlk.lt, ints_LL, GB, tab64_LL, gC, wB, giC, noneB, gst]), (by simp [tupA, hpLt, tmLt, AV.lt, AE.lt, AC.lt, LL_cons, LL_nil, idOk, ABlk.lt, ints_LL, GB, tab64_LL, gC, wB, giC, noneB, gst])⟩ (by (repeat (first | exact trivial | refine ⟨trivial, ?_⟩ | refine ⟨rfl, ?_⟩))) (by (repeat (first | exact trivial | refine ⟨trivial, ?_⟩ | refine ⟨rfl, ?_⟩)))
  · rintro i ⟨hi, hw⟩
    (conv => whnf); (repeat ((first | (refine ⟨rfl, ?_⟩) | (refine ⟨trivial, ?_⟩) | (refine Wk.yes ?_) | (refine Wk.no ?_) | (refine Wk.and ?_) | (refine ⟨by exact ⟨shr_nonneg _ _, by decide⟩, ?_⟩) | (refine ⟨by exact ⟨shr_nonneg' _ _, by decide⟩, ?_⟩)); (conv => whnf)))
    refine ⟨fun hc => ?_, fun hc => ?_⟩ <;> (try simp only [decide_eq_true_eq, decide_eq_false_iff_not, Decidable.not_not, Bool.not_true, Bool.not_false, ne_eq, cond_true, cond_false, Bool.not_eq_true', Bool.not_eq_false', Int.toNat_natCast, bitE, bitE'] at hc)
    · have hil : i < g.ws.length := by omega
      have he := hg.ends i hil
      have hl2 : 0 + (i : Int).toNat * 2 + 2 ≤ (ints (fl g.ws)).length := by rw [hwl]; omega
      have next : wOk g set pl i = true → i + 1 ≤ g.ws.length ∧ ∀ j, j < i + 1 → wOk g set pl j = true := fun h => ⟨hil, fun j hj => by
        by_cases e : j = i
        · exact e ▸ h
        · exact hw j (by omega)⟩
      have stop : wOk g set pl i = false → treeR g set pl = false := fun h => by
        rw [treeR, decide_eq_false (fun h2 => by rw [h2 i hil] at h; cases h)]; rfl
      (conv => whnf); (repeat ((first | (refine ⟨rfl, ?_⟩) | (refine ⟨trivial, ?_⟩) | (refine Wk.yes ?_) | (refine Wk.no ?_) | (refine Wk.and ?_) | (refine ⟨by exact ⟨shr_nonneg _ _, by decide⟩, ?_⟩) | (refine ⟨by exact ⟨shr_nonneg' _ _, by decide⟩, ?_⟩)); (conv => whnf)))
      rw [wgetW, Int.toNat_natCast]
      obtain ⟨w1, hw1⟩ : ∃ w, w = (g.ws.getD i (0, 0)).1 := ⟨_, rfl⟩
      obtain ⟨w2, hw2⟩ : ∃ w, w = (g.ws.getD i (0, 0)).2 := ⟨_, rfl⟩
      have hwo : wOk g set pl i = !(decide (bit set i = 1) && (decide (bit pl w1 = 0) || decide (bit pl w2 = 0))) := by rw [hw1, hw2]; rfl
      rw [← hw1, ← hw2] at he ⊢
      (conv => whnf); (repeat ((first | (refine ⟨rfl, ?_⟩) | (refine ⟨trivial, ?_⟩) | (refine Wk.yes ?_) | (refine Wk.no ?_) | (refine Wk.and ?_) | (refine ⟨by exact ⟨shr_nonneg _ _, by decide⟩, ?_⟩) | (refine ⟨by exact ⟨shr_nonneg' _ _, by decide⟩, ?_⟩)); (conv => whnf)))
      refine ⟨fun hc => ?_, fun hc => ?_⟩ <;> (try simp only [decide_eq_true_eq, decide_eq_false_iff_not, Decidable.not_not, Bool.not_true, Bool.not_false, ne_eq, cond_true, cond_false, Bool.not_eq_true', Bool.not_eq_false', Int.toNat_natCast, bitE, bitE'] at hc)
      · have b1 : bit set i = 1 := by omega
        (conv => whnf); (repeat ((first | (refine ⟨rfl, ?_⟩) | (refine ⟨trivial, ?_⟩) | (refine Wk.yes ?_) | (refine Wk.no ?_) | (refine Wk.and ?_) | (refine ⟨by exact ⟨shr_nonneg _ _, by decide⟩, ?_⟩) | (refine ⟨by exact ⟨shr_nonneg' _ _, by decide⟩, ?_⟩)); (conv => whnf)))
        refine ⟨fun hc => ?_, fun hc => ?_⟩ <;> (try simp only [decide_eq_true_eq, decide_eq_false_iff_not, Decidable.not_not, Bool.not_true, Bool.not_false, ne_eq, cond_true, cond_false, Bool.not_eq_true', Bool.not_eq_false', Int.toNat_natCast, bitE, bitE'] at hc)
        · have b2 : ¬ bit pl w1 = 0 := by omega
          (conv => whnf); (repeat ((first | (refine ⟨rfl, ?_⟩) | (refine ⟨trivial, ?_⟩) | (refine Wk.yes ?_) | (refine Wk.no ?_) | (refine Wk.and ?_) | (refine ⟨by exact ⟨shr_nonneg _ _, by decide⟩, ?_⟩) | (refine ⟨by exact ⟨shr_nonneg' _ _, by decide⟩, ?_⟩)); (conv => whnf)))
          refine ⟨fun hc => ?_, fun hc => ?_⟩ <;> (try simp only [decide_eq_true_eq, decide_eq_false_iff_not, Decidable.not_not, Bool.not_true, Bool.not_false, ne_eq, cond_true, cond_false, Bool.not_eq_true', Bool.not_eq_false', Int.toNat_natCast, bitE, bitE'] at hc)
          · have b3 : bit pl w2 = 0 := by omega
            (conv => whnf); (repeat ((first | (refine ⟨rfl, ?_⟩) | (refine ⟨trivial, ?_⟩) | (refine Wk.yes ?_) | (refine Wk.no ?_) | (refine Wk.and ?_) | (refine ⟨by exact ⟨shr_nonneg _ _, by decide⟩, ?_⟩) | (refine ⟨by exact ⟨shr_nonneg' _ _, by decide⟩, ?_⟩)); (conv => whnf)))
            exact AH.Fin.nil [] ⟨by rw [stop (by rw [hwo, decide_eq_true b1, decide_eq_true b3]; simp)]; rfl, rfl, rfl⟩ (by first | exact trivial | (simp [tupA, hpLt, tmLt, AV.lt, AE.lt, AC.lt, LL_cons, LL_nil, idOk, ABlk.lt, ints_LL, GB, tab64_LL, gC, wB, giC, noneB, gst]; done) | (simp [tupA, hpLt, tmLt, AV.lt, AE.lt, AC.lt, LL_cons, LL_nil, idOk, ABlk.lt, ints_LL, GB, tab64_LL, gC, wB, giC, noneB, gst, rdn, wrn]; done)) trivial trivial rfl (by simp [GB])
          · have b3 : ¬ bit pl w2 = 0 := by omega
            (conv => whnf); (repeat ((first | (refine ⟨rfl, ?_⟩) | (refine ⟨trivial, ?_⟩) | (refine Wk.yes ?_) | (refine Wk.no ?_) | (refine Wk.and ?_) | (refine ⟨by exact ⟨shr_nonneg _ _, by decide⟩, ?_⟩) | (refine ⟨by exact ⟨shr_nonneg' _ _, by decide⟩, ?_⟩)); (conv => whnf)))
            refine Again.mk (i + 1) (Sub.nil ⟨rfl, rfl, (by simp [tab64_LL, gC, wB, giC, noneB, gst]), rfl, (by simp [tupA, hpLt, tmLt, AV.lt, AE.lt, AC.lt, LL_cons, LL_nil, idOk, ABlk.lt, ints_LL, GB, tab64_LL, gC, wB, giC, noneB, gst]), (by simp [tupA, hpLt, tmLt, AV.lt, AE.lt, AC.lt, LL_cons, LL_nil, idOk, ABlk.lt, ints_LL, GB, tab64_LL, gC, wB, giC, noneB, gst])⟩ (by (repeat (first | exact trivial | refine ⟨trivial, ?_⟩ | refine ⟨rfl, ?_⟩))) (by (repeat (first | exact trivial | refine ⟨trivial, ?_⟩ | refine ⟨rfl, ?_⟩)))) (next (by rw [hwo, decide_eq_false b2, decide_eq_false b3]; simp)) (by omega)
        · have b2 : bit pl w1 = 0 := by omega
          (conv => whnf); (repeat ((first | (refine ⟨rfl, ?_⟩) | (refine ⟨trivial, ?_⟩) | (refine Wk.yes ?_) | (refine Wk.no ?_) | (refine Wk.and ?_) | (refine ⟨by exact ⟨shr_nonneg _ _, by decide⟩, ?_⟩) | (refine ⟨by exact ⟨shr_nonneg' _ _, by decide⟩, ?_⟩)); (conv => whnf)))
          exact AH.Fin.nil [] ⟨by rw [stop (by rw [hwo, decide_eq_true b1, decide_eq_true b2]; simp)]; rfl, rfl, rfl⟩ (by first | exact trivial | (simp [tupA, hpLt, tmLt, AV.lt, AE.lt, AC.lt, LL_cons, LL_nil, idOk, ABlk.lt, ints_LL, GB, tab64_LL, gC, wB, giC, noneB, gst]; done) | (simp [tupA, hpLt, tmLt, AV.lt, AE.lt, AC.lt, LL_cons, LL_nil, idOk, ABlk.lt, ints_LL, GB, tab64_LL, gC, wB, giC, noneB, gst, rdn, wrn]; done)) trivial trivial rfl (by simp [GB])
      · have b1 : ¬ bit set i = 1 := by omega
        (conv => whnf); (repeat ((first | (refine ⟨rfl, ?_⟩) | (refine ⟨trivial, ?_⟩) | (refine Wk.yes ?_) | (refine Wk.no ?_) | (refine Wk.and ?_) | (refine ⟨by exact ⟨shr_nonneg _ _, by decide⟩, ?_⟩) | (refine ⟨by exact ⟨shr_nonneg' _ _, by decide⟩, ?_⟩)); (conv => whnf)))
        refine Again.mk (i + 1) (Sub.nil ⟨rfl, rfl, (by simp [tab64_LL, gC, wB, giC, noneB, gst]), rfl, (by simp [tupA, hpLt, tmLt, AV.lt, AE.lt, AC.lt, LL_cons, LL_nil, idOk, ABlk.lt, ints_LL, GB, tab64_LL, gC, wB, giC, noneB, gst]), (by simp [tupA, hpLt, tmLt, AV.lt, AE.lt, AC.lt, LL_cons, LL_nil, idOk, ABlk.lt, ints_LL, GB, tab64_LL, gC, wB, giC, noneB, gst])⟩ (by (repeat (first | exact trivial | refine ⟨trivial, ?_⟩ | refine ⟨rfl, ?_⟩))) (by (repeat (first | exact trivial | refine ⟨trivial, ?_⟩ | refine ⟨rfl, ?_⟩)))) (next (by rw [hwo, decide_eq_false b1]; simp)) (by omega)
    · have hil : i = g.ws.length := by omega
      subst hil
      (conv => whnf); (repeat ((first | (refine ⟨rfl, ?_⟩) | (refine ⟨trivial, ?_⟩) | (refine Wk.yes ?_) | (refine Wk.no ?_) | (refine Wk.and ?_) | (refine ⟨by exact ⟨shr_nonneg _ _, by decide⟩, ?_⟩) | (refine ⟨by exact ⟨shr_nonneg' _ _, by decide⟩, ?_⟩)); (conv => whnf)))
      refine CallA.det [0] (.c (.row 2 g.n)) ([(1, .own (gC g 0)), (0, wB g), (2, .row 3 1 (ints (grpR g set g.ws.length)))]) (groups_spec hg hs) (by first | rfl | exact congrArg AV.g (ints_ren _ _) | (simp [ints_ren, AV.ren, ABlk.ren, AC.ren, AE.ren, qq]; done)) rfl (by (repeat (first | exact trivial | refine ⟨⟨(by first | exact .inl (by decide) | exact .inr (by decide)), (by first | (refine Or.inl ?_; first | rfl | exact congrArg some (ints_ren _ _).symm | exact congrArg ABlk.own (ints_ren _ _).symm | exact congrArg some (tab64_ren _).symm) | rfl | exact congrArg some (ints_ren _ _).symm | exact congrArg ABlk.own (ints_ren _ _).symm | exact congrArg some (tab64_ren _).symm | exact Or.inr ⟨rfl, rfl⟩)⟩, ?_⟩))) (by first | rfl | exact congrArg AV.g (ints_ren _ _) | (simp [ints_ren, AV.ren, ABlk.ren, AC.ren, AE.ren, qq]; done)) (by first | rfl | (simp [behind, gone, lk, up, del, qq, ABlk.wr, GB, ints_ren, AV.ren, ABlk.ren, AC.ren, AE.ren]; done) | (simp [behind, gone, lk, up, del, qq, ABlk.wr, GB, ints_ren, AV.ren, ABlk.ren, AC.ren, AE.ren]; rfl)) ?_
      obtain ⟨l, hl⟩ : ∃ l, l = grpR g set g.ws.length := ⟨_, rfl⟩
      have hll : l.length = g.n := by rw [hl, grpR_len]
      have hll2 : (ints l).length = g.n := by rw [ints_len, hll]
      rw [← hl]
      have htr : treeR g set pl = (scanF l pl g.n 0 (-1) && decide ((pop set : Int) = pop pl - 1)) := by
        rw [treeR, decide_eq_true hw, ← hl]; rfl
      (conv => whnf); (repeat ((first | (refine ⟨rfl, ?_⟩) | (refine ⟨trivial, ?_⟩) | (refine Wk.yes ?_) | (refine Wk.no ?_) | (refine Wk.and ?_) | (refine ⟨by exact ⟨shr_nonneg _ _, by decide⟩, ?_⟩) | (refine ⟨by exact ⟨shr_nonneg' _ _, by decide⟩, ?_⟩)); (conv => whnf)))
      refine Tr.loop (md := true) (X := Nat × Int) (st := fun x => ⟨[(1, .c (.int .i64 set)), (2, .c (.int .i64 pl)), (3, .c (.ptr 1 0)), (9, .c (.row 2 g.n)), (10, .c (.int .i64 x.2)), (11, .c (.int .i64 x.1))], [(1, .own (gC g 0)), (0, wB g), (2, .row 3 1 (ints l))], 3, 77, 1⟩) (inv := fun x => x.1 ≤ g.n ∧ scanF l pl g.n 0 (-1) = scanF l pl (g.n - x.1) x.1 x.2) (μ := fun x => g.n - x.1) (x0 := (0, -1)) (l := []) tok ⟨by omega, rfl⟩ ?_ ?_
      · exact Sub.nil ⟨rfl, rfl, (by simp [tab64_LL, gC, wB, giC, noneB, gst]), rfl, (by simp [tupA, hpLt, tmLt, AV.lt, AE.lt, AC.lt, LL_cons, LL_nil, idOk, ABlk.lt, ints_LL, GB, tab64_LL, gC, wB, giC, noneB, gst]), (by simp [tupA, hpLt, tmLt, AV.lt, AE.lt, AC.lt, LL_cons, LL_nil, idOk, ABlk.lt, ints_LL, GB, tab64_LL, gC, wB, giC, noneB, gst])⟩ (by (repeat (first | exact trivial | refine ⟨trivial, ?_⟩ | refine ⟨rfl, ?_⟩))) (by (repeat (first | exact trivial | refine ⟨trivial, ?_⟩ | refine ⟨rfl, ?_⟩)))
      · rintro ⟨k, f⟩ ⟨hk, hsc⟩
        simp only at hk hsc
        dsimp only
        (conv => whnf); (repeat ((first | (refine ⟨rfl, ?_⟩) | (refine ⟨trivial, ?_⟩) | (refine Wk.yes ?_) | (refine Wk.no ?_) | (refine Wk.and ?_) | (refine ⟨by exact ⟨shr_nonneg _ _, by decide⟩, ?_⟩) | (refine ⟨by exact ⟨shr_nonneg' _ _, by decide⟩, ?_⟩)); (conv => whnf)))
        refine ⟨fun hc => ?_, fun hc => ?_⟩ <;> (try simp only [decide_eq_true_eq, decide_eq_false_iff_not, Decidable.not_not, Bool.not_true, Bool.not_false, ne_eq, cond_true, cond_false, Bool.not_eq_true', Bool.not_eq_false', Int.toNat_natCast, bitE, bitE'] at hc)
        · have hkn : k < g.n := by omega
          obtain ⟨m, hm⟩ : ∃ m, g.n - k = m + 1 := ⟨g.n - k - 1, by omega⟩
          have hm2 : g.n - (k + 1) = m := by omega
          rw [hm, scanF] at hsc
          (conv => whnf); (repeat ((first | (refine ⟨rfl, ?_⟩) | (refine ⟨trivial, ?_⟩) | (refine Wk.yes ?_) | (refine Wk.no ?_) | (refine Wk.and ?_) | (refine ⟨by exact ⟨shr_nonneg _ _, by decide⟩, ?_⟩) | (refine ⟨by exact ⟨shr_nonneg' _ _, by decide⟩, ?_⟩)); (conv => whnf)))
          refine ⟨fun hc => ?_, fun hc => ?_⟩ <;> (try simp only [decide_eq_true_eq, decide_eq_false_iff_not, Decidable.not_not, Bool.not_true, Bool.not_false, ne_eq, cond_true, cond_false, Bool.not_eq_true', Bool.not_eq_false', Int.toNat_natCast, bitE, bitE'] at hc)
          · have b1 : bit pl k = 0 := by omega
            rw [if_pos b1] at hsc
            (conv => whnf); (repeat ((first | (refine ⟨rfl, ?_⟩) | (refine ⟨trivial, ?_⟩) | (refine Wk.yes ?_) | (refine Wk.no ?_) | (refine Wk.and ?_) | (refine ⟨by exact ⟨shr_nonneg _ _, by decide⟩, ?_⟩) | (refine ⟨by exact ⟨shr_nonneg' _ _, by decide⟩, ?_⟩)); (conv => whnf)))
            refine Again.mk ((k + 1, f)) (Sub.nil ⟨rfl, rfl, (by simp [tab64_LL, gC, wB, giC, noneB, gst]), rfl, (by simp [tupA, hpLt, tmLt, AV.lt, AE.lt, AC.lt, LL_cons, LL_nil, idOk, ABlk.lt, ints_LL, GB, tab64_LL, gC, wB, giC, noneB, gst]), (by simp [tupA, hpLt, tmLt, AV.lt, AE.lt, AC.lt, LL_cons, LL_nil, idOk, ABlk.lt, ints_LL, GB, tab64_LL, gC, wB, giC, noneB, gst])⟩ (by (repeat (first | exact trivial | refine ⟨trivial, ?_⟩ | refine ⟨rfl, ?_⟩))) (by (repeat (first | exact trivial | refine ⟨trivial, ?_⟩ | refine ⟨rfl, ?_⟩)))) (⟨by omega, by rw [hsc, hm2]⟩) (by omega)
          · have b1 : ¬ bit pl k = 0 := by omega
            rw [if_neg b1] at hsc
            (conv => whnf); (repeat ((first | (refine ⟨rfl, ?_⟩) | (refine ⟨trivial, ?_⟩) | (refine Wk.yes ?_) | (refine Wk.no ?_) | (refine Wk.and ?_) | (refine ⟨by exact ⟨shr_nonneg _ _, by decide⟩, ?_⟩) | (refine ⟨by exact ⟨shr_nonneg' _ _, by decide⟩, ?_⟩)); (conv => whnf)))
            refine ⟨fun hc => ?_, fun hc => ?_⟩ <;> (try simp only [decide_eq_true_eq, decide_eq_false_iff_not, Decidable.not_not, Bool.not_true, Bool.not_false, ne_eq, cond_true, cond_false, Bool.not_eq_true', Bool.not_eq_false', Int.toNat_natCast, bitE, bitE'] at hc)
            · have hf : f < 0 := hc
              rw [if_pos hf, if_pos rfl] at hsc
              (conv => whnf); (repeat ((first | (refine ⟨rfl, ?_⟩) | (refine ⟨trivial, ?_⟩) | (refine Wk.yes ?_) | (refine Wk.no ?_) | (refine Wk.and ?_) | (refine ⟨by exact ⟨shr_nonneg _ _, by decide⟩, ?_⟩) | (refine ⟨by exact ⟨shr_nonneg' _ _, by decide⟩, ?_⟩)); (conv => whnf)))
              simp only [ints_getD, Int.toNat_natCast, Nat.mul_one]
              (conv => whnf); (repeat ((first | (refine ⟨rfl, ?_⟩) | (refine ⟨trivial, ?_⟩) | (refine Wk.yes ?_) | (refine Wk.no ?_) | (refine Wk.and ?_) | (refine ⟨by exact ⟨shr_nonneg _ _, by decide⟩, ?_⟩) | (refine ⟨by exact ⟨shr_nonneg' _ _, by decide⟩, ?_⟩)); (conv => whnf)))
              intro _
              (conv => whnf); (repeat ((first | (refine ⟨rfl, ?_⟩) | (refine ⟨trivial, ?_⟩) | (refine Wk.yes ?_) | (refine Wk.no ?_) | (refine Wk.and ?_) | (refine ⟨by exact ⟨shr_nonneg _ _, by decide⟩, ?_⟩) | (refine ⟨by exact ⟨shr_nonneg' _ _, by decide⟩, ?_⟩)); (conv => whnf)))
              refine Again.mk ((k + 1, l.getD k 0)) (Sub.nil ⟨rfl, rfl, (by simp [tab64_LL, gC, wB, giC, noneB, gst]), rfl, (by simp [tupA, hpLt, tmLt, AV.lt, AE.lt, AC.lt, LL_cons, LL_nil, idOk, ABlk.lt, ints_LL, GB, tab64_LL, gC, wB, giC, noneB, gst]), (by simp [tupA, hpLt, tmLt, AV.lt, AE.lt, AC.lt, LL_cons, LL_nil, idOk, ABlk.lt, ints_LL, GB, tab64_LL, gC, wB, giC, noneB, gst])⟩ (by (repeat (first | exact trivial | refine ⟨trivial, ?_⟩ | refine ⟨rfl, ?_⟩))) (by (repeat (first | exact trivial | refine ⟨trivial, ?_⟩ | refine ⟨rfl, ?_⟩)))) (⟨by omega, by rw [hsc, hm2]⟩) (by omega)
            · have hf : ¬ f < 0 := hc
              rw [if_neg hf] at hsc
              (conv => whnf); (repeat ((first | (refine ⟨rfl, ?_⟩) | (refine ⟨trivial, ?_⟩) | (refine Wk.yes ?_) | (refine Wk.no ?_) | (refine Wk.and ?_) | (refine ⟨by exact ⟨shr_nonneg _ _, by decide⟩, ?_⟩) | (refine ⟨by exact ⟨shr_nonneg' _ _, by decide⟩, ?_⟩)); (conv => whnf)))
              simp only [ints_getD, Int.toNat_natCast, Nat.mul_one]
              (conv => whnf); (repeat ((first | (refine ⟨rfl, ?_⟩) | (refine ⟨trivial, ?_⟩) | (refine Wk.yes ?_) | (refine Wk.no ?_) | (refine Wk.and ?_) | (refine ⟨by exact ⟨shr_nonneg _ _, by decide⟩, ?_⟩) | (refine ⟨by exact ⟨shr_nonneg' _ _, by decide⟩, ?_⟩)); (conv => whnf)))
              refine ⟨fun hc => ?_, fun hc => ?_⟩ <;> (try simp only [decide_eq_true_eq, decide_eq_false_iff_not, Decidable.not_not, Bool.not_true, Bool.not_false, ne_eq, cond_true, cond_false, Bool.not_eq_true', Bool.not_eq_false', Int.toNat_natCast, bitE, bitE'] at hc)
              · rw [if_neg hc] at hsc
                (conv => whnf); (repeat ((first | (refine ⟨rfl, ?_⟩) | (refine ⟨trivial, ?_⟩) | (refine Wk.yes ?_) | (refine Wk.no ?_) | (refine Wk.and ?_) | (refine ⟨by exact ⟨shr_nonneg _ _, by decide⟩, ?_⟩) | (refine ⟨by exact ⟨shr_nonneg' _ _, by decide⟩, ?_⟩)); (conv => whnf)))
                exact AH.Fin.nil [] ⟨by rw [htr, hsc]; rfl, rfl, rfl⟩ (by first | exact trivial | (simp [tupA, hpLt, tmLt, AV.lt, AE.lt, AC.lt, LL_cons, LL_nil, idOk, ABlk.lt, ints_LL, GB, tab64_LL, gC, wB, giC, noneB, gst]; done) | (simp [tupA, hpLt, tmLt, AV.lt, AE.lt, AC.lt, LL_cons, LL_nil, idOk, ABlk.lt, ints_LL, GB, tab64_LL, gC, wB, giC, noneB, gst, rdn, wrn]; done)) trivial trivial rfl (by simp [GB])
              · rw [if_pos hc] at hsc
                (conv => whnf); (repeat ((first | (refine ⟨rfl, ?_⟩) | (refine ⟨trivial, ?_⟩) | (refine Wk.yes ?_) | (refine Wk.no ?_) | (refine Wk.and ?_) | (refine ⟨by exact ⟨shr_nonneg _ _, by decide⟩, ?_⟩) | (refine ⟨by exact ⟨shr_nonneg' _ _, by decide⟩, ?_⟩)); (conv => whnf)))
                refine Again.mk ((k + 1, f)) (Sub.nil ⟨rfl, rfl, (by simp [tab64_LL, gC, wB, giC, noneB, gst]), rfl, (by simp [tupA, hpLt, tmLt, AV.lt, AE.lt, AC.lt, LL_cons, LL_nil, idOk, ABlk.lt, ints_LL, GB, tab64_LL, gC, wB, giC, noneB, gst]), (by simp [tupA, hpLt, tmLt, AV.lt, AE.lt, AC.lt, LL_cons, LL_nil, idOk, ABlk.lt, ints_LL, GB, tab64_LL, gC, wB, giC, noneB, gst])⟩ (by (repeat (first | exact trivial | refine ⟨trivial, ?_⟩ | refine ⟨rfl, ?_⟩))) (by (repeat (first | exact trivial | refine ⟨trivial, ?_⟩ | refine ⟨rfl, ?_⟩)))) (⟨by omega, by rw [hsc, hm2]⟩) (by omega)
        · have hkn : k = g.n := by omega
          rw [hkn, Nat.sub_self] at hsc
          have p1 := pop_le set hs
          have p2 := pop_le pl hp
          (conv => whnf); (repeat ((first | (refine ⟨rfl, ?_⟩) | (refine ⟨trivial, ?_⟩) | (refine Wk.yes ?_) | (refine Wk.no ?_) | (refine Wk.and ?_) | (refine ⟨by exact ⟨shr_nonneg _ _, by decide⟩, ?_⟩) | (refine ⟨by exact ⟨shr_nonneg' _ _, by decide⟩, ?_⟩)); (conv => whnf)))
          refine CallA.ro [] (.c (.int .i64 (pop set))) (size_spec hs) (by first | rfl | exact congrArg AV.g (ints_ren _ _) | (simp [ints_ren, AV.ren, ABlk.ren, AC.ren, AE.ren, qq]; done)) rfl (by (repeat (first | exact trivial | refine ⟨⟨(by first | exact .inl (by decide) | exact .inr (by decide)), (by first | (refine Or.inl ?_; first | rfl | exact congrArg some (ints_ren _ _).symm | exact congrArg ABlk.own (ints_ren _ _).symm | exact congrArg some (tab64_ren _).symm) | rfl | exact congrArg some (ints_ren _ _).symm | exact congrArg ABlk.own (ints_ren _ _).symm | exact congrArg some (tab64_ren _).symm | exact Or.inr ⟨rfl, rfl⟩)⟩, ?_⟩))) (by first | rfl | exact congrArg AV.g (ints_ren _ _) | (simp [ints_ren, AV.ren, ABlk.ren, AC.ren, AE.ren, qq]; done)) ?_
          (conv => whnf); (repeat ((first | (refine ⟨rfl, ?_⟩) | (refine ⟨trivial, ?_⟩) | (refine Wk.yes ?_) | (refine Wk.no ?_) | (refine Wk.and ?_) | (refine ⟨by exact ⟨shr_nonneg _ _, by decide⟩, ?_⟩) | (refine ⟨by exact ⟨shr_nonneg' _ _, by decide⟩, ?_⟩)); (conv => whnf)))
          refine CallA.ro [] (.c (.int .i64 (pop pl))) (size_spec hp) (by first | rfl | exact congrArg AV.g (ints_ren _ _) | (simp [ints_ren, AV.ren, ABlk.ren, AC.ren, AE.ren, qq]; done)) rfl (by (repeat (first | exact trivial | refine ⟨⟨(by first | exact .inl (by decide) | exact .inr (by decide)), (by first | (refine Or.inl ?_; first | rfl | exact congrArg some (ints_ren _ _).symm | exact congrArg ABlk.own (ints_ren _ _).symm | exact congrArg some (tab64_ren _).symm) | rfl | exact congrArg some (ints_ren _ _).symm | exact congrArg ABlk.own (ints_ren _ _).symm | exact congrArg some (tab64_ren _).symm | exact Or.inr ⟨rfl, rfl⟩)⟩, ?_⟩))) (by first | rfl | exact congrArg AV.g (ints_ren _ _) | (simp [ints_ren, AV.ren, ABlk.ren, AC.ren, AE.ren, qq]; done)) ?_
          (conv => whnf); (repeat ((first | (refine ⟨rfl, ?_⟩) | (refine ⟨trivial, ?_⟩) | (refine Wk.yes ?_) | (refine Wk.no ?_) | (refine Wk.and ?_) | (refine ⟨by exact ⟨shr_nonneg _ _, by decide⟩, ?_⟩) | (refine ⟨by exact ⟨shr_nonneg' _ _, by decide⟩, ?_⟩)); (conv => whnf)))
          exact AH.Fin.nil [] ⟨by rw [htr, hsc]; rfl, rfl, rfl⟩ (by first | exact trivial | (simp [tupA, hpLt, tmLt, AV.lt, AE.lt, AC.lt, LL_cons, LL_nil, idOk, ABlk.lt, ints_LL, GB, tab64_LL, gC, wB, giC, noneB, gst]; done) | (simp [tupA, hpLt, tmLt, AV.lt, AE.lt, AC.lt, LL_cons, LL_nil, idOk, ABlk.lt, ints_LL, GB, tab64_LL, gC, wB, giC, noneB, gst, rdn, wrn]; done)) trivial trivial rfl (by simp [GB])
end Go.Proofs.YtfphkpdobbffeaaDoor

/-
  Contracts: the number of trees, by the reference.
-/
namespace Go.Proofs.YtfphkpdobbffeaaDoor
open Go Go.AH
set_option maxRecDepth 100000
set_option maxHeartbeats 1000000

end Go.Proofs.YtfphkpdobbffeaaDoor

/-
  Contracts: turns, and whether kept wires join the ends.
-/
namespace Go.Proofs.YtfphkpdobbffeaaDoor
open Go Go.AH
set_option maxRecDepth 100000
set_option maxHeartbeats 1000000

def tC (f k : Nat) (c : Bool) : List AC := [.int .i64 f, .int .i64 k, .bool c]
def offN (f w : Nat) : Nat := f ^^^ (f &&& 2 ^ w)
theorem after_spec {f k w : Nat} (c : Bool) (hf : f < 1024) (hk : k < 1024) (hw : w < 10) : FDet Tryd.prog 101 [.g (tC f k c), .c (.int .i64 w)] [] 0 (.g (tC (offN f w) (if c then k else k ||| 2 ^ w) (!c))) [] 0 := by
  obtain ⟨p, hp⟩ : ∃ p, p = 2 ^ w := ⟨_, rfl⟩
  have hp2 : p < 2048 := by rw [hp]; exact pow_small (by omega)
  refine FSpec.of_body tok true Tryd.func101 rfl (by kernel_rfl) (by decide) (by simp [tupA, hpLt, tmLt, AV.lt, AE.lt, AC.lt, LL_cons, LL_nil, idOk, ABlk.lt, ints_LL, GB, tab64_LL, gC, wB, giC, noneB, gst, tC]) (by simp [tupA, hpLt, tmLt, AV.lt, AE.lt, AC.lt, LL_cons, LL_nil, idOk, ABlk.lt, ints_LL, GB, tab64_LL, gC, wB, giC, noneB, gst, tC]) (by show 2 ≤ _; decide) ?_
  refine Wk.on ?_
  rw [wrapU (by omega)]
  refine Wk.on ?_
  refine ⟨⟨by omega, by omega, by rw [shl1 hp]; unfold I64; omega⟩, ?_⟩
  rw [shl1 hp]
  refine Wk.on ?_
  simp only [Int.toNat_natCast]
  refine Wk.on ?_
  cases c with
  | false =>
    refine Wk.on ?_
    rw [wrapU (by omega)]
    refine Wk.on ?_
    refine ⟨⟨by omega, by omega, by rw [shl1 hp]; unfold I64; omega⟩, ?_⟩
    rw [shl1 hp]
    refine Wk.on ?_
    simp only [Int.toNat_natCast]
    refine Wk.on ?_
    exact AH.Fin.nil [] ⟨by rw [offN, ← hp]; rfl, rfl, rfl⟩ (by first | exact trivial | (simp [tupA, hpLt, tmLt, AV.lt, AE.lt, AC.lt, LL_cons, LL_nil, idOk, ABlk.lt, ints_LL, GB, tab64_LL, gC, wB, giC, noneB, gst, tC]; done) | (simp [tupA, hpLt, tmLt, AV.lt, AE.lt, AC.lt, LL_cons, LL_nil, idOk, ABlk.lt, ints_LL, GB, tab64_LL, gC, wB, giC, noneB, gst, tC, rdn, wrn]; done)) trivial trivial rfl (by simp [GB])
  | true =>
    refine Wk.on ?_
    exact AH.Fin.nil [] ⟨by rw [offN, ← hp]; rfl, rfl, rfl⟩ (by first | exact trivial | (simp [tupA, hpLt, tmLt, AV.lt, AE.lt, AC.lt, LL_cons, LL_nil, idOk, ABlk.lt, ints_LL, GB, tab64_LL, gC, wB, giC, noneB, gst, tC]; done) | (simp [tupA, hpLt, tmLt, AV.lt, AE.lt, AC.lt, LL_cons, LL_nil, idOk, ABlk.lt, ints_LL, GB, tab64_LL, gC, wB, giC, noneB, gst, tC, rdn, wrn]; done)) trivial trivial rfl (by simp [GB])
def joinedB (g : Gm) (n : Nat) : Bool := decide (root (keptL g n) g.s = root (keptL g n) g.t)
theorem joined_spec {g : Gm} (hg : g.ok) {n : Nat} (hn : n < 2 ^ g.ws.length) : FDet Tryd.prog 86 [.g (gC g 0), .c (.int .i64 n)] [(0, wB g), (100002, .ro tab64)] 1 (.c (.bool (joinedB g n))) [] 1 := by
  have hG : Grp (keptL g n) := Grp.fold hg (mem n) _ Grp.alone fun y hy => (mem_lt hg.len hn hy).2
  have hl8 : (ints (keptL g n)).length = 8 := by rw [ints_len]; exact hG.1
  have hs := hg.s
  have ht := hg.t
  have h8 := hg.n8
  refine FSpec.of_body tok true Tryd.func86 rfl (by kernel_rfl) (by decide) (by simp [tupA, hpLt, tmLt, AV.lt, AE.lt, AC.lt, LL_cons, LL_nil, idOk, ABlk.lt, ints_LL, GB, tab64_LL, gC, wB, giC, noneB, gst, tC]) (by simp [tupA, hpLt, tmLt, AV.lt, AE.lt, AC.lt, LL_cons, LL_nil, idOk, ABlk.lt, ints_LL, GB, tab64_LL, gC, wB, giC, noneB, gst, tC]) (by show 2 ≤ _; decide) ?_
  refine Wk.on ?_
  refine CallA.ro [0] (.g (ints (keptL g n))) (kept_spec hg hn) (by first | rfl | exact congrArg AV.g (ints_ren _ _) | (simp [ints_ren, AV.ren, ABlk.ren, AC.ren, AE.ren, qq]; done)) rfl (by (repeat (first | exact trivial | refine ⟨⟨(by first | exact .inl (by decide) | exact .inr (by decide)), (by first | (refine Or.inl ?_; first | rfl | exact congrArg some (ints_ren _ _).symm | exact congrArg ABlk.own (ints_ren _ _).symm | exact congrArg some (tab64_ren _).symm) | rfl | exact congrArg some (ints_ren _ _).symm | exact congrArg ABlk.own (ints_ren _ _).symm | exact congrArg some (tab64_ren _).symm | exact Or.inr ⟨rfl, rfl⟩)⟩, ?_⟩))) (by first | rfl | exact congrArg AV.g (ints_ren _ _) | (simp [ints_ren, AV.ren, ABlk.ren, AC.ren, AE.ren, qq]; done)) ?_
  refine Wk.on ?_
  refine Tr.draw (md := true) [⟨[], [12, 13], [], [], []⟩, ⟨[0], [12, 13], [], [], []⟩, ⟨[0, 1], [12, 13], [], [], []⟩, ⟨[], [9, 10, 11], [0, 1, 2], [], []⟩, ⟨[3], [9, 10, 11], [0, 1, 2], [], []⟩] tok (by kernel_rfl) (by kernel_rfl) ?_
  refine Wk.on ?_
  refine CallQ.ro [2] (.c (.int .i64 (root (keptL g n) g.s))) (first_spec (x := g.s) hG (by omega)) (by first | rfl | exact congrArg AV.g (ints_ren _ _) | (simp [ints_ren, AV.ren, ABlk.ren, AC.ren, AE.ren, qq]; done)) rfl (by (repeat (first | exact trivial | refine ⟨⟨(by first | exact .inl (by decide) | exact .inr (by decide)), (by first | (refine Or.inl ?_; first | rfl | exact congrArg some (ints_ren _ _).symm | exact congrArg ABlk.own (ints_ren _ _).symm | exact congrArg some (tab64_ren _).symm) | rfl | exact congrArg some (ints_ren _ _).symm | exact congrArg ABlk.own (ints_ren _ _).symm | exact congrArg some (tab64_ren _).symm | exact Or.inr ⟨rfl, rfl⟩)⟩, ?_⟩))) (by first | rfl | exact congrArg AV.g (ints_ren _ _) | (simp [ints_ren, AV.ren, ABlk.ren, AC.ren, AE.ren, qq]; done)) ?_
  refine Wk.on ?_
  refine CallA.ro [2] (.c (.int .i64 (root (keptL g n) g.t))) (first_spec (x := g.t) hG (by omega)) (by first | rfl | exact congrArg AV.g (ints_ren _ _) | (simp [ints_ren, AV.ren, ABlk.ren, AC.ren, AE.ren, qq]; done)) rfl (by (repeat (first | exact trivial | refine ⟨⟨(by first | exact .inl (by decide) | exact .inr (by decide)), (by first | (refine Or.inl ?_; first | rfl | exact congrArg some (ints_ren _ _).symm | exact congrArg ABlk.own (ints_ren _ _).symm | exact congrArg some (tab64_ren _).symm) | rfl | exact congrArg some (ints_ren _ _).symm | exact congrArg ABlk.own (ints_ren _ _).symm | exact congrArg some (tab64_ren _).symm | exact Or.inr ⟨rfl, rfl⟩)⟩, ?_⟩))) (by first | rfl | exact congrArg AV.g (ints_ren _ _) | (simp [ints_ren, AV.ren, ABlk.ren, AC.ren, AE.ren, qq]; done)) ?_
  refine Wk.on ?_
  exact AH.Fin.nil [] ⟨by show AV.c (.bool _) = AV.c (.bool _); congr 2; exact decide_eq_decide.2 (by omega), rfl, rfl⟩ (by first | exact trivial | (simp [tupA, hpLt, tmLt, AV.lt, AE.lt, AC.lt, LL_cons, LL_nil, idOk, ABlk.lt, ints_LL, GB, tab64_LL, gC, wB, giC, noneB, gst, tC]; done) | (simp [tupA, hpLt, tmLt, AV.lt, AE.lt, AC.lt, LL_cons, LL_nil, idOk, ABlk.lt, ints_LL, GB, tab64_LL, gC, wB, giC, noneB, gst, tC, rdn, wrn]; done)) trivial trivial rfl (by simp [GB])
theorem newP_spec {g : Gm} : FDet Tryd.prog 56 [.g (gC g 0)] [(0, wB g)] 1 (.c (.ptr 2 0)) [(2, .own (gC g 0 ++ [.map 1])), (1, .mp [])] 3 := by
  refine FSpec.of_body tok true Tryd.func56 rfl (by kernel_rfl) (by decide) (by simp [tupA, hpLt, tmLt, AV.lt, AE.lt, AC.lt, LL_cons, LL_nil, idOk, ABlk.lt, ints_LL, GB, tab64_LL, gC, wB, giC, noneB, gst, tC]) (by simp [tupA, hpLt, tmLt, AV.lt, AE.lt, AC.lt, LL_cons, LL_nil, idOk, ABlk.lt, ints_LL, GB, tab64_LL, gC, wB, giC, noneB, gst, tC]) (by show 1 ≤ _; decide) ?_
  refine Wk.on ?_
  exact AH.Fin.new [2, 3] _ _ ⟨rfl, rfl, rfl⟩ rfl ⟨rfl, rfl, trivial⟩ rfl (by simp [tupA, hpLt, tmLt, AV.lt, AE.lt, AC.lt, LL_cons, LL_nil, idOk, ABlk.lt, ints_LL, GB, tab64_LL, gC, wB, giC, noneB, gst, tC]) (by simp [tupA, hpLt, tmLt, AV.lt, AE.lt, AC.lt, LL_cons, LL_nil, idOk, ABlk.lt, ints_LL, GB, tab64_LL, gC, wB, giC, noneB, gst, tC])
end Go.Proofs.YtfphkpdobbffeaaDoor

/-
  The game: who wins, in plain Lean.
-/
namespace Go.Proofs.YtfphkpdobbffeaaDoor
open Go Go.AH
set_option maxRecDepth 100000
set_option maxHeartbeats 1000000

def winF (g : Gm) : Nat → Nat → Nat → Bool → Bool
  | 0, _, k, _ => joinedB g k
  | n + 1, f, k, c => if joinedB g k || decide (f = 0) || !joinedB g (k ||| f) then joinedB g k else
      ((mem f).any fun w => winF g n (offN f w.toNat) (if c then k else k ||| 2 ^ w.toNat) (!c) != c) != c
def W (g : Gm) (f k : Nat) (c : Bool) : Bool := winF g (pop f) f k c
theorem pop_pos : ∀ n, n < 1024 → 0 < n → 0 < pop n := by decide +kernel
theorem off_ok : ∀ n, n < 1024 → ∀ w ∈ memN n, pop (offN n w) = pop n - 1 ∧ offN n w < n := by decide +kernel
theorem off_mem {n : Nat} (hn : n < 1024) {w : Int} (hw : w ∈ mem n) : pop (offN n w.toNat) = pop n - 1 ∧ offN n w.toNat < n := by
  obtain ⟨i, hi, rfl⟩ := List.mem_map.1 hw
  exact off_ok n hn i hi
theorem any_congr {α : Type} {l : List α} {p q : α → Bool} (h : ∀ x ∈ l, p x = q x) : l.any p = l.any q := by
  rw [Bool.eq_iff_iff]
  simp only [List.any_eq_true]
  exact ⟨fun ⟨x, hx, hp⟩ => ⟨x, hx, by rw [← h x hx]; exact hp⟩, fun ⟨x, hx, hp⟩ => ⟨x, hx, by rw [h x hx]; exact hp⟩⟩
def goodW (g : Gm) (f k : Nat) (c : Bool) (w : Int) : Bool := W g (offN f w.toNat) (if c then k else k ||| 2 ^ w.toNat) (!c) != c
theorem W_step (g : Gm) {f : Nat} (hf : f < 1024) (k : Nat) (c : Bool) : W g f k c = if joinedB g k || decide (f = 0) || !joinedB g (k ||| f) then joinedB g k else ((mem f).any (goodW g f k c)) != c := by
  by_cases h0 : f = 0
  · subst h0
    have : pop 0 = 0 := by decide
    simp [W, this, winF]
  · have hp := pop_pos f hf (by omega)
    obtain ⟨m, hm⟩ : ∃ m, pop f = m + 1 := ⟨pop f - 1, by omega⟩
    rw [W, hm, winF]
    have : ((mem f).any fun w => winF g m (offN f w.toNat) (if c then k else k ||| 2 ^ w.toNat) (!c) != c) = (mem f).any (goodW g f k c) := by
      refine any_congr fun w hw => ?_
      have := (off_mem hf hw).1
      simp only [goodW, W]
      rw [this, hm]; rfl
    rw [this]
def goodO (g : Gm) (f k : Nat) (c : Bool) : Option Int := (mem f).find? (goodW g f k c)
theorem goodO_some (g : Gm) (f k : Nat) (c : Bool) : (goodO g f k c).isSome = (mem f).any (goodW g f k c) := by
  rw [Bool.eq_iff_iff]; simp [goodO, List.find?_isSome]

def MI (g : Gm) (m : List (List AC × AC)) : Prop := ∀ p ∈ m, ∃ f k c, f < 1024 ∧ k < 1024 ∧ p = (tC f k c, .bool (W g f k c))
theorem tC_ok {f k : Nat} {c : Bool} (hf : f < 1024) (hk : k < 1024) : okL (tC f k c) [.int .i64 0, .int .i64 0, .bool false] := ⟨ok1 (by omega) (by omega), ok1 (by omega) (by omega), trivial, trivial⟩
theorem tC_inj {f k f' k' : Nat} {c c' : Bool} (h : eqL (tC f k c) (tC f' k' c') = some true) : f = f' ∧ k = k' ∧ c = c' := by
  simp [tC, eqL, eqC] at h
  exact ⟨by omega, by omega, h.2.2⟩
theorem MI.ok {g : Gm} {m : List (List AC × AC)} (h : MI g m) {f k : Nat} {c : Bool} (hf : f < 1024) (hk : k < 1024) : mOk m (tC f k c) [.int .i64 0, .int .i64 0, .bool false] :=
  ⟨tC_ok hf hk, fun p hp => by obtain ⟨f', k', c', h1, h2, rfl⟩ := h p hp; exact tC_ok h1 h2⟩
theorem MI.get {g : Gm} {f k : Nat} {c : Bool} {v : AC} : ∀ {m : List (List AC × AC)}, MI g m → mget m (tC f k c) = some v → v = .bool (W g f k c)
  | [], _, h => by cases h
  | (ks, u) :: m, hm, h => by
    simp only [mget] at h
    split at h
    · rename_i he
      injection h with h
      obtain ⟨f', k', c', _, _, e⟩ := hm (ks, u) (by simp)
      injection e with e1 e2
      subst e1
      obtain ⟨rfl, rfl, rfl⟩ := tC_inj he
      rw [← h, e2]
    · exact MI.get (fun p hp => hm p (by simp [hp])) h
theorem MI.set {g : Gm} {f k : Nat} {c : Bool} (hf : f < 1024) (hk : k < 1024) : ∀ {m : List (List AC × AC)}, MI g m → MI g (mset m (tC f k c) (.bool (W g f k c)))
  | [], _ => fun p hp => by simp [mset] at hp; exact ⟨f, k, c, hf, hk, hp⟩
  | (ks, u) :: m, hm => by
    intro p hp
    simp only [mset] at hp
    split at hp
    · rename_i he
      rcases List.mem_cons.1 hp with e | e
      · obtain ⟨f', k', c', _, _, e'⟩ := hm (ks, u) (by simp)
        injection e' with e1 e2
        subst e1
        obtain ⟨rfl, rfl, rfl⟩ := tC_inj he
        exact ⟨f, k, c, hf, hk, e⟩
      · exact hm p (by simp [e])
    · rcases List.mem_cons.1 hp with e | e
      · exact e ▸ hm (ks, u) (by simp)
      · exact MI.set hf hk (fun p hp => hm p (by simp [hp])) p e
theorem MI.nil (g : Gm) : MI g [] ∧ primM [] := ⟨fun p hp => (List.not_mem_nil hp).elim, fun p hp => (List.not_mem_nil hp).elim⟩
end Go.Proofs.YtfphkpdobbffeaaDoor

/-
  Contracts: who wins, by the program.
-/
namespace Go.Proofs.YtfphkpdobbffeaaDoor
open Go Go.AH
set_option maxRecDepth 100000
set_option maxHeartbeats 1000000

def pC (g : Gm) (w m : Nat) : List AC := [.int .i64 g.n, .int .i64 g.s, .int .i64 g.t, .rs w 0 g.ws.length, .map m]
def ShortOk (g : Gm) (f : Nat) : Prop := ∀ k c, k < 2 ^ g.ws.length → FDet Tryd.prog 58 [.c (.ptr 1 0), .g (tC f k c)] [(0, wB g), (1, .ro (pC g 0 2)), (2, .mi (MI g)), (100002, .ro tab64)] 3 (.c (.bool (W g f k c))) [(2, .mi (MI g))] 3
def GoodOk (g : Gm) (f : Nat) : Prop := ∀ k c, k < 2 ^ g.ws.length → FDet Tryd.prog 83 [.c (.ptr 1 0), .g (tC f k c)] [(0, wB g), (1, .ro (pC g 0 2)), (2, .mi (MI g)), (100002, .ro tab64)] 3
  (.t [.c (.int .i64 ((goodO g f k c).getD 0)), .c (.bool (goodO g f k c).isSome)]) [(2, .mi (MI g))] 3

def ShortPost (g : Gm) (R : AV) (r : AV) (hq : List (Nat × ABlk)) (k : Nat) : Prop := r = R ∧ k = 3 ∧ (hq = [(2, .mi (MI g))] ∨ ∃ m, (MI g m ∧ primM m) ∧ hq = [(2, .mp m)])
theorem ShortPost.wk {g : Gm} {R : AV} (hR : ∀ hq, wkV hq R R) (hl : R.lt 3) : ∀ r hq k', ShortPost g R r hq k' → ∃ r2 hq2, (r2 = R ∧ hq2 = [(2, ABlk.mi (MI g))] ∧ k' = 3) ∧ wkV hq r r2 ∧ wkH hq hq2 ∧ r2.lt k' ∧ hpLt k' hq2 ∧ (hq2.map Prod.fst).Nodup := by
  rintro r hq k' ⟨rfl, rfl, h⟩
  refine ⟨_, _, ⟨rfl, rfl, rfl⟩, hR _, ?_, hl, ⟨.inl (by decide), trivial, trivial⟩, by simp⟩
  rcases h with rfl | ⟨m, hm, rfl⟩
  · exact ⟨rfl, trivial⟩
  · exact ⟨hm, trivial⟩

theorem short_of_good {g : Gm} (hg : g.ok) {f : Nat} (hf : f < 2 ^ g.ws.length) (hG : GoodOk g f) : ShortOk g f := by
  intro k c hk
  have hp : 2 ^ g.ws.length ≤ 1024 := Nat.pow_le_pow_right (by omega) hg.len
  have hkf : k ||| f < 2 ^ g.ws.length := or_lt hk hf
  have hstep := W_step g (f := f) (by omega) k c
  refine FSpec.mi 2 rfl (Go.Proofs.enters_of Tryd.func58 (by kernel_rfl) rfl) fun m hm hpm => ?_
  show FSpec _ _ _ [(0, wB g), (1, .ro (pC g 0 2)), (2, .mp m), (100002, .ro tab64)] _ _
  have hmk := hm.ok (f := f) (k := k) (c := c) (by omega) (by omega)
  refine FSpec.post (Post := ShortPost g (.c (.bool (W g f k c)))) ?_ (ShortPost.wk (fun _ => rfl) trivial)
  have fin : ∀ b : Bool, b = W g f k c → ShortPost g (.c (.bool (W g f k c))) (.c (.bool b)) [(2, .mp m)] 3 := fun b h => ⟨by rw [h], rfl, .inr ⟨m, ⟨hm, hpm⟩, rfl⟩⟩
  refine FSpec.of_body tok true Tryd.func58 rfl (by kernel_rfl) (by decide) (by simp [tupA, hpLt, tmLt, AV.lt, AE.lt, AC.lt, LL_cons, LL_nil, idOk, ABlk.lt, ints_LL, GB, tab64_LL, gC, wB, giC, noneB, gst, tC, pC]) ⟨.inl (by decide), (by simp [tupA, hpLt, tmLt, AV.lt, AE.lt, AC.lt, LL_cons, LL_nil, idOk, ABlk.lt, ints_LL, GB, tab64_LL, gC, wB, giC, noneB, gst, tC, pC]), .inl (by decide), (by simp [tupA, hpLt, tmLt, AV.lt, AE.lt, AC.lt, LL_cons, LL_nil, idOk, ABlk.lt, ints_LL, GB, tab64_LL, gC, wB, giC, noneB, gst, tC, pC]), .inl (by decide), prim_mp hpm 3, .inr (by decide), (by simp [tupA, hpLt, tmLt, AV.lt, AE.lt, AC.lt, LL_cons, LL_nil, idOk, ABlk.lt, ints_LL, GB, tab64_LL, gC, wB, giC, noneB, gst, tC, pC]), trivial⟩ (by show 2 ≤ _; decide) ?_
  refine Wk.on ?_
  refine Tr.draw (md := true) [⟨[], [14, 15, 16], [], [], []⟩, ⟨[0], [14, 15, 16], [], [], []⟩, ⟨[0, 1], [14, 15, 16], [], [], []⟩, ⟨[0, 1, 2], [14, 15, 16], [], [], []⟩, ⟨[], [10, 11, 12, 13], [0, 1, 2, 3], [], []⟩, ⟨[4], [10, 11, 12, 13], [0, 1, 2, 3], [], []⟩, ⟨[4, 5], [10, 11, 12, 13], [0, 1, 2, 3], [], []⟩, ⟨[0, 1, 2, 3, 4, 5, 6], [], [], [], []⟩, ⟨[0, 1, 2, 3, 4, 5, 6, 7], [], [], [], []⟩, ⟨[0, 1, 2, 3, 4, 5, 6, 7, 8], [], [], [], []⟩, ⟨[0, 1, 2, 3, 4, 5, 6, 7, 8, 9], [], [], [], []⟩, ⟨[0, 1, 2, 3, 4, 5, 6, 7, 8, 9, 10], [], [], [], []⟩, ⟨[0, 1, 2, 3, 4, 5, 6, 7, 8, 9, 10, 11], [], [], [], []⟩, ⟨[0, 1, 2, 3, 4, 5, 6, 7, 8, 9, 10, 11, 12], [], [], [], []⟩, ⟨[0, 1, 2, 3, 4, 5, 6, 7, 8, 9, 10, 11, 12, 13], [], [], [], []⟩, ⟨[0, 1, 2, 3, 4, 5, 6, 7, 8, 9, 10, 11, 12, 13, 14], [29, 30, 31, 32, 33, 34, 35], [], [], []⟩, ⟨[0, 1, 2, 3, 4, 5, 6, 7, 8, 9, 10, 11, 12, 13, 14, 15], [29, 30, 31, 32, 33, 34, 35], [], [], []⟩, ⟨[0, 1, 2, 3, 4, 5, 6, 7, 8, 9, 10, 11, 12, 13, 14, 15, 16], [29, 30, 31, 32, 33, 34, 35], [], [], []⟩, ⟨[0, 1, 2, 3, 4, 5, 6, 7, 8, 9, 10, 11, 12, 13, 14, 15, 16, 17], [29, 30, 31, 32, 33, 34, 35], [], [], []⟩, ⟨[0, 1, 2, 3, 4, 5, 6, 7, 8, 9, 10, 11, 12, 13, 14], [25, 26, 27, 28, 32, 33, 34], [15, 16, 17, 18], [], []⟩, ⟨[0, 1, 2, 3, 4, 5, 6, 7, 8, 9, 10, 11, 12, 13, 14, 19], [25, 26, 27, 28, 32, 33, 34], [15, 16, 17, 18], [], []⟩, ⟨[0, 1, 2, 3, 4, 5, 6, 7, 8, 9, 10, 11, 12, 13, 14, 19, 20], [25, 26, 27, 28, 32, 33, 34], [15, 16, 17, 18], [], []⟩, ⟨[0, 1, 2, 3, 4, 5, 6, 7, 8, 9, 10, 11, 12, 13, 14], [25, 26, 27, 28, 29, 30, 31], [15, 16, 17, 18, 19, 20, 21], [], []⟩, ⟨[0, 1, 2, 3, 4, 5, 6, 7, 8, 9, 10, 11, 12, 13, 14, 22], [25, 26, 27, 28, 29, 30, 31], [15, 16, 17, 18, 19, 20, 21], [], []⟩, ⟨[0, 1, 2, 3, 4, 5, 6, 7, 8, 9, 10, 11, 12, 13, 14, 22, 23], [25, 26, 27, 28, 29, 30, 31], [15, 16, 17, 18, 19, 20, 21], [], []⟩, ⟨[0, 1, 2, 3, 4, 5, 6, 7, 8, 9, 10, 11, 12, 13, 14, 19, 20, 21, 22, 23, 24], [25, 26, 27, 28], [15, 16, 17, 18], [], []⟩] tok (by kernel_rfl) (by kernel_rfl) ?_
  refine Wk.on ?_
  refine CallQ.ro [0] (.c (.bool (joinedB g k))) (joined_spec hg hk) (by first | rfl | exact congrArg AV.g (ints_ren _ _) | (simp [ints_ren, AV.ren, ABlk.ren, AC.ren, AE.ren, qq]; done)) rfl (by (repeat (first | exact trivial | refine ⟨⟨(by first | exact .inl (by decide) | exact .inr (by decide)), (by first | (refine Or.inl ?_; first | rfl | exact congrArg some (ints_ren _ _).symm | exact congrArg ABlk.own (ints_ren _ _).symm | exact congrArg some (tab64_ren _).symm | exact (mp_ren hpm _).symm) | rfl | exact congrArg some (ints_ren _ _).symm | exact congrArg ABlk.own (ints_ren _ _).symm | exact congrArg some (tab64_ren _).symm | exact (mp_ren hpm _).symm | exact Or.inr ⟨rfl, rfl⟩)⟩, ?_⟩))) (by first | rfl | exact congrArg AV.g (ints_ren _ _) | (simp [ints_ren, AV.ren, ABlk.ren, AC.ren, AE.ren, qq]; done)) ?_
  refine Wk.on ?_
  refine ⟨fun hc => ?_, fun hc => ?_⟩ <;> (try simp only [decide_eq_true_eq, decide_eq_false_iff_not, Decidable.not_not, Bool.not_true, Bool.not_false, ne_eq, cond_true, cond_false, Bool.not_eq_true', Bool.not_eq_false'] at hc)
  rotate_left
  · refine Wk.on ?_
    refine Tr.draw (md := true) [⟨[], [43, 44, 45], [], [], []⟩, ⟨[0], [43, 44, 45], [], [], []⟩, ⟨[0, 1], [43, 44, 45], [], [], []⟩, ⟨[0, 1, 2], [43, 44, 45], [], [], []⟩, ⟨[], [39, 40, 41, 42], [0, 1, 2, 3], [], []⟩, ⟨[4], [39, 40, 41, 42], [0, 1, 2, 3], [], []⟩, ⟨[4, 5], [39, 40, 41, 42], [0, 1, 2, 3], [], []⟩] tok (by kernel_rfl) (by kernel_rfl) ?_
    refine Wk.on ?_
    refine CallA.ro [0] (.c (.bool (joinedB g k))) (joined_spec hg hk) (by first | rfl | exact congrArg AV.g (ints_ren _ _) | (simp [ints_ren, AV.ren, ABlk.ren, AC.ren, AE.ren, qq]; done)) rfl (by (repeat (first | exact trivial | refine ⟨⟨(by first | exact .inl (by decide) | exact .inr (by decide)), (by first | (refine Or.inl ?_; first | rfl | exact congrArg some (ints_ren _ _).symm | exact congrArg ABlk.own (ints_ren _ _).symm | exact congrArg some (tab64_ren _).symm | exact (mp_ren hpm _).symm) | rfl | exact congrArg some (ints_ren _ _).symm | exact congrArg ABlk.own (ints_ren _ _).symm | exact congrArg some (tab64_ren _).symm | exact (mp_ren hpm _).symm | exact Or.inr ⟨rfl, rfl⟩)⟩, ?_⟩))) (by first | rfl | exact congrArg AV.g (ints_ren _ _) | (simp [ints_ren, AV.ren, ABlk.ren, AC.ren, AE.ren, qq]; done)) ?_
    refine Wk.on ?_
    exact AH.Fin.nil [(2, .mp m)] (fin _ (by rw [hstep, hc]; rfl)) trivial ⟨rfl, trivial⟩ ⟨.inl (Nat.le_of_ble_eq_true rfl), prim_mp hpm 3, trivial⟩ rfl (by simp [GB])
  have hj := hc
  refine Wk.on ?_
  refine ⟨fun hc => ?_, fun hc => ?_⟩ <;> (try simp only [decide_eq_true_eq, decide_eq_false_iff_not, Decidable.not_not, Bool.not_true, Bool.not_false, ne_eq, cond_true, cond_false, Bool.not_eq_true', Bool.not_eq_false'] at hc)
  rotate_left
  · refine Wk.on ?_
    refine Tr.draw (md := true) [⟨[], [43, 44, 45], [], [], []⟩, ⟨[0], [43, 44, 45], [], [], []⟩, ⟨[0, 1], [43, 44, 45], [], [], []⟩, ⟨[0, 1, 2], [43, 44, 45], [], [], []⟩, ⟨[], [39, 40, 41, 42], [0, 1, 2, 3], [], []⟩, ⟨[4], [39, 40, 41, 42], [0, 1, 2, 3], [], []⟩, ⟨[4, 5], [39, 40, 41, 42], [0, 1, 2, 3], [], []⟩] tok (by kernel_rfl) (by kernel_rfl) ?_
    refine Wk.on ?_
    refine CallA.ro [0] (.c (.bool (joinedB g k))) (joined_spec hg hk) (by first | rfl | exact congrArg AV.g (ints_ren _ _) | (simp [ints_ren, AV.ren, ABlk.ren, AC.ren, AE.ren, qq]; done)) rfl (by (repeat (first | exact trivial | refine ⟨⟨(by first | exact .inl (by decide) | exact .inr (by decide)), (by first | (refine Or.inl ?_; first | rfl | exact congrArg some (ints_ren _ _).symm | exact congrArg ABlk.own (ints_ren _ _).symm | exact congrArg some (tab64_ren _).symm | exact (mp_ren hpm _).symm) | rfl | exact congrArg some (ints_ren _ _).symm | exact congrArg ABlk.own (ints_ren _ _).symm | exact congrArg some (tab64_ren _).symm | exact (mp_ren hpm _).symm | exact Or.inr ⟨rfl, rfl⟩)⟩, ?_⟩))) (by first | rfl | exact congrArg AV.g (ints_ren _ _) | (simp [ints_ren, AV.ren, ABlk.ren, AC.ren, AE.ren, qq]; done)) ?_
    refine Wk.on ?_
    exact AH.Fin.nil [(2, .mp m)] (fin _ (by rw [hstep, decide_eq_true (show f = 0 by omega)]; simp)) trivial ⟨rfl, trivial⟩ ⟨.inl (Nat.le_of_ble_eq_true rfl), prim_mp hpm 3, trivial⟩ rfl (by simp [GB])
  have hf0 := hc
  refine Wk.on ?_
  simp only [Int.toNat_natCast]
  refine CallA.ro [0] (.c (.bool (joinedB g (k ||| f)))) (joined_spec hg hkf) (by first | rfl | exact congrArg AV.g (ints_ren _ _) | (simp [ints_ren, AV.ren, ABlk.ren, AC.ren, AE.ren, qq]; done)) rfl (by (repeat (first | exact trivial | refine ⟨⟨(by first | exact .inl (by decide) | exact .inr (by decide)), (by first | (refine Or.inl ?_; first | rfl | exact congrArg some (ints_ren _ _).symm | exact congrArg ABlk.own (ints_ren _ _).symm | exact congrArg some (tab64_ren _).symm | exact (mp_ren hpm _).symm) | rfl | exact congrArg some (ints_ren _ _).symm | exact congrArg ABlk.own (ints_ren _ _).symm | exact congrArg some (tab64_ren _).symm | exact (mp_ren hpm _).symm | exact Or.inr ⟨rfl, rfl⟩)⟩, ?_⟩))) (by first | rfl | exact congrArg AV.g (ints_ren _ _) | (simp [ints_ren, AV.ren, ABlk.ren, AC.ren, AE.ren, qq]; done)) ?_
  refine Wk.on ?_
  refine ⟨fun hc => ?_, fun hc => ?_⟩ <;> (try simp only [decide_eq_true_eq, decide_eq_false_iff_not, Decidable.not_not, Bool.not_true, Bool.not_false, ne_eq, cond_true, cond_false, Bool.not_eq_true', Bool.not_eq_false'] at hc)
  · refine Wk.on ?_
    refine Tr.draw (md := true) [⟨[], [43, 44, 45], [], [], []⟩, ⟨[0], [43, 44, 45], [], [], []⟩, ⟨[0, 1], [43, 44, 45], [], [], []⟩, ⟨[0, 1, 2], [43, 44, 45], [], [], []⟩, ⟨[], [39, 40, 41, 42], [0, 1, 2, 3], [], []⟩, ⟨[4], [39, 40, 41, 42], [0, 1, 2, 3], [], []⟩, ⟨[4, 5], [39, 40, 41, 42], [0, 1, 2, 3], [], []⟩] tok (by kernel_rfl) (by kernel_rfl) ?_
    refine Wk.on ?_
    refine CallA.ro [0] (.c (.bool (joinedB g k))) (joined_spec hg hk) (by first | rfl | exact congrArg AV.g (ints_ren _ _) | (simp [ints_ren, AV.ren, ABlk.ren, AC.ren, AE.ren, qq]; done)) rfl (by (repeat (first | exact trivial | refine ⟨⟨(by first | exact .inl (by decide) | exact .inr (by decide)), (by first | (refine Or.inl ?_; first | rfl | exact congrArg some (ints_ren _ _).symm | exact congrArg ABlk.own (ints_ren _ _).symm | exact congrArg some (tab64_ren _).symm | exact (mp_ren hpm _).symm) | rfl | exact congrArg some (ints_ren _ _).symm | exact congrArg ABlk.own (ints_ren _ _).symm | exact congrArg some (tab64_ren _).symm | exact (mp_ren hpm _).symm | exact Or.inr ⟨rfl, rfl⟩)⟩, ?_⟩))) (by first | rfl | exact congrArg AV.g (ints_ren _ _) | (simp [ints_ren, AV.ren, ABlk.ren, AC.ren, AE.ren, qq]; done)) ?_
    refine Wk.on ?_
    exact AH.Fin.nil [(2, .mp m)] (fin _ (by rw [hstep, hc]; simp)) trivial ⟨rfl, trivial⟩ ⟨.inl (Nat.le_of_ble_eq_true rfl), prim_mp hpm 3, trivial⟩ rfl (by simp [GB])
  have hj2 := hc
  refine Wk.on ?_
  refine Tr.draw (md := true) [⟨[], [52], [], [], []⟩, ⟨[0], [52], [], [], []⟩, ⟨[0, 1], [52], [], [], []⟩, ⟨[0, 1, 2], [52], [], [], []⟩, ⟨[], [48, 49, 50, 51], [0, 1, 2, 3], [], []⟩, ⟨[0, 1, 2, 3, 4], [], [], [], []⟩, ⟨[0, 1, 2, 3, 4, 5], [], [], [], []⟩, ⟨[0, 1, 2, 3, 4, 5, 6], [55], [], [], []⟩, ⟨[0, 1, 2, 3, 4, 5, 6], [5, 54], [7], [], []⟩, ⟨[0, 1, 2, 3, 4, 5, 6, 7], [55], [8], [], []⟩] tok (by kernel_rfl) (by kernel_rfl) ?_
  refine Wk.on ?_
  refine ⟨⟨rfl, hmk⟩, ?_⟩
  refine Wk.on ?_
  have hkk : rdn (tC f k c) 0 [.int .i64 0, .int .i64 0, .bool false] = tC f k c := rfl
  rw [hkk]
  cases hq : mget m (tC f k c) with
  | some v =>
    have hv := MI.get hm hq
    subst hv
    refine Wk.on ?_
    refine ⟨fun _ => ?_, fun h => (by cases h)⟩
    refine Wk.on ?_
    exact AH.Fin.nil [(2, .mp m)] (fin _ rfl) trivial ⟨rfl, trivial⟩ ⟨.inl (Nat.le_of_ble_eq_true rfl), prim_mp hpm 3, trivial⟩ rfl (by simp [GB])
  | none =>
    have hW : ((goodO g f k c).isSome != c) = W g f k c := by
      rw [hstep, if_neg (by simp [hj, hj2]; omega), goodO_some]
    refine Wk.on ?_
    refine CallA.det [0, 1, 2] (.t [.c (.int .i64 ((goodO g f k c).getD 0)), .c (.bool (goodO g f k c).isSome)]) ([(3, .own (tC f k c)), (0, wB g), (1, .ro (pC g 0 2)), (100002, .ro tab64), (2, .mi (MI g))]) (FDet.wk (hG k c hk) (args' := [.c (.ptr 1 0), .g (tC f k c)]) (hp' := [(0, wB g), (1, .ro (pC g 0 2)), (2, .mp m), (100002, .ro tab64)]) ⟨rfl, .inl rfl, trivial⟩ ⟨.inl rfl, .inl rfl, ⟨hm, hpm⟩, .inl rfl, trivial⟩) (by first | rfl | exact congrArg AV.g (ints_ren _ _) | (simp [ints_ren, AV.ren, ABlk.ren, AC.ren, AE.ren, qq]; done)) rfl (by (repeat (first | exact trivial | refine ⟨⟨(by first | exact .inl (by decide) | exact .inr (by decide)), (by first | (refine Or.inl ?_; first | rfl | exact congrArg some (ints_ren _ _).symm | exact congrArg ABlk.own (ints_ren _ _).symm | exact congrArg some (tab64_ren _).symm | exact (mp_ren hpm _).symm) | rfl | exact congrArg some (ints_ren _ _).symm | exact congrArg ABlk.own (ints_ren _ _).symm | exact congrArg some (tab64_ren _).symm | exact (mp_ren hpm _).symm | exact Or.inr ⟨rfl, rfl⟩)⟩, ?_⟩))) (by first | rfl | exact congrArg AV.g (ints_ren _ _) | (simp [ints_ren, AV.ren, ABlk.ren, AC.ren, AE.ren, qq]; done)) (by first | rfl | (simp [behind, gone, lk, up, del, qq, ABlk.wr, GB, ints_ren, AV.ren, ABlk.ren, AC.ren, AE.ren]; done) | (simp [behind, gone, lk, up, del, qq, ABlk.wr, GB, ints_ren, AV.ren, ABlk.ren, AC.ren, AE.ren]; rfl)) ?_
    refine Wk.on ?_
    refine Tr.draw (md := true) [⟨[], [72, 73], [], [], []⟩, ⟨[0], [72, 73], [], [], []⟩, ⟨[0, 1], [72, 73], [], [], []⟩, ⟨[0, 1, 2], [72, 73], [], [], []⟩, ⟨[], [68, 69, 70, 71, 73], [0, 1, 2, 3], [], []⟩, ⟨[], [68, 69, 70, 71, 72], [0, 1, 2, 3, 4], [], []⟩] tok (by kernel_rfl) (by kernel_rfl) ?_
    refine Wk.on ?_
    rw [hW]
    refine ⟨⟨rfl, fun m2 hm2 => ⟨hm2.ok (by omega) (by omega), hm2.set (by omega) (by omega)⟩⟩, ?_⟩
    refine Wk.on ?_
    exact AH.Fin.nil [(2, .mi (MI g))] ⟨rfl, rfl, .inl rfl⟩ trivial ⟨rfl, trivial⟩ ⟨.inl (Nat.le_of_ble_eq_true rfl), trivial, trivial⟩ rfl (by simp [GB])

theorem mem_memN {f : Nat} {x : Int} (h : x ∈ mem f) : ∃ w ∈ memN f, x = (w : Int) ∧ w < 10 := by
  obtain ⟨w, hw, rfl⟩ := List.mem_map.1 h
  refine ⟨w, hw, rfl, ?_⟩
  have := (List.mem_filter.1 hw).1
  simpa using this
theorem good_of_short {g : Gm} (hg : g.ok) {f : Nat} (hf : f < 2 ^ g.ws.length) (hS : ∀ f', f' < f → ShortOk g f') : GoodOk g f := by
  intro k c hk
  have hp : 2 ^ g.ws.length ≤ 1024 := Nat.pow_le_pow_right (by omega) hg.len
  refine FSpec.of_body tok true Tryd.func83 rfl (by kernel_rfl) (by decide) (by simp [tupA, hpLt, tmLt, AV.lt, AE.lt, AC.lt, LL_cons, LL_nil, idOk, ABlk.lt, ints_LL, GB, tab64_LL, gC, wB, giC, noneB, gst, tC, pC]) (by simp [tupA, hpLt, tmLt, AV.lt, AE.lt, AC.lt, LL_cons, LL_nil, idOk, ABlk.lt, ints_LL, GB, tab64_LL, gC, wB, giC, noneB, gst, tC, pC]) (by show 2 ≤ _; decide) ?_
  refine Wk.on ?_
  refine CallA.det [] (.c (.fn 98 [] [7])) ([(6, .own [.bool false]), (5, .own [.int .i64 0]), (4, .own (tC f k c)), (3, .own [.ptr 1 0]), (0, wB g), (1, .ro (pC g 0 2)), (2, .mi (MI g)), (100002, .ro tab64), (7, .own [.int .i64 f])]) (members_spec f) (by first | rfl | exact congrArg AV.g (ints_ren _ _) | (simp [ints_ren, AV.ren, ABlk.ren, AC.ren, AE.ren, qq]; done)) rfl (by (repeat (first | exact trivial | refine ⟨⟨(by first | exact .inl (by decide) | exact .inr (by decide)), (by first | (refine Or.inl ?_; first | rfl | exact congrArg some (ints_ren _ _).symm | exact congrArg ABlk.own (ints_ren _ _).symm | exact congrArg some (tab64_ren _).symm | exact (mp_ren hpm _).symm) | rfl | exact congrArg some (ints_ren _ _).symm | exact congrArg ABlk.own (ints_ren _ _).symm | exact congrArg some (tab64_ren _).symm | exact (mp_ren hpm _).symm | exact Or.inr ⟨rfl, rfl⟩)⟩, ?_⟩))) (by first | rfl | exact congrArg AV.g (ints_ren _ _) | (simp [ints_ren, AV.ren, ABlk.ren, AC.ren, AE.ren, qq]; done)) (by first | rfl | (simp [behind, gone, lk, up, del, qq, ABlk.wr, GB, ints_ren, AV.ren, ABlk.ren, AC.ren, AE.ren]; done) | (simp [behind, gone, lk, up, del, qq, ABlk.wr, GB, ints_ren, AV.ren, ABlk.ren, AC.ren, AE.ren]; rfl)) ?_
  refine Wk.on ?_
  refine Tr.range (md := true) tok rfl (mem f) ([(7, .ro [.int .i64 f]), (100002, .ro tab64)]) (members1_iter (by omega) 7 (by decide)) (by (repeat (first | exact trivial | refine ⟨trivial, ?_⟩ | refine ⟨rfl, ?_⟩))) rfl (fun pre => [(7, .ro [.int .i64 f]), (6, .own [.bool false]), (5, .own [.int .i64 0]), (4, .own (tC f k c)), (3, .own [.ptr 1 0]), (0, wB g), (1, .ro (pC g 0 2)), (2, .mi (MI g)), (100002, .ro tab64)]) (fun pre => ∀ y ∈ pre, goodW g f k c y = false) (8) (by decide) (by first | trivial | rfl | decide | simp) (by (repeat (first | exact trivial | refine ⟨trivial, ?_⟩ | refine ⟨rfl, ?_⟩))) (fun pre hpre => (by simp [tupA, hpLt, tmLt, AV.lt, AE.lt, AC.lt, LL_cons, LL_nil, idOk, ABlk.lt, ints_LL, GB, tab64_LL, gC, wB, giC, noneB, gst, tC, pC])) (fun pre hpre => ⟨(by (repeat (first | exact trivial | refine ⟨trivial, ?_⟩ | refine ⟨rfl, ?_⟩))), (by (repeat (first | exact trivial | refine ⟨trivial, ?_⟩ | refine ⟨rfl, ?_⟩)))⟩) rfl rfl (by decide) ?_ ?_
  · intro pre x hpre hinv hx hl
    obtain ⟨x0, x1⟩ := mem_lt hg.len hf hx
    obtain ⟨w, hw, hxw, hw10⟩ := mem_memN hx
    have hoff := off_mem (n := f) (by omega) hx
    subst hxw
    rw [Int.toNat_natCast] at hoff x1
    obtain ⟨k2, hk2⟩ : ∃ k2, k2 = if c = true then k else k ||| 2 ^ w := ⟨_, rfl⟩
    have hk2' : k2 < 2 ^ g.ws.length := by
      rw [hk2]
      split
      · exact hk
      · exact or_lt hk ((Nat.pow_lt_pow_iff_right (by omega)).2 x1)
    have hgw : goodW g f k c w = (W g (offN f w) k2 (!c) != c) := by rw [goodW, Int.toNat_natCast, ← hk2]
    have next : goodW g f k c w = false → ∀ y ∈ pre ++ [(w : Int)], goodW g f k c y = false := fun h y hy => by
      rcases List.mem_append.1 hy with hy | hy
      · exact hinv y hy
      · simp at hy; exact hy ▸ h
    refine Wk.on ?_
    refine Tr.draw (md := true) [⟨[], [15, 16, 17, 19, 20], [], [], []⟩, ⟨[], [14, 16, 19, 20], [0], [], []⟩, ⟨[], [14, 15, 19, 20], [0, 1], [], []⟩, ⟨[1, 2], [14, 19, 20], [0], [], []⟩, ⟨[0, 1, 2, 3], [19, 20], [], [], []⟩, ⟨[], [14, 15, 16, 17, 18], [0, 1, 2, 3, 4], [], []⟩, ⟨[5], [14, 15, 16, 17, 18], [0, 1, 2, 3, 4], [], []⟩] tok (by kernel_rfl) (by kernel_rfl) ?_
    refine Wk.on ?_
    refine CallQ.ro [] (.g (tC (offN f w) (if c then k else k ||| 2 ^ w) (!c))) (after_spec (f := f) (k := k) (w := w) c (by omega) (by omega) hw10) (by first | rfl | exact congrArg AV.g (ints_ren _ _) | (simp [ints_ren, AV.ren, ABlk.ren, AC.ren, AE.ren, qq]; done)) rfl (by (repeat (first | exact trivial | refine ⟨⟨(by first | exact .inl (by decide) | exact .inr (by decide)), (by first | (refine Or.inl ?_; first | rfl | exact congrArg some (ints_ren _ _).symm | exact congrArg ABlk.own (ints_ren _ _).symm | exact congrArg some (tab64_ren _).symm | exact (mp_ren hpm _).symm) | rfl | exact congrArg some (ints_ren _ _).symm | exact congrArg ABlk.own (ints_ren _ _).symm | exact congrArg some (tab64_ren _).symm | exact (mp_ren hpm _).symm | exact Or.inr ⟨rfl, rfl⟩)⟩, ?_⟩))) (by first | rfl | exact congrArg AV.g (ints_ren _ _) | (simp [ints_ren, AV.ren, ABlk.ren, AC.ren, AE.ren, qq]; done)) ?_
    refine Wk.on ?_
    rw [← hk2]
    refine CallQ.keep [0, 1, 2] (.c (.bool (W g (offN f w) k2 (!c)))) (hS _ hoff.2 k2 (!c) hk2') (by first | rfl | exact congrArg AV.g (ints_ren _ _) | (simp [ints_ren, AV.ren, ABlk.ren, AC.ren, AE.ren, qq]; done)) rfl (by (repeat (first | exact trivial | refine ⟨trivial, ?_⟩ | refine ⟨rfl, ?_⟩))) (by (repeat (first | exact trivial | refine ⟨trivial, ?_⟩ | refine ⟨rfl, ?_⟩))) (by (repeat (first | exact trivial | refine ⟨⟨(by first | exact .inl (by decide) | exact .inr (by decide)), (by first | (refine Or.inl ?_; first | rfl | exact congrArg some (ints_ren _ _).symm | exact congrArg ABlk.own (ints_ren _ _).symm | exact congrArg some (tab64_ren _).symm | exact (mp_ren hpm _).symm) | rfl | exact congrArg some (ints_ren _ _).symm | exact congrArg ABlk.own (ints_ren _ _).symm | exact congrArg some (tab64_ren _).symm | exact (mp_ren hpm _).symm | exact Or.inr ⟨rfl, rfl⟩)⟩, ?_⟩))) (by first | rfl | exact congrArg AV.g (ints_ren _ _) | (simp [ints_ren, AV.ren, ABlk.ren, AC.ren, AE.ren, qq]; done)) ?_
    refine Wk.on ?_
    refine ⟨fun hc => ?_, fun hc => ?_⟩ <;> (try simp only [decide_eq_true_eq, decide_eq_false_iff_not, Decidable.not_not, Bool.not_true, Bool.not_false, ne_eq, cond_true, cond_false, Bool.not_eq_true', Bool.not_eq_false'] at hc)
    · refine Wk.on ?_
      intro hpfx
      have hgo : goodO g f k c = some (w : Int) := by
        obtain ⟨suf, hsuf⟩ := hpfx
        rw [goodO, ← hsuf, List.append_assoc, List.find?_append, List.find?_eq_none.2 (fun y hy => by rw [hinv y hy]; simp)]
        simp [hgw, hc]
      refine ⟨⟨rfl, trivial⟩, ?_⟩
      refine Wk.on ?_
      refine Tr.draw (md := true) [⟨[], [24], [], [], []⟩, ⟨[], [4, 23], [0], [], []⟩, ⟨[0], [24], [1], [], []⟩] tok (by kernel_rfl) (by kernel_rfl) ?_
      refine Wk.on ?_
      exact AH.Fin.nil [(2, .mi (MI g))] ⟨by rw [hgo]; rfl, rfl, rfl⟩ (by simp [tupA, hpLt, tmLt, AV.lt, AE.lt, AC.lt, LL_cons, LL_nil, idOk, ABlk.lt, ints_LL, GB, tab64_LL, gC, wB, giC, noneB, gst, tC, pC]) ⟨rfl, trivial⟩ ⟨.inl (Nat.le_of_ble_eq_true rfl), trivial, trivial⟩ rfl (by simp [GB])
    · exact ⟨(), next (by rw [hgw, hc]), RoundOk.nil (by (repeat (first | exact trivial | refine ⟨trivial, ?_⟩ | refine ⟨rfl, ?_⟩))) rfl⟩
  · intro hinv
    have hno : goodO g f k c = none := by
      rw [goodO, List.find?_eq_none]
      exact fun x hx => by rw [hinv x hx]; simp
    refine Wk.on ?_
    refine Tr.draw (md := true) [⟨[], [24], [], [], []⟩, ⟨[], [4, 23], [0], [], []⟩, ⟨[0], [24], [1], [], []⟩] tok (by kernel_rfl) (by kernel_rfl) ?_
    refine Wk.on ?_
    exact AH.Fin.nil [(2, .mi (MI g))] ⟨by rw [hno]; rfl, rfl, rfl⟩ (by simp [tupA, hpLt, tmLt, AV.lt, AE.lt, AC.lt, LL_cons, LL_nil, idOk, ABlk.lt, ints_LL, GB, tab64_LL, gC, wB, giC, noneB, gst, tC, pC]) ⟨rfl, trivial⟩ ⟨.inl (Nat.le_of_ble_eq_true rfl), trivial, trivial⟩ rfl (by simp [GB])
end Go.Proofs.YtfphkpdobbffeaaDoor
