/-
  Contract: the reference's IsBarrier.
-/
import Derived.Test.YtfphkpdobbffeaaDoorSw7
import Derived.Test.YtfphkpdobbffeaaDoorSw6
import Derived.Test.YtfphkpdobbffeaaDoorAh6
set_option linter.unusedSimpArgs false
set_option linter.unusedVariables false
namespace Go.Proofs.YtfphkpdobbffeaaDoor
open Go Go.AH
set_option maxRecDepth 100000
set_option maxHeartbeats 4000000

def runRE (n i : Nat) : List Int → Option Int → Nat → (Nat → Nat) → Option (Nat × (Nat → Nat))
  | [], _, c, u => some (c, u)
  | x :: r, q, c, u => if (x < 0 ∨ (n : Int) ≤ x ∨ 0 < u x.toNat) ∨ ∃ y, q = some y ∧ x ≤ y then none else runRE n i r (some x) (c + 1) (updW u x.toNat (i + 1))
def runRP (n : Nat) : List (List Int) → Nat → Option (List Int) → Nat → (Nat → Nat) → Option (Nat × (Nat → Nat))
  | [], _, _, c, u => some (c, u)
  | p :: r, i, q, c, u => if p = [] then none else match runRE n i p none c u with
    | none => none
    | some (c, u) => if ∃ x, q = some x ∧ p.getD 0 0 < x.getD 0 0 then none else runRP n r (i + 1) (some p) c u
def isBarR (g : Gm) (V : List (List Int)) : Bool := match runRP g.n V 0 none 0 w0 with
  | none => false
  | some (c, u) => decide (c = g.n) && decide (2 ≤ V.length) && decide ((crN u g.ws : Int) < 2 * ((V.length : Int) - 1))
theorem isBarR_none {g : Gm} {V : List (List Int)} (h : runRP g.n V 0 none 0 w0 = none) : isBarR g V = false := by unfold isBarR; rw [h]
theorem runRP_step {n : Nat} {V : List (List Int)} {i : Nat} (h : i < V.length) (c : Nat) (u : Nat → Nat) : runRP n (V.drop i) i (prevO V i) c u =
    if V.getD i [] = [] then none else match runRE n i (V.getD i []) none c u with
    | none => none
    | some (c, u) => if 0 < i ∧ (V.getD i []).getD 0 0 < (V.getD (i - 1) []).getD 0 0 then none else runRP n (V.drop (i + 1)) (i + 1) (prevO V (i + 1)) c u := by
  rw [List.drop_eq_getElem_cons h, runRP]
  have e : V.getD i [] = V[i] := by simp [List.getD_eq_getElem?_getD, h]
  rw [e]
  have c0 : (∃ x, prevO V i = some x ∧ V[i].getD 0 0 < x.getD 0 0) ↔ (0 < i ∧ V[i].getD 0 0 < (V.getD (i - 1) []).getD 0 0) := by
    unfold prevO
    constructor
    · rintro ⟨x, h1, h2⟩
      by_cases hi : i = 0
      · rw [if_pos hi] at h1; cases h1
      · rw [if_neg hi] at h1; injection h1 with h1; subst h1; exact ⟨by omega, h2⟩
    · rintro ⟨h1, h2⟩
      exact ⟨_, if_neg (by omega), h2⟩
  have c2 : prevO V (i + 1) = some V[i] := by unfold prevO; rw [if_neg (by omega)]; simp [List.getD_eq_getElem?_getD, h]
  rw [c2]
  split
  · rfl
  · split
    · rfl
    · rename_i c' u' _
      by_cases q : 0 < i ∧ V[i].getD 0 0 < (V.getD (i - 1) []).getD 0 0
      · rw [if_pos q, if_pos (c0.2 q)]
      · rw [if_neg q, if_neg fun x => q (c0.1 x)]
def prevE (p : List Int) (j : Nat) : Option Int := if j = 0 then none else some (p.getD (j - 1) 0)
theorem runRE_step {n i : Nat} {p : List Int} {j : Nat} (h : j < p.length) (c : Nat) (u : Nat → Nat) : runRE n i (p.drop j) (prevE p j) c u =
    if (p.getD j 0 < 0 ∨ (n : Int) ≤ p.getD j 0 ∨ 0 < u (p.getD j 0).toNat) ∨ (0 < j ∧ p.getD j 0 ≤ p.getD (j - 1) 0) then none else runRE n i (p.drop (j + 1)) (prevE p (j + 1)) (c + 1) (updW u (p.getD j 0).toNat (i + 1)) := by
  rw [List.drop_eq_getElem_cons h, runRE]
  have e : p.getD j 0 = p[j] := by simp [List.getD_eq_getElem?_getD, h]
  rw [e]
  have c0 : (∃ y, prevE p j = some y ∧ p[j] ≤ y) ↔ (0 < j ∧ p[j] ≤ p.getD (j - 1) 0) := by
    unfold prevE
    constructor
    · rintro ⟨x, h1, h2⟩
      by_cases hi : j = 0
      · rw [if_pos hi] at h1; cases h1
      · rw [if_neg hi] at h1; injection h1 with h1; subst h1; exact ⟨by omega, h2⟩
    · rintro ⟨h1, h2⟩
      exact ⟨_, if_neg (by omega), h2⟩
  have c2 : prevE p (j + 1) = some p[j] := by unfold prevE; rw [if_neg (by omega)]; simp [List.getD_eq_getElem?_getD, h]
  rw [c2]
  by_cases q : (p[j] < 0 ∨ (n : Int) ≤ p[j] ∨ 0 < u p[j].toNat) ∨ (0 < j ∧ p[j] ≤ p.getD (j - 1) 0)
  · rw [if_pos q, if_pos (q.imp id c0.2)]
  · rw [if_neg q, if_neg fun x => q (x.imp id c0.1)]
theorem tv_get (p : List Int) (j : Nat) : (RT.leaf 1 p.length p).cs.getD (j * 1) (.int .i64 0) = .int .i64 (p.getD j 0) := by
  rw [Nat.mul_one]; exact ints_getD p j 0
theorem isBarR_spec {g : Gm} (hg : g.ok) (V : List (List Int)) (hV : V.length ≤ 1000) (hVa : ∀ a ∈ V, a.length ≤ 1000) : FDet Tryd.prog 31 [.g (gC g 0), .c (.rs 1 0 V.length)] [(0, wB g), (1, .ro (tvC V))] 2 (.c (.bool (isBarR g V))) [] 2 := by
  have h8 := hg.n8
  refine FSpec.of_body tok true Tryd.func31 rfl (by kernel_rfl) (by decide) (by simp [tupA, hpLt, tmLt, AV.lt, AE.lt, AC.lt, LL_cons, LL_nil, idOk, ABlk.lt, ints_LL, GB, tab64_LL, gC, wB, giC, noneB, tvC_LL]) (by simp [tupA, hpLt, tmLt, AV.lt, AE.lt, AC.lt, LL_cons, LL_nil, idOk, ABlk.lt, ints_LL, GB, tab64_LL, gC, wB, giC, noneB, tvC_LL]) (by show 2 ≤ _; decide) ?_
  refine Wk.on ?_
  have hrep : ∀ z, z = [AC.int .i64 0] → rep ((g.n : Nat) : Int).toNat z = ints (nL w0 g.n) := fun z hz => by rw [hz, Int.toNat_natCast, rep_zero, nL_w0]
  refine ⟨⟨Nat.le_of_ble_eq_true rfl, Nat.le_of_ble_eq_true rfl, rfl, by omega, rfl, by show (8 : Int) * (g.n : Int) ≤ _; omega, by omega⟩, ?_⟩
  refine Wk.on ?_
  rw [hrep _ rfl]
  refine Tr.loop (md := true) (X := Nat × Nat × (Nat → Nat)) (st := fun x => ⟨[(1, .c (.rs 1 0 V.length)), (2, .c (.ptr 2 0)), (5, .c (.sl 3 0 g.n (some g.n))), (6, .c (.int .i64 x.2.1)), (7, .c (.int .i64 x.1))], [(3, .own (ints (nL x.2.2 g.n))), (2, .own (gC g 0)), (0, wB g), (1, .ro (tvC V))], 4, 116, 2⟩) (inv := fun x => x.1 ≤ V.length ∧ x.2.1 ≤ 1000 * x.1 ∧ (0 < x.1 → V.getD (x.1 - 1) [] ≠ []) ∧ runRP g.n (V.drop x.1) x.1 (prevO V x.1) x.2.1 x.2.2 = runRP g.n V 0 none 0 w0) (μ := fun x => V.length - x.1) (x0 := (0, 0, w0)) (l := []) tok ⟨by omega, by show 0 ≤ 1000 * 0; omega, (fun h => absurd h (by decide)), rfl⟩ ?_ ?_
  · exact Sub.nil ⟨rfl, rfl, (by simp [tab64_LL, gC, wB, giC, noneB, tvC_LL]), rfl, (by simp [tupA, hpLt, tmLt, AV.lt, AE.lt, AC.lt, LL_cons, LL_nil, idOk, ABlk.lt, ints_LL, GB, tab64_LL, gC, wB, giC, noneB, tvC_LL]), (by simp [tupA, hpLt, tmLt, AV.lt, AE.lt, AC.lt, LL_cons, LL_nil, idOk, ABlk.lt, ints_LL, GB, tab64_LL, gC, wB, giC, noneB, tvC_LL])⟩ (by (repeat (first | exact trivial | refine ⟨trivial, ?_⟩ | refine ⟨rfl, ?_⟩))) ⟨rfl, rfl, rfl, rfl, trivial⟩
  · rintro ⟨i, c, u⟩ ⟨h1, h2, h4, h3⟩
    dsimp only at h1 h2 h3 h4 ⊢
    have hW8 : (ints (nL u g.n)).length = g.n := by rw [ints_len, nL_len]
    by_cases hi : i < V.length
    · have hst := runRP_step hi c u (n := g.n)
      rw [h3] at hst
      have htl : (tvC V).length = V.length := by simp [tvC]
      have htg := tvC_get hi
      obtain ⟨p, hp⟩ : ∃ p, p = V.getD i [] := ⟨_, rfl⟩
      have hpl : p.length ≤ 1000 := by rw [hp, List.getD_eq_getElem?_getD, List.getElem?_eq_getElem hi]; exact hVa _ (List.getElem_mem hi)
      rw [← hp] at hst htg
      refine Wk.on ?_
      rw [decide_eq_true (show ((i : Nat) : Int) < ((V.length : Nat) : Int) by omega)]
      refine Wk.on ?_
      rw [Int.toNat_natCast, htg]
      refine Wk.on ?_
      by_cases hp0 : p = []
      · rw [if_pos hp0] at hst
        subst hp0
        refine Wk.on ?_
        exact AH.Fin.nil2 ⟨by rw [isBarR_none hst]; rfl, rfl, rfl⟩
      · have hp1 : 0 < p.length := List.length_pos_iff.2 hp0
        rw [if_neg hp0] at hst
        rw [decide_eq_false (show ¬ (((RT.leaf 1 p.length p).len : Nat) : Int) = 0 by show ¬ ((p.length : Nat) : Int) = 0; omega)]
        refine Wk.on ?_
        refine Tr.loop (md := true) (X := Nat × Nat × (Nat → Nat)) (st := fun x => ⟨[(1, .c (.rs 1 0 V.length)), (2, .c (.ptr 2 0)), (5, .c (.sl 3 0 g.n (some g.n))), (6, .c (.int .i64 x.2.1)), (7, .c (.int .i64 i)), (8, .c (.int .i64 x.1))], [(3, .own (ints (nL x.2.2 g.n))), (2, .own (gC g 0)), (0, wB g), (1, .ro (tvC V))], 4, 116, 2⟩) (inv := fun x => x.1 ≤ p.length ∧ x.2.1 ≤ 1000 * i + x.1 ∧ runRE g.n i (p.drop x.1) (prevE p x.1) x.2.1 x.2.2 = runRE g.n i p none c u) (μ := fun x => p.length - x.1) (x0 := (0, c, u)) (l := []) tok ⟨by omega, by show c ≤ 1000 * i + 0; omega, rfl⟩ ?_ ?_
        · exact Sub.nil ⟨rfl, rfl, (by simp [tab64_LL, gC, wB, giC, noneB, tvC_LL]), rfl, (by simp [tupA, hpLt, tmLt, AV.lt, AE.lt, AC.lt, LL_cons, LL_nil, idOk, ABlk.lt, ints_LL, GB, tab64_LL, gC, wB, giC, noneB, tvC_LL]), (by simp [tupA, hpLt, tmLt, AV.lt, AE.lt, AC.lt, LL_cons, LL_nil, idOk, ABlk.lt, ints_LL, GB, tab64_LL, gC, wB, giC, noneB, tvC_LL])⟩ (by (repeat (first | exact trivial | refine ⟨trivial, ?_⟩ | refine ⟨rfl, ?_⟩))) (by (repeat (first | exact trivial | refine ⟨trivial, ?_⟩ | refine ⟨rfl, ?_⟩)))
        · rintro ⟨j, c', u'⟩ ⟨g1, g2, g4⟩
          dsimp only at g1 g2 g4 ⊢
          have hW8' : (ints (nL u' g.n)).length = g.n := by rw [ints_len, nL_len]
          by_cases hj : j < p.length
          · have hes := runRE_step (n := g.n) (i := i) hj c' u'
            rw [g4] at hes
            refine Wk.on ?_
            rw [Int.toNat_natCast, htg]
            refine Wk.on ?_
            rw [decide_eq_true (show ((j : Nat) : Int) < (((RT.leaf 1 p.length p).len : Nat) : Int) by show ((j : Nat) : Int) < ((p.length : Nat) : Int); omega)]
            refine Wk.on ?_
            rw [Int.toNat_natCast, htg]
            refine Wk.on ?_
            refine ⟨⟨rfl, by omega, by show ((j : Nat) : Int) < ((p.length : Nat) : Int); omega⟩, ?_⟩
            refine Wk.on ?_
            refine ⟨by show ((j : Nat) : Int).toNat * 1 + 1 ≤ (p.map _).length; rw [List.length_map]; omega, ?_⟩
            refine Wk.on ?_
            rw [Int.toNat_natCast, tv_get p j]
            obtain ⟨v, hvv⟩ : ∃ v, v = p.getD j 0 := ⟨_, rfl⟩
            rw [← hvv] at hes ⊢
            by_cases c1 : v < 0
            · rw [if_pos (.inl (.inl c1))] at hes
              refine Wk.on ?_
              rw [decide_eq_true c1]
              refine Wk.on ?_
              rw [hes] at hst
              exact AH.Fin.nil2 ⟨by rw [isBarR_none hst]; rfl, rfl, rfl⟩
            · refine Wk.on ?_
              rw [decide_eq_false c1]
              refine Wk.on ?_
              by_cases c2 : ((g.n : Nat) : Int) ≤ v
              · rw [if_pos (.inl (.inr (.inl c2)))] at hes
                rw [decide_eq_true c2]
                refine Wk.on ?_
                rw [hes] at hst
                exact AH.Fin.nil2 ⟨by rw [isBarR_none hst]; rfl, rfl, rfl⟩
              · rw [decide_eq_false c2]
                refine Wk.on ?_
                obtain ⟨a, rfl⟩ : ∃ a : Nat, v = a := ⟨v.toNat, by omega⟩
                rw [Int.toNat_natCast] at hes
                have hga := nL_get u' (n := g.n) (i := a) (by omega)
                rw [Int.toNat_natCast, hga]
                refine Wk.on ?_
                by_cases c3 : 0 < u' a
                · rw [if_pos (.inl (.inr (.inr c3)))] at hes
                  rw [decide_eq_true (show (0 : Int) < ((u' a : Nat) : Int) by omega)]
                  refine Wk.on ?_
                  rw [hes] at hst
                  exact AH.Fin.nil2 ⟨by rw [isBarR_none hst]; rfl, rfl, rfl⟩
                · rw [decide_eq_false (show ¬ (0 : Int) < ((u' a : Nat) : Int) by omega)]
                  refine Wk.on ?_
                  by_cases c5 : 0 < j
                  · rw [decide_eq_true (show (0 : Int) < ((j : Nat) : Int) by omega)]
                    refine Wk.on ?_
                    rw [Int.toNat_natCast, htg]
                    refine Wk.on ?_
                    refine ⟨⟨rfl, by omega, by show ((j : Nat) : Int) - 1 < ((p.length : Nat) : Int); omega⟩, ?_⟩
                    have hidx : (((j : Nat) : Int) - 1).toNat = j - 1 := by omega
                    refine Wk.on ?_
                    refine ⟨by show (((j : Nat) : Int) - 1).toNat * 1 + 1 ≤ (p.map _).length; rw [List.length_map]; omega, ?_⟩
                    refine Wk.on ?_
                    rw [hidx, tv_get p (j - 1)]
                    refine Wk.on ?_
                    by_cases c6 : ((a : Nat) : Int) ≤ p.getD (j - 1) 0
                    · rw [if_pos (.inr ⟨c5, c6⟩)] at hes
                      rw [decide_eq_true c6]
                      refine Wk.on ?_
                      rw [hes] at hst
                      exact AH.Fin.nil2 ⟨by rw [isBarR_none hst]; rfl, rfl, rfl⟩
                    · have c4 : ¬ (0 < j ∧ ((a : Nat) : Int) ≤ p.getD (j - 1) 0) := fun h => c6 h.2
                      rw [decide_eq_false c6]
                      rw [if_neg (by rintro ((h | h | h) | h); exact c1 h; exact c2 h; exact c3 h; exact c4 h)] at hes
                      have hset : (ints (nL u' g.n)).set (0 + a * 1) (.int .i64 ((i : Nat) + 1)) = ints (nL (updW u' a (i + 1)) g.n) := by rw [Nat.zero_add, Nat.mul_one]; exact nL_set u' (i + 1) (by omega)
                      refine Wk.on ?_
                      rw [Int.toNat_natCast, hset]
                      refine Again.mk ((j + 1, c' + 1, updW u' a (i + 1))) (Sub.nil ⟨rfl, rfl, (by simp [tab64_LL, gC, wB, giC, noneB, tvC_LL]), rfl, (by simp [tupA, hpLt, tmLt, AV.lt, AE.lt, AC.lt, LL_cons, LL_nil, idOk, ABlk.lt, ints_LL, GB, tab64_LL, gC, wB, giC, noneB, tvC_LL]), (by simp [tupA, hpLt, tmLt, AV.lt, AE.lt, AC.lt, LL_cons, LL_nil, idOk, ABlk.lt, ints_LL, GB, tab64_LL, gC, wB, giC, noneB, tvC_LL])⟩ (by (repeat (first | exact trivial | refine ⟨trivial, ?_⟩ | refine ⟨rfl, ?_⟩))) (by (repeat (first | exact trivial | refine ⟨trivial, ?_⟩ | refine ⟨rfl, ?_⟩)))) (⟨by show j + 1 ≤ p.length; omega, by show c' + 1 ≤ 1000 * i + (j + 1); omega, hes.symm⟩) (by omega)
                  · have c4 : ¬ (0 < j ∧ ((a : Nat) : Int) ≤ p.getD (j - 1) 0) := fun h => c5 h.1
                    rw [decide_eq_false (show ¬ (0 : Int) < ((j : Nat) : Int) by omega)]
                    rw [if_neg (by rintro ((h | h | h) | h); exact c1 h; exact c2 h; exact c3 h; exact c4 h)] at hes
                    have hset : (ints (nL u' g.n)).set (0 + a * 1) (.int .i64 ((i : Nat) + 1)) = ints (nL (updW u' a (i + 1)) g.n) := by rw [Nat.zero_add, Nat.mul_one]; exact nL_set u' (i + 1) (by omega)
                    refine Wk.on ?_
                    rw [Int.toNat_natCast, hset]
                    refine Again.mk ((j + 1, c' + 1, updW u' a (i + 1))) (Sub.nil ⟨rfl, rfl, (by simp [tab64_LL, gC, wB, giC, noneB, tvC_LL]), rfl, (by simp [tupA, hpLt, tmLt, AV.lt, AE.lt, AC.lt, LL_cons, LL_nil, idOk, ABlk.lt, ints_LL, GB, tab64_LL, gC, wB, giC, noneB, tvC_LL]), (by simp [tupA, hpLt, tmLt, AV.lt, AE.lt, AC.lt, LL_cons, LL_nil, idOk, ABlk.lt, ints_LL, GB, tab64_LL, gC, wB, giC, noneB, tvC_LL])⟩ (by (repeat (first | exact trivial | refine ⟨trivial, ?_⟩ | refine ⟨rfl, ?_⟩))) (by (repeat (first | exact trivial | refine ⟨trivial, ?_⟩ | refine ⟨rfl, ?_⟩)))) (⟨by show j + 1 ≤ p.length; omega, by show c' + 1 ≤ 1000 * i + (j + 1); omega, hes.symm⟩) (by omega)
          · have hje : j = p.length := by omega
            subst hje
            rw [List.drop_length, runRE] at g4
            rw [← g4] at hst
            dsimp only at hst
            refine Wk.on ?_
            rw [Int.toNat_natCast, htg]
            refine Wk.on ?_
            rw [decide_eq_false (show ¬ ((p.length : Nat) : Int) < (((RT.leaf 1 p.length p).len : Nat) : Int) by show ¬ ((p.length : Nat) : Int) < ((p.length : Nat) : Int); omega)]
            refine Wk.on ?_
            refine Tr.draw (md := true) [⟨[], [], [], [], []⟩, ⟨[0], [], [], [], []⟩, ⟨[0, 1], [], [], [], []⟩, ⟨[0, 1, 2], [83, 84, 89, 90, 91, 92, 93, 94], [], [], []⟩, ⟨[0, 1, 2], [82, 89, 90, 91, 92, 93, 94], [3], [], []⟩, ⟨[0, 1, 2, 4], [82, 89, 90, 91, 92, 93, 94], [3], [], []⟩, ⟨[0, 1, 2, 3, 4, 5], [89, 90, 91, 92, 93, 94], [], [], []⟩, ⟨[0, 1, 2, 3, 4, 5, 6], [89, 90, 91, 92, 93, 94], [], [], []⟩, ⟨[0, 1, 2, 3, 4, 5, 6, 7], [89, 90, 91, 92, 93, 94], [], [], []⟩, ⟨[0, 1, 2, 3, 4, 5, 6, 7, 8], [89, 90, 91, 92, 93, 94], [], [], []⟩, ⟨[0, 1, 2], [82, 83, 84, 85, 86, 87, 88, 90], [3, 4, 5, 6, 7, 8, 9], [], []⟩, ⟨[0, 1, 2], [82, 83, 84, 85, 86, 87, 88, 89], [3, 4, 5, 6, 7, 8, 9, 10], [], []⟩, ⟨[0, 1, 2, 10, 11], [82, 83, 84, 85, 86, 87, 88], [3, 4, 5, 6, 7, 8, 9], [], []⟩, ⟨[0, 1, 2, 10, 11, 12], [82, 83, 84, 85, 86, 87, 88], [3, 4, 5, 6, 7, 8, 9], [], []⟩, ⟨[0, 1, 2, 10, 11, 12, 13], [82, 83, 84, 85, 86, 87, 88], [3, 4, 5, 6, 7, 8, 9], [], []⟩, ⟨[0, 1, 2, 10, 11, 12, 13, 14], [82, 83, 84, 85, 86, 87, 88], [3, 4, 5, 6, 7, 8, 9], [], []⟩] tok (by kernel_rfl) (by kernel_rfl) ?_
            refine Wk.on ?_
            by_cases hi0 : 0 < i
            · rw [decide_eq_true (show (0 : Int) < ((i : Nat) : Int) by omega)]
              have htq := tvC_get (V := V) (i := i - 1) (by omega)
              have hq0 := h4 hi0
              obtain ⟨q, hq⟩ : ∃ q, q = V.getD (i - 1) [] := ⟨_, rfl⟩
              rw [← hq] at htq hst hq0
              have hq1 : 0 < q.length := List.length_pos_iff.2 hq0
              have hidx : (((i : Nat) : Int) - 1).toNat = i - 1 := by omega
              refine Wk.on ?_
              rw [hidx, htq]
              have tq0 : (RT.leaf 1 q.length q).cs.getD (Int.toNat 0 * 1) (.int .i64 0) = .int .i64 (q.getD 0 0) := tv_get q 0
              have tp0 : (RT.leaf 1 p.length p).cs.getD (Int.toNat 0 * 1) (.int .i64 0) = .int .i64 (p.getD 0 0) := tv_get p 0
              refine Wk.on ?_
              refine ⟨⟨rfl, by omega, by show (0 : Int) < ((q.length : Nat) : Int); omega⟩, ?_⟩
              refine Wk.on ?_
              refine ⟨by show 0 * 1 + 1 ≤ (q.map _).length; rw [List.length_map]; omega, ?_⟩
              refine Wk.on ?_
              rw [tq0]
              refine Wk.on ?_
              rw [Int.toNat_natCast, htg]
              refine Wk.on ?_
              refine ⟨⟨rfl, by omega, by show (0 : Int) < ((p.length : Nat) : Int); omega⟩, ?_⟩
              refine Wk.on ?_
              refine ⟨by show 0 * 1 + 1 ≤ (p.map _).length; rw [List.length_map]; omega, ?_⟩
              refine Wk.on ?_
              rw [tp0]
              refine Wk.on ?_
              by_cases c7 : p.getD 0 0 < q.getD 0 0
              · rw [if_pos ⟨hi0, c7⟩] at hst
                rw [decide_eq_true c7]
                refine Wk.on ?_
                exact AH.Fin.nil2 ⟨by rw [isBarR_none hst]; rfl, rfl, rfl⟩
              · rw [if_neg (fun h => c7 h.2)] at hst
                rw [decide_eq_false c7]
                refine Wk.on ?_
                refine Again.mk ((i + 1, c', u')) (Sub.nil ⟨rfl, rfl, (by simp [tab64_LL, gC, wB, giC, noneB, tvC_LL]), rfl, (by simp [tupA, hpLt, tmLt, AV.lt, AE.lt, AC.lt, LL_cons, LL_nil, idOk, ABlk.lt, ints_LL, GB, tab64_LL, gC, wB, giC, noneB, tvC_LL]), (by simp [tupA, hpLt, tmLt, AV.lt, AE.lt, AC.lt, LL_cons, LL_nil, idOk, ABlk.lt, ints_LL, GB, tab64_LL, gC, wB, giC, noneB, tvC_LL])⟩ (by (repeat (first | exact trivial | refine ⟨trivial, ?_⟩ | refine ⟨rfl, ?_⟩))) (by (repeat (first | exact trivial | refine ⟨trivial, ?_⟩ | refine ⟨rfl, ?_⟩)))) (⟨by show i + 1 ≤ V.length; omega, by show c' ≤ 1000 * (i + 1); omega, fun _ => (by show V.getD (i + 1 - 1) [] ≠ []; rw [Nat.add_sub_cancel, ← hp]; exact hp0), hst.symm⟩) (by omega)
            · rw [decide_eq_false (show ¬ (0 : Int) < ((i : Nat) : Int) by omega)]
              rw [if_neg (fun h => hi0 h.1)] at hst
              refine Wk.on ?_
              refine Again.mk ((i + 1, c', u')) (Sub.nil ⟨rfl, rfl, (by simp [tab64_LL, gC, wB, giC, noneB, tvC_LL]), rfl, (by simp [tupA, hpLt, tmLt, AV.lt, AE.lt, AC.lt, LL_cons, LL_nil, idOk, ABlk.lt, ints_LL, GB, tab64_LL, gC, wB, giC, noneB, tvC_LL]), (by simp [tupA, hpLt, tmLt, AV.lt, AE.lt, AC.lt, LL_cons, LL_nil, idOk, ABlk.lt, ints_LL, GB, tab64_LL, gC, wB, giC, noneB, tvC_LL])⟩ (by (repeat (first | exact trivial | refine ⟨trivial, ?_⟩ | refine ⟨rfl, ?_⟩))) (by (repeat (first | exact trivial | refine ⟨trivial, ?_⟩ | refine ⟨rfl, ?_⟩)))) (⟨by show i + 1 ≤ V.length; omega, by show c' ≤ 1000 * (i + 1); omega, fun _ => (by show V.getD (i + 1 - 1) [] ≠ []; rw [Nat.add_sub_cancel, ← hp]; exact hp0), hst.symm⟩) (by omega)
    · have hie : i = V.length := by omega
      subst hie
      rw [List.drop_length, runRP] at h3
      have hb : isBarR g V = (decide (c = g.n) && decide (2 ≤ V.length) && decide ((crN u g.ws : Int) < 2 * ((V.length : Int) - 1))) := by unfold isBarR; rw [← h3]
      have hcr : crN u g.ws ≤ 10 := Nat.le_trans List.countP_le_length hg.len
      have hwk : FDet Tryd.prog 72 [.g (gC g 0), .c (.sl 1 0 g.n (some g.n))] [(0, wB g), (1, .own (ints (nL u g.n)))] 2 (.c (.int .i64 (crN u g.ws : Nat))) [] 2 :=
        FDet.wk (betweenR_spec hg u) ⟨Or.inl rfl, ⟨rfl, rfl, rfl⟩, trivial⟩ ⟨Or.inl rfl, Or.inl rfl, trivial⟩
      refine Wk.on ?_
      rw [decide_eq_false (show ¬ ((V.length : Nat) : Int) < ((V.length : Nat) : Int) by omega)]
      refine Wk.on ?_
      intro _
      refine Wk.on ?_
      by_cases c1 : c = g.n
      · rw [decide_eq_true c1, Bool.true_and] at hb
        rw [decide_eq_true (show ((c : Nat) : Int) = ((g.n : Nat) : Int) by omega)]
        refine Wk.on ?_
        by_cases c2 : 2 ≤ V.length
        · rw [decide_eq_true c2, Bool.true_and] at hb
          rw [decide_eq_true (show (2 : Int) ≤ ((V.length : Nat) : Int) by omega)]
          refine Wk.on ?_
          refine CallA.det2 [0, 3] (.c (.int .i64 (crN u g.ws : Nat))) ([(2, .own (gC g 0)), (0, wB g), (1, .ro (tvC V))]) (hwk) ?_
          refine Wk.on ?_
          exact AH.Fin.nil2 ⟨by rw [hb]; rfl, rfl, rfl⟩
        · rw [decide_eq_false c2, Bool.false_and] at hb
          rw [decide_eq_false (show ¬ (2 : Int) ≤ ((V.length : Nat) : Int) by omega)]
          refine Wk.on ?_
          exact AH.Fin.nil2 ⟨by rw [hb]; rfl, rfl, rfl⟩
      · rw [decide_eq_false c1, Bool.false_and, Bool.false_and] at hb
        rw [decide_eq_false (show ¬ ((c : Nat) : Int) = ((g.n : Nat) : Int) by omega)]
        refine Wk.on ?_
        exact AH.Fin.nil2 ⟨by rw [hb]; rfl, rfl, rfl⟩
end Go.Proofs.YtfphkpdobbffeaaDoor

/-
  Plain: two trees on all places, or a barrier: never both, and always one.
-/
namespace Go.Proofs.YtfphkpdobbffeaaDoor
open Go Go.AH Go.Wire
set_option maxRecDepth 100000
set_option maxHeartbeats 1000000

theorem crs_crN (g : Gm) (q : Nat → Nat) : Wire.crs (eg g) g.ws.length q = crN q g.ws := by
  unfold crN
  rw [← eg_map g, List.countP_map, eg_map g]
  rfl
/-! Two trees on all places. -/
theorem span_of {g : Gm} (hg : g.ok) {P : Bool → List Nat} (hP : Pk (eg g) g.n g.ws.length P) (hc : ∀ b, cp (eg g) g.n (P b) = 1) : treesF g (alS g) ≠ none := by
  have hp := ws1024 hg
  have h10 := hg.len
  have h2 := hg.n2
  have hlt : ∀ b, bm (P b) < 2 ^ g.ws.length := fun b => bm_lt (hP.lt b)
  have hpm : ∀ b, (memN (bm (P b))).Perm (P b) := fun b => bm_perm (hP.fo b).nodup (fun i hi => by have := hP.lt b i hi; omega)
  have ht : ∀ b, isTreeB g (bm (P b)) (2 ^ g.n - 1) = true := fun b => by
    rw [tree_full hg (hlt b)]
    refine ⟨(hP.fo b).perm (hpm b).symm, ?_⟩
    rw [(hpm b).length_eq]
    have := (hP.fo b).2
    rw [hc b] at this; omega
  have hpl : ∀ b, placesN g (bm (P b)) = 2 ^ g.n - 1 := fun b => by
    have := ht b
    rw [isTreeB, Bool.and_eq_true, Bool.and_eq_true, decide_eq_true_eq] at this
    exact this.1.1
  have hdj : ∀ b, bm (P b) &&& bm (P (!b)) = 0 := fun b => Nat.eq_of_testBit_eq fun i => by
    rw [Nat.testBit_and, Nat.zero_testBit, bm_bit, bm_bit]
    by_cases h : i ∈ P b
    · rw [decide_eq_false (hP.dj b i h), Bool.and_false]
    · rw [decide_eq_false h, Bool.false_and]
  have hne : ∀ b, bm (P b) ≠ 0 := fun b k => by
    have h1 := (hpm b).length_eq
    rw [k, memN_zero] at h1
    have := (hP.fo b).2
    rw [hc b, ← h1] at this
    simp at this; omega
  have go : ∀ b, bm (P b) < bm (P (!b)) → treesF g (alS g) ≠ none := fun b hlt2 hn => by
    have h1 := firstFrom_none hn (bm (P b)) (Nat.zero_le _) (by have := hlt b; omega)
    rw [okA, if_neg (by rw [hpl b, ht b, alS]; simp [hne b])] at h1
    have h3 := firstFrom_none h1 (bm (P (!b))) hlt2 (by have := hlt (!b); omega)
    rw [okB, if_pos ⟨hdj b, by rw [hpl b]; exact ht (!b)⟩] at h3
    cases h3
  rcases Nat.lt_trichotomy (bm (P true)) (bm (P false)) with k | k | k
  · exact go true k
  · have := hdj true
    rw [show (!true) = false from rfl, ← k, Nat.and_self] at this
    exact absurd this (hne true)
  · exact go false k
theorem of_span {g : Gm} (hg : g.ok) {a b : Nat} (h : treesF g (alS g) = some (a, b)) : ∃ P, Pk (eg g) g.n g.ws.length P ∧ ∀ b, cp (eg g) g.n (P b) = 1 := by
  have hp := ws1024 hg
  obtain ⟨h1, h2, h3, h4, h5, h6, h7⟩ := treesF_lt hg.len h
  have ha : a < 2 ^ g.ws.length := by omega
  rw [alS, decide_eq_true_eq] at h4
  rw [h4] at h5 h7
  rw [tree_full hg ha] at h5
  rw [tree_full hg h3] at h7
  refine ⟨fun c => if c then memN a else memN b, ⟨fun c => by cases c; exact h7.1; exact h5.1, fun c i hi => ?_, fun c i hi => ?_⟩, fun c => ?_⟩
  · cases c
    · exact memN_lt hg.len h3 hi
    · exact memN_lt hg.len ha hi
  · have hno : ¬ (a.testBit i = true ∧ b.testBit i = true) := fun ⟨x, y⟩ => by
      have := congrArg (fun z => z.testBit i) h6
      simp [x, y] at this
    cases c
    · intro h8
      exact hno ⟨(memN_mem (by omega)).1 h8, (memN_mem (by omega)).1 hi⟩
    · intro h8
      exact hno ⟨(memN_mem (by omega)).1 hi, (memN_mem (by omega)).1 h8⟩
  · cases c
    · have := h7.1.2; show cp (eg g) g.n (memN b) = 1; omega
    · have := h5.1.2; show cp (eg g) g.n (memN a) = 1; omega
/-! A division that groups make, told by restricted growth. -/
def rk (e : Nat → Nat × Nat) (K : List Nat) (r : Nat) : Nat := (List.range r).countP fun x => decide (Wire.lb e K x = x)
theorem rk_succ (e : Nat → Nat × Nat) (K : List Nat) (r : Nat) : rk e K (r + 1) = rk e K r + if Wire.lb e K r = r then 1 else 0 := by
  unfold rk
  rw [List.range_succ, List.countP_append, List.countP_singleton]
  congr 1
  simp
theorem rk_mono (e : Nat → Nat × Nat) (K : List Nat) {r : Nat} : ∀ s, r ≤ s → rk e K r ≤ rk e K s
  | 0, h => by rw [show r = 0 by omega]; exact Nat.le_refl _
  | s + 1, h => by
    rcases Nat.lt_or_ge r (s + 1) with h2 | h2
    · have := rk_mono e K (r := r) s (by omega)
      rw [rk_succ]; omega
    · rw [show r = s + 1 by omega]; exact Nat.le_refl _
def uKl (e : Nat → Nat × Nat) (K : List Nat) (a : Nat) : Nat := rk e K (Wire.lb e K a)
theorem uKl_mx (e : Nat → Nat × Nat) (K : List Nat) : ∀ j, mx (uKl e K) j = rk e K j
  | 0 => rfl
  | j + 1 => by
    simp only [mx]
    rw [uKl_mx e K j, rk_succ]
    by_cases h : Wire.lb e K j = j
    · rw [if_pos h, uKl, h]; omega
    · rw [if_neg h, uKl]
      have h1 := lb_le (e := e) K j
      have h2 := rk_mono e K (r := Wire.lb e K j + 1) j (by omega)
      rw [rk_succ, if_pos (lb_lb K j)] at h2
      omega
theorem uKl_rg (e : Nat → Nat × Nat) (K : List Nat) (n : Nat) : RG (uKl e K) n := fun j _ => by
  rw [uKl_mx, uKl]
  exact rk_mono e K j (lb_le K j)
theorem uKl_iff (e : Nat → Nat × Nat) (K : List Nat) (a b : Nat) : uKl e K a = uKl e K b ↔ Wire.lb e K a = Wire.lb e K b := by
  refine ⟨fun h => ?_, fun h => by rw [uKl, uKl, h]⟩
  unfold uKl at h
  have key : ∀ x y, rk e K (Wire.lb e K x) = rk e K (Wire.lb e K y) → ¬ Wire.lb e K x < Wire.lb e K y := fun x y h k => by
    have h2 := rk_mono e K (r := Wire.lb e K x + 1) (Wire.lb e K y) (by omega)
    rw [rk_succ, if_pos (lb_lb K x)] at h2
    omega
  have k1 := key a b h
  have k2 := key b a h.symm
  omega
theorem bar_or {g : Gm} (hg : g.ok) : treesF g (alS g) ≠ none ∨ ∃ u, RG u g.n ∧ Bar g u := by
  have h2 := hg.n2
  rcases trees_or (eg_ends hg) (show 0 < g.n by omega) with ⟨P, hP, hc⟩ | ⟨K, _, hK⟩
  · exact .inl (span_of hg hP hc)
  · refine .inr ⟨uKl (eg g) K, uKl_rg _ _ _, ?_⟩
    have e1 : mx (uKl (eg g) K) g.n = cp (eg g) g.n K := uKl_mx _ _ _
    have e2 : crN (uKl (eg g) K) g.ws = Wire.crs (eg g) g.ws.length (Wire.lb (eg g) K) := by
      rw [crs_crN]
      refine List.countP_congr fun p _ => ?_
      have := uKl_iff (eg g) K p.1 p.2
      simp only [ne_eq, decide_not, Bool.not_eq_true', decide_eq_false_iff_not]
      rw [this]
    have := cp_pos (e := eg g) (show 0 < g.n by omega) K
    unfold Bar
    rw [e1, e2]
    omega
theorem bar_not {g : Gm} (hg : g.ok) {u : Nat → Nat} (hu : RG u g.n) (hb : Bar g u) : treesF g (alS g) = none := by
  apply Classical.byContradiction
  intro h
  obtain ⟨p, hp⟩ := Option.ne_none_iff_exists'.1 h
  obtain ⟨a, b⟩ := p
  obtain ⟨P, hP, hc⟩ := of_span hg hp
  have := no_barrier hP hc (q := u) (k := mx u g.n) fun x hx => mx_hit hu hx
  rw [crs_crN] at this
  obtain ⟨b1, b2⟩ := hb
  omega
/-! The reference's search. -/
theorem hasB_iff {g : Gm} (hg : g.ok) : ∀ (d i : Nat) (w : Nat → Nat), i + d = g.n → RG w i → (hasB g d i w (mx w i) = true ↔ ∃ u, (∀ j, j < i → u j = w j) ∧ RG u g.n ∧ Bar g u) := by
  intro d
  induction d with
  | zero =>
    intro i w hi hr
    have e : i = g.n := by omega
    subst e
    have h1 : hasB g 0 g.n w (mx w g.n) = true ↔ Bar g w := by
      rw [hasB, Bool.and_eq_true, decide_eq_true_eq, decide_eq_true_eq]
      unfold Bar
      constructor
      · rintro ⟨a, b⟩; exact ⟨a, by omega⟩
      · rintro ⟨a, b⟩; exact ⟨a, by omega⟩
    rw [h1]
    constructor
    · intro h; exact ⟨w, fun _ _ => rfl, hr, h⟩
    · rintro ⟨u, hu, _, hb⟩; exact (Bar_congr hg hu).1 hb
  | succ d ih =>
    intro i w hi hr
    have hx : ∀ k, mx (updW w i k) (i + 1) = max (mx w i) (k + 1) := fun k => by
      show max (mx (updW w i k) i) (updW w i k i + 1) = _
      rw [updW_eq, mx_congr fun j hj => updW_lt hj]
    have hrg : ∀ k, k ≤ mx w i → RG (updW w i k) (i + 1) := fun k hk j hj => by
      by_cases e : j < i
      · rw [updW_lt e, mx_congr (v := w) fun x hx => updW_lt (by omega)]; exact hr j e
      · obtain rfl : j = i := by omega
        rw [updW_eq, mx_congr fun x hx => updW_lt hx]; exact hk
    rw [hasB, List.any_eq_true]
    constructor
    · rintro ⟨k, hk, h⟩
      have hk := List.mem_range.1 hk
      rw [← hx k] at h
      obtain ⟨u, h1, h2, h3⟩ := (ih (i + 1) (updW w i k) (by omega) (hrg k (by omega))).1 h
      exact ⟨u, fun j hj => (h1 j (by omega)).trans (updW_lt hj), h2, h3⟩
    · rintro ⟨u, h1, h2, h3⟩
      have hk : u i ≤ mx w i := by
        have := h2 i (by omega)
        rw [mx_congr h1] at this; exact this
      refine ⟨u i, List.mem_range.2 (by omega), ?_⟩
      rw [← hx]
      refine (ih (i + 1) (updW w i (u i)) (by omega) (hrg _ hk)).2 ⟨u, fun j hj => ?_, h2, h3⟩
      by_cases e : j < i
      · rw [updW_lt e]; exact h1 j e
      · obtain rfl : j = i := by omega
        rw [updW_eq]
theorem hasB_eq {g : Gm} (hg : g.ok) : hasB g g.n 0 w0 0 = decide (treesF g (alS g) = none) := by
  have h := hasB_iff hg g.n 0 w0 (by omega) (fun j hj => absurd hj (by omega))
  rw [Bool.eq_iff_iff, decide_eq_true_eq]
  rw [show mx w0 0 = 0 from rfl] at h
  rw [h]
  constructor
  · rintro ⟨u, _, h1, h2⟩; exact bar_not hg h1 h2
  · intro hn
    rcases bar_or hg with h1 | ⟨u, h1, h2⟩
    · exact absurd hn h1
    · exact ⟨u, fun j hj => absurd hj (by omega), h1, h2⟩
end Go.Proofs.YtfphkpdobbffeaaDoor

/-
  Plain: what is a barrier, by the program and by the reference; what the search finds is one.
-/
namespace Go.Proofs.YtfphkpdobbffeaaDoor
open Go Go.AH Go.Wire
set_option maxRecDepth 100000
set_option maxHeartbeats 1000000

theorem or_tb (s a b : Nat) : (s ||| 2 ^ a).testBit b = (s.testBit b || decide (a = b)) := by
  rw [Nat.testBit_or, Nat.testBit_two_pow]
/-! The program's and the reference's answers are the same. -/
structure Rl (n s c : Nat) (u w : Nat → Nat) : Prop where
  b : ∀ a, a < n → (s.testBit a = true ↔ 0 < u a)
  l : s < 2 ^ n
  c : c = (List.range n).countP fun a => decide (0 < u a)
  w : ∀ a, a < n → 0 < u a → u a = w a + 1
theorem Rl.put {n s c i a : Nat} {u w : Nat → Nat} (h : Rl n s c u w) (ha : a < n) (h0 : ¬ 0 < u a) : Rl n (s ||| 2 ^ a) (c + 1) (updW u a (i + 1)) (updW w a i) where
  b := fun b hb => by
    rw [or_tb, Bool.or_eq_true, decide_eq_true_eq, h.b b hb, updW]
    by_cases e : b = a
    · subst e; simp
    · rw [if_neg e]
      exact ⟨fun k => k.resolve_right fun k => e k.symm, .inl⟩
  l := or_lt h.l ((Nat.pow_lt_pow_iff_right (by omega)).2 ha)
  c := by
    have h1 := cnt_rm (fun b => decide (0 < updW u a (i + 1) b)) a (by simp [updW]) n
    rw [if_pos ha] at h1
    rw [← h1, h.c]
    congr 1
    refine List.countP_congr fun b _ => ?_
    rw [Bool.and_eq_true, decide_eq_true_eq, decide_eq_true_eq, decide_eq_true_eq, updW]
    by_cases e : b = a
    · subst e; simp; omega
    · rw [if_neg e]; exact ⟨fun k => ⟨k, e⟩, fun k => k.1⟩
  w := fun b hb h1 => by
    rw [updW] at h1 ⊢
    rw [updW]
    by_cases e : b = a
    · rw [if_pos e, if_pos e]
    · rw [if_neg e] at h1 ⊢; rw [if_neg e]; exact h.w b hb h1
theorem runE_R {n i : Nat} : ∀ (r : List Int) (s c : Nat) (u w : Nat → Nat) (q : Option Int) (l : Int), Rl n s c u w → ((q = none ∧ l = -1) ∨ (q = some l ∧ 0 ≤ l)) →
    (runE n i r s w l = none ∧ runRE n i r q c u = none) ∨ ∃ s' w' c' u', runE n i r s w l = some (s', w') ∧ runRE n i r q c u = some (c', u') ∧ Rl n s' c' u' w' ∧ (∀ a, 0 < u a → 0 < u' a) ∧ ∀ v r', r = v :: r' → 0 ≤ v ∧ v < (n : Int) ∧ ¬ 0 < u v.toNat ∧ 0 < u' v.toNat
  | [], s, c, u, w, q, l, h, hq => .inr ⟨s, w, c, u, rfl, rfl, h, fun _ k => k, fun v r' e => by cases e⟩
  | v :: r, s, c, u, w, q, l, h, hq => by
    have hc : (v ≤ l ∨ (n : Int) ≤ v ∨ s.testBit v.toNat = true) ↔ ((v < 0 ∨ (n : Int) ≤ v ∨ 0 < u v.toNat) ∨ ∃ y, q = some y ∧ v ≤ y) := by
      by_cases h1 : (n : Int) ≤ v
      · exact ⟨fun _ => .inl (.inr (.inl h1)), fun _ => .inr (.inl h1)⟩
      · by_cases h2 : v < 0
        · refine ⟨fun _ => .inl (.inl h2), fun _ => .inl ?_⟩
          rcases hq with ⟨_, k⟩ | ⟨_, k⟩ <;> omega
        · have hb := h.b v.toNat (by omega)
          have h3 : (∃ y, q = some y ∧ v ≤ y) ↔ v ≤ l := by
            rcases hq with ⟨k, k2⟩ | ⟨k, k2⟩
            · subst k; simp; omega
            · subst k; simp
          rw [hb, h3]
          constructor
          · rintro (k | k | k)
            · exact .inr k
            · exact .inl (.inr (.inl k))
            · exact .inl (.inr (.inr k))
          · rintro ((k | k | k) | k)
            · exact absurd k h2
            · exact .inr (.inl k)
            · exact .inr (.inr k)
            · exact .inl k
    by_cases hk : v ≤ l ∨ (n : Int) ≤ v ∨ s.testBit v.toNat = true
    · refine .inl ⟨?_, ?_⟩
      · rw [runE, if_pos hk]
      · rw [runRE, if_pos (hc.1 hk)]
    · have hk2 : ¬ ((v < 0 ∨ (n : Int) ≤ v ∨ 0 < u v.toNat) ∨ ∃ y, q = some y ∧ v ≤ y) := fun k => hk (hc.2 k)
      rw [runE, if_neg hk, runRE, if_neg hk2]
      have v0 : 0 ≤ v := by
        apply Classical.byContradiction
        intro k; exact hk2 (.inl (.inl (by omega)))
      have vn : v < (n : Int) := by
        apply Classical.byContradiction
        intro k; exact hk2 (.inl (.inr (.inl (by omega))))
      have vu : ¬ 0 < u v.toNat := fun k => hk2 (.inl (.inr (.inr k)))
      rcases runE_R r _ _ _ _ (some v) v (h.put (i := i) (a := v.toNat) (by omega) vu) (.inr ⟨rfl, v0⟩) with ⟨e1, e2⟩ | ⟨s', w', c', u', e1, e2, e3, e4, _⟩
      · exact .inl ⟨e1, e2⟩
      · refine .inr ⟨s', w', c', u', e1, e2, e3, fun a ha => e4 a ?_, fun v' r' e => ?_⟩
        · rw [updW]; split
          · omega
          · exact ha
        · injection e with e5 e6
          subst e5
          exact ⟨v0, vn, vu, e4 _ (by rw [updW, if_pos rfl]; omega)⟩
theorem cmpL_cons {a b : Int} {x y : List Int} (h : a < b) : cmpL (a :: x) (b :: y) < 0 := by
  have e : cmpI a b = -1 := by rw [cmpI, if_pos h]
  rw [cmpL, e, if_neg (by decide)]; decide
theorem cmpL_cons' {a b : Int} {x y : List Int} (h : b < a) : 0 ≤ cmpL (a :: x) (b :: y) := by
  have e : cmpI a b = 1 := by rw [cmpI, if_neg (by omega), if_pos h]
  rw [cmpL, e, if_neg (by decide)]; decide
theorem runP_R {n : Nat} : ∀ (r : List (List Int)) (i : Nat) (q : Option (List Int)) (s c : Nat) (u w : Nat → Nat), Rl n s c u w → (∀ x, q = some x → ∃ a x', x = a :: x' ∧ 0 ≤ a ∧ a < (n : Int) ∧ 0 < u a.toNat) →
    (runP n r i q s w = none ∧ runRP n r i q c u = none) ∨ ∃ s' w' c' u', runP n r i q s w = some (s', w') ∧ runRP n r i q c u = some (c', u') ∧ Rl n s' c' u' w'
  | [], i, q, s, c, u, w, h, hq => .inr ⟨s, w, c, u, rfl, rfl, h⟩
  | p :: r, i, q, s, c, u, w, h, hq => by
    rw [runP, runRP]
    by_cases hp : p = []
    · rw [if_pos hp, if_pos (.inl hp)]; exact .inl ⟨rfl, rfl⟩
    · rw [if_neg hp]
      obtain ⟨b, p', rfl⟩ : ∃ b p', p = b :: p' := by
        cases p with
        | nil => exact absurd rfl hp
        | cons b p' => exact ⟨b, p', rfl⟩
      rcases runE_R (i := i) (b :: p') s c u w none (-1) h (.inl ⟨rfl, rfl⟩) with ⟨e1, e2⟩ | ⟨s', w', c', u', e1, e2, e3, e4, e5⟩
      · rw [e1, e2]
        refine .inl ⟨?_, rfl⟩
        split <;> rfl
      · obtain ⟨b0, bn, bu, bu'⟩ := e5 b p' rfl
        rw [e1, e2]
        have hc : ((b :: p' = []) ∨ ∃ x, q = some x ∧ 0 ≤ cmpL x (b :: p')) ↔ ∃ x, q = some x ∧ (b :: p').getD 0 0 < x.getD 0 0 := by
          constructor
          · rintro (k | ⟨x, k1, k2⟩)
            · cases k
            · obtain ⟨a, x', rfl, a0, an, au⟩ := hq x k1
              refine ⟨_, k1, ?_⟩
              show b < a
              apply Classical.byContradiction
              intro k3
              by_cases k4 : a = b
              · subst k4; exact bu au
              · have := cmpL_cons (x := x') (y := p') (show a < b by omega)
                omega
          · rintro ⟨x, k1, k2⟩
            obtain ⟨a, x', rfl, a0, an, au⟩ := hq x k1
            exact .inr ⟨_, k1, cmpL_cons' k2⟩
        by_cases hk : (b :: p' = []) ∨ ∃ x, q = some x ∧ 0 ≤ cmpL x (b :: p')
        · rw [if_pos hk]
          dsimp only
          rw [if_pos (hc.1 hk)]
          exact .inl ⟨rfl, rfl⟩
        · rw [if_neg hk]
          dsimp only
          rw [if_neg fun k => hk (hc.2 k)]
          exact runP_R r (i + 1) _ s' c' u' w' e3 fun x hx => by
            injection hx with hx
            exact ⟨b, p', hx.symm, b0, bn, bu'⟩
theorem full_bits {n s : Nat} (hs : s < 2 ^ n) : s = 2 ^ n - 1 ↔ ∀ a, a < n → s.testBit a = true := by
  constructor
  · rintro rfl a ha
    rw [Nat.testBit_two_pow_sub_one]; exact decide_eq_true ha
  · intro h
    apply Nat.eq_of_testBit_eq
    intro a
    rw [Nat.testBit_two_pow_sub_one]
    by_cases ha : a < n
    · rw [h a ha, decide_eq_true ha]
    · rw [decide_eq_false ha]
      exact Nat.testBit_lt_two_pow (Nat.lt_of_lt_of_le hs (Nat.pow_le_pow_right (by omega) (by omega)))
theorem isBar_eq {g : Gm} (hg : g.ok) (V : List (List Int)) : isBar g V = isBarR g V := by
  have h0 : Rl g.n 0 0 w0 w0 := ⟨fun a _ => by simp [w0], pow_pos2 _, by simp [w0], fun a _ k => absurd k (by simp [w0])⟩
  unfold isBar isBarR
  rcases runP_R (n := g.n) V 0 none 0 0 w0 w0 h0 (fun x hx => by cases hx) with ⟨e1, e2⟩ | ⟨s, w, c, u, e1, e2, e3⟩
  · rw [e1, e2]
  · rw [e1, e2]
    dsimp only
    have hfull : s = 2 ^ g.n - 1 ↔ c = g.n := by
      rw [full_bits e3.l, e3.c]
      constructor
      · intro h
        have : (List.range g.n).countP (fun a => decide (0 < u a)) = (List.range g.n).length := List.countP_eq_length.2 fun a ha => decide_eq_true ((e3.b a (List.mem_range.1 ha)).1 (h a (List.mem_range.1 ha)))
        rw [this, List.length_range]
      · intro h a ha
        have : (List.range g.n).countP (fun a => decide (0 < u a)) = (List.range g.n).length := by rw [h, List.length_range]
        exact (e3.b a ha).2 (of_decide_eq_true (List.countP_eq_length.1 this a (List.mem_range.2 ha)))
    by_cases hs : s = 2 ^ g.n - 1
    · have hc := hfull.1 hs
      rw [decide_eq_true hs, decide_eq_true hc]
      have hb := (full_bits e3.l).1 hs
      have : crN u g.ws = crN w g.ws := by
        refine List.countP_congr fun p hp => ?_
        obtain ⟨h1, h2⟩ := ws_ends hg p hp
        rw [e3.w _ h1 ((e3.b _ h1).1 (hb _ h1)), e3.w _ h2 ((e3.b _ h2).1 (hb _ h2))]
        simp
      rw [this]
    · rw [decide_eq_false hs, decide_eq_false fun k => hs (hfull.2 k)]
      simp
/-! What the search finds is a barrier. -/
theorem runE_inc {n i : Nat} : ∀ (r : List Int) (s : Nat) (w : Nat → Nat) (l : Int), -1 ≤ l → List.Pairwise (· < ·) (l :: r) → (∀ v ∈ r, v < (n : Int) ∧ s.testBit v.toNat = false) →
    ∃ s' w', runE n i r s w l = some (s', w') ∧ (∀ a : Nat, s'.testBit a = (s.testBit a || decide ((a : Int) ∈ r))) ∧ ∀ a : Nat, w' a = if (a : Int) ∈ r then i else w a
  | [], s, w, l, _, _, _ => ⟨s, w, rfl, fun a => by simp, fun a => by simp⟩
  | v :: r, s, w, l, hl, hp, hv => by
    obtain ⟨p1, p2⟩ := List.pairwise_cons.1 hp
    have hlv := p1 v (List.mem_cons_self ..)
    obtain ⟨q1, q2⟩ := List.pairwise_cons.1 p2
    obtain ⟨v1, v2⟩ := hv v (List.mem_cons_self ..)
    have hv0 : 0 ≤ v := by omega
    rw [runE, if_neg (by rintro (k | k | k); omega; omega; rw [v2] at k; cases k)]
    obtain ⟨s', w', e1, e2, e3⟩ := runE_inc (n := n) (i := i) r (s ||| 2 ^ v.toNat) (updW w v.toNat i) v (by omega) p2 fun x hx => ⟨(hv x (List.mem_cons_of_mem _ hx)).1, by
      have h1 := (hv x (List.mem_cons_of_mem _ hx)).2
      have h2 := q1 x hx
      rw [or_tb, h1, Bool.false_or]
      exact decide_eq_false (by omega)⟩
    refine ⟨s', w', e1, fun a => ?_, fun a => ?_⟩
    · rw [e2, or_tb]
      have : (v.toNat = a) ↔ ((a : Int) = v) := by omega
      simp only [List.mem_cons, this]
      by_cases k : (a : Int) = v
      · simp [k]
      · simp [k]
    · rw [e3]
      by_cases k : (a : Int) ∈ r
      · rw [if_pos k, if_pos (List.mem_cons_of_mem _ k)]
      · rw [if_neg k, updW]
        by_cases k2 : a = v.toNat
        · rw [if_pos k2, if_pos (by rw [show (a : Int) = v by omega]; exact List.mem_cons_self ..)]
        · rw [if_neg k2, if_neg]
          intro k3
          rcases List.mem_cons.1 k3 with k4 | k4
          · omega
          · exact k k4
theorem lsW_mem {w : Nat → Nat} {p j a : Nat} : (a : Int) ∈ lsW w p j ↔ a < p ∧ w a = j := by
  unfold lsW
  rw [List.mem_map]
  constructor
  · rintro ⟨b, hb, e⟩
    obtain rfl : b = a := by have : (b : Int) = a := e; omega
    rw [List.mem_filter, List.mem_range, decide_eq_true_eq] at hb
    exact hb
  · intro h
    exact ⟨a, List.mem_filter.2 ⟨List.mem_range.2 h.1, decide_eq_true h.2⟩, rfl⟩
theorem lsW_nat {w : Nat → Nat} {p j : Nat} {v : Int} (h : v ∈ lsW w p j) : ∃ a : Nat, v = a := by
  unfold lsW at h
  obtain ⟨b, _, e⟩ := List.mem_map.1 h
  exact ⟨b, e.symm⟩
theorem lsW_inc (w : Nat → Nat) (p j : Nat) : List.Pairwise (· < ·) (lsW w p j) := by
  unfold lsW
  rw [List.pairwise_map]
  refine List.Pairwise.imp ?_ (List.Pairwise.filter _ List.pairwise_lt_range)
  intro a b h
  show (a : Int) < b
  omega
theorem LV_run {w : Nat → Nat} {n : Nat} (hr : RG w n) : ∀ (k j : Nat) (q : Option (List Int)) (s : Nat) (w' : Nat → Nat), j + k = mx w n → (q = none ∧ j = 0 ∨ 0 < j ∧ q = some (lsW w n (j - 1))) →
    (∀ a : Nat, s.testBit a = decide (a < n ∧ w a < j)) → (∀ a, a < n → w a < j → w' a = w a) →
    ∃ s' w'', runP n ((List.range' j k).map (lsW w n)) j q s w' = some (s', w'') ∧ (∀ a : Nat, s'.testBit a = decide (a < n ∧ w a < j + k)) ∧ ∀ a, a < n → w a < j + k → w'' a = w a
  | 0, j, q, s, w', hk, hq, hs, hw => ⟨s, w', rfl, hs, hw⟩
  | k + 1, j, q, s, w', hk, hq, hs, hw => by
    rw [List.range'_succ, List.map_cons, runP]
    obtain ⟨f, f1, f2⟩ := mx_hit (x := j) hr (by omega)
    have hne : lsW w n j ≠ [] := fun h => by
      have : (f : Int) ∈ lsW w n j := lsW_mem.2 ⟨f1, f2⟩
      rw [h] at this; cases this
    have hcmp : ¬ ∃ x, q = some x ∧ 0 ≤ cmpL x (lsW w n j) := by
      rintro ⟨x, hx, h0⟩
      rcases hq with ⟨rfl, _⟩ | ⟨hj, rfl⟩
      · cases hx
      · injection hx with hx; subst hx
        obtain ⟨b, y, hb⟩ : ∃ b y, lsW w n j = b :: y := by
          cases h : lsW w n j with
          | nil => exact absurd h hne
          | cons b y => exact ⟨b, y, rfl⟩
        have hbm : b ∈ lsW w n j := by rw [hb]; exact List.mem_cons_self ..
        obtain ⟨b', rfl⟩ := lsW_nat hbm
        obtain ⟨b1, b2⟩ := lsW_mem.1 hbm
        have h1 := hr b' b1
        obtain ⟨u, u1, u2⟩ := mx_hit (x := j - 1) (n := b') (fun x hx => hr x (by omega)) (by omega)
        have hum : (u : Int) ∈ lsW w n (j - 1) := lsW_mem.2 ⟨by omega, u2⟩
        obtain ⟨a, x, ha⟩ : ∃ a x, lsW w n (j - 1) = a :: x := by
          cases h : lsW w n (j - 1) with
          | nil => rw [h] at hum; cases hum
          | cons a x => exact ⟨a, x, rfl⟩
        have hau : a ≤ (u : Int) := by
          have h3 := lsW_inc w n (j - 1)
          rw [ha] at h3 hum
          rcases List.mem_cons.1 hum with h4 | h4
          · omega
          · have := (List.pairwise_cons.1 h3).1 _ h4; omega
        rw [ha, hb] at h0
        have := cmpL_cons (x := x) (y := y) (show a < (b' : Int) by omega)
        omega
    rw [if_neg (by rintro (h | h); exact hne h; exact hcmp h)]
    obtain ⟨s', w1, e1, e2, e3⟩ := runE_inc (n := n) (i := j) (lsW w n j) s w' (-1) (by omega) (by
      refine List.pairwise_cons.2 ⟨fun v hv => ?_, lsW_inc w n j⟩
      obtain ⟨a, rfl⟩ := lsW_nat hv
      omega) (fun v hv => by
      obtain ⟨a, rfl⟩ := lsW_nat hv
      obtain ⟨h1, h2⟩ := lsW_mem.1 hv
      refine ⟨by omega, ?_⟩
      rw [Int.toNat_natCast, hs]
      exact decide_eq_false (by omega))
    rw [e1]
    dsimp only
    obtain ⟨s2, w2, g1, g2, g3⟩ := LV_run hr k (j + 1) (some (lsW w n j)) s' w1 (by omega) (.inr ⟨by omega, by rw [Nat.add_sub_cancel]⟩) (fun a => by
      rw [e2, hs]
      rw [Bool.eq_iff_iff, Bool.or_eq_true, decide_eq_true_eq, decide_eq_true_eq, decide_eq_true_eq, lsW_mem]
      omega) (fun a ha hwa => by
      rw [e3]
      by_cases k2 : (a : Int) ∈ lsW w n j
      · rw [if_pos k2]; exact (lsW_mem.1 k2).2.symm
      · rw [if_neg k2]
        refine hw a ha ?_
        have : ¬ w a = j := fun k3 => k2 (lsW_mem.2 ⟨ha, k3⟩)
        omega)
    refine ⟨s2, w2, g1, fun a => ?_, fun a ha hwa => g3 a ha (by omega)⟩
    rw [g2, show j + 1 + k = j + (k + 1) by omega]
theorem isBar_LV {g : Gm} (hg : g.ok) {w : Nat → Nat} (hr : RG w g.n) (hb : Bar g w) : isBar g (LV w g.n) = true := by
  obtain ⟨s, w', e1, e2, e3⟩ := LV_run hr (mx w g.n) 0 none 0 w0 (by omega) (.inl ⟨rfl, rfl⟩) (fun a => by simp) (fun a _ h => absurd h (by omega))
  rw [← List.range_eq_range'] at e1
  unfold isBar
  rw [show runP g.n (LV w g.n) 0 none 0 w0 = some (s, w') from e1]
  dsimp only
  have h1 : s = 2 ^ g.n - 1 := by
    apply Nat.eq_of_testBit_eq
    intro a
    rw [Nat.testBit_two_pow_sub_one, e2]
    have := @mx_lt w a g.n
    by_cases ha : a < g.n
    · rw [decide_eq_true ha]; exact decide_eq_true ⟨ha, by have := this ha; omega⟩
    · rw [decide_eq_false ha]; exact decide_eq_false (fun k => ha k.1)
  have h2 : crN w' g.ws = crN w g.ws := crN_congr (n := g.n) (fun a ha => e3 a ha (by have := mx_lt (w := w) ha; omega)) (ws_ends hg)
  obtain ⟨b1, b2⟩ := hb
  rw [h2, LV_len, decide_eq_true h1, decide_eq_true b1, decide_eq_true (by omega)]
  rfl
end Go.Proofs.YtfphkpdobbffeaaDoor

/-
  The law SwitchPositions, as a contract.
-/
namespace Go.Proofs.YtfphkpdobbffeaaDoor
open Go Go.AH
set_option maxRecDepth 100000
set_option maxHeartbeats 1000000

end Go.Proofs.YtfphkpdobbffeaaDoor

/-
  Contracts: who wins by the reference, with what is known as a law.
-/
namespace Go.Proofs.YtfphkpdobbffeaaDoor
open Go Go.AH
set_option maxRecDepth 100000
set_option maxHeartbeats 1000000

/-- Cells of what is known. -/
def KIc (g : Gm) (cs : List AC) : Prop := ∃ L, KI g L ∧ cs = ints L
end Go.Proofs.YtfphkpdobbffeaaDoor

/-
  Contracts: a list of wires as a set, by the program and by the reference.
-/
namespace Go.Proofs.YtfphkpdobbffeaaDoor
open Go Go.AH
set_option maxRecDepth 100000
set_option maxHeartbeats 1000000

/-- The first elements rise, and are wires. -/
def risTo (n : Nat) (L : List Int) : Nat → Bool
  | 0 => true
  | i + 1 => risTo n L i && (decide (0 ≤ L.getD i 0) && (decide (L.getD i 0 < n) && (decide (i = 0) || decide (L.getD (i - 1) 0 < L.getD i 0))))
theorem risTo_succ (n : Nat) (L : List Int) (i : Nat) : risTo n L (i + 1) = true ↔ risTo n L i = true ∧ 0 ≤ L.getD i 0 ∧ L.getD i 0 < n ∧ (i = 0 ∨ L.getD (i - 1) 0 < L.getD i 0) := by
  simp [risTo]
theorem risTo_up {n : Nat} {L : List Int} {i : Nat} (h : risTo n L i = false) : ∀ j, i ≤ j → risTo n L j = false := by
  intro j hj
  induction j with
  | zero => obtain rfl : i = 0 := by omega
            exact h
  | succ j ih =>
    by_cases e : i = j + 1
    · exact e ▸ h
    · rw [risTo, ih (by omega)]; rfl
def setToL (L : List Int) : Nat → Nat
  | 0 => 0
  | i + 1 => setToL L i ||| 2 ^ (L.getD i 0).toNat
theorem setToL_lt {n : Nat} {L : List Int} : ∀ i, risTo n L i = true → setToL L i < 2 ^ n
  | 0, _ => Nat.pow_pos (by omega)
  | i + 1, h => by
    obtain ⟨h1, h2, h3, _⟩ := (risTo_succ n L i).1 h
    exact or_lt (setToL_lt i h1) ((Nat.pow_lt_pow_iff_right (by omega)).2 (by omega))
def lastOf (L : List Int) (i : Nat) : Int := if i = 0 then -1 else L.getD (i - 1) 0
theorem setR_spec {g : Gm} (hg : g.ok) (L : List Int) (hL : L.length ≤ 1000) : FDet Tryd.prog 71 [.g (gC g 0), .c (.rs 1 0 L.length)] [(0, wB g), (1, .ro (ints L))] 2
    (.t [.c (.int .i64 (cond (risTo g.ws.length L L.length) (setToL L L.length) 0 : Nat)), .c (.bool (risTo g.ws.length L L.length))]) [] 2 := by
  have hgl := hg.len
  refine FSpec.of_body tok true Tryd.func71 rfl (by kernel_rfl) (by decide) (by simp [tupA, hpLt, tmLt, AV.lt, AE.lt, AC.lt, LL_cons, LL_nil, idOk, ABlk.lt, ints_LL, GB, tab64_LL, gC, wB, giC, noneB, gst, tC, pC]) (by simp [tupA, hpLt, tmLt, AV.lt, AE.lt, AC.lt, LL_cons, LL_nil, idOk, ABlk.lt, ints_LL, GB, tab64_LL, gC, wB, giC, noneB, gst, tC, pC]) (by show 2 ≤ _; decide) ?_
  refine Wk.on ?_
  refine Tr.loop (md := true) (X := Nat) (st := fun i => ⟨[(1, .c (.rs 1 0 L.length)), (2, .c (.ptr 2 0)), (6, .c (.int .i64 (setToL L i))), (7, .c (.int .i64 i))], [(2, .own (gC g 0)), (0, wB g), (1, .ro (ints L))], 3, 53, 2⟩) (inv := fun i => i ≤ L.length ∧ risTo g.ws.length L i = true) (μ := fun i => L.length - i) (x0 := 0) (l := []) tok ⟨Nat.zero_le _, rfl⟩ ?_ ?_
  · exact Sub.nil ⟨rfl, rfl, (by simp [tab64_LL, gC, wB, giC, noneB, gst, tC, pC]), rfl, (by simp [tupA, hpLt, tmLt, AV.lt, AE.lt, AC.lt, LL_cons, LL_nil, idOk, ABlk.lt, ints_LL, GB, tab64_LL, gC, wB, giC, noneB, gst, tC, pC]), (by simp [tupA, hpLt, tmLt, AV.lt, AE.lt, AC.lt, LL_cons, LL_nil, idOk, ABlk.lt, ints_LL, GB, tab64_LL, gC, wB, giC, noneB, gst, tC, pC])⟩ (by (repeat (first | exact trivial | refine ⟨trivial, ?_⟩ | refine ⟨rfl, ?_⟩))) (by (repeat (first | exact trivial | refine ⟨trivial, ?_⟩ | refine ⟨rfl, ?_⟩)))
  · rintro i ⟨hi, hr⟩
    have hsl := setToL_lt i hr
    by_cases hil : i < L.length
    · have hnx := risTo_succ g.ws.length L i
      have hss : setToL L (i + 1) = setToL L i ||| 2 ^ (L.getD i 0).toNat := rfl
      have hat : (ints L).getD (0 + (i : Int).toNat * 1) (.int .i64 0) = .int .i64 (L.getD i 0) := by rw [ints_getD, Int.toNat_natCast, Nat.mul_one, Nat.zero_add]
      have hfail : ¬ (0 ≤ L.getD i 0 ∧ L.getD i 0 < g.ws.length ∧ (i = 0 ∨ L.getD (i - 1) 0 < L.getD i 0)) → risTo g.ws.length L L.length = false := fun h => by
        refine risTo_up (i := i + 1) ?_ _ (by omega)
        cases hq : risTo g.ws.length L (i + 1) with
        | false => rfl
        | true => exact absurd (hnx.1 hq).2 h
      have hgo : 0 ≤ L.getD i 0 → L.getD i 0 < g.ws.length → (i = 0 ∨ L.getD (i - 1) 0 < L.getD i 0) → risTo g.ws.length L (i + 1) = true := fun h1 h2 h3 => hnx.2 ⟨hr, h1, h2, h3⟩
      have hat2 : 0 < i → (ints L).getD (0 + ((i : Int) - 1).toNat * 1) (.int .i64 0) = .int .i64 (L.getD (i - 1) 0) := fun h => by rw [ints_getD, show ((i : Int) - 1).toNat = i - 1 by omega, Nat.mul_one, Nat.zero_add]
      refine Wk.on ?_
      rw [decide_eq_true (show ((i : Nat) : Int) < ((L.length : Nat) : Int) by omega)]
      refine Wk.on ?_
      refine Tr.draw (md := true) [⟨[], [15], [], [], []⟩, ⟨[], [14], [0], [], []⟩, ⟨[0, 1], [], [], [], []⟩, ⟨[0, 1, 2], [], [], [], []⟩, ⟨[0, 1, 2, 3], [], [], [], []⟩, ⟨[0, 1, 2, 3, 4], [], [], [], []⟩, ⟨[0, 1, 2, 3, 4, 5], [21, 24, 25, 26], [], [], []⟩, ⟨[0, 1, 2, 3, 4, 5], [20, 24, 25, 26], [6], [], []⟩, ⟨[0, 1, 2, 3, 4, 5, 6, 7], [24, 25, 26], [], [], []⟩, ⟨[0, 1, 2, 3, 4, 5, 6, 7, 8], [24, 25, 26], [], [], []⟩, ⟨[0, 1, 2, 3, 4, 5], [20, 21, 22, 23], [6, 7, 8, 9], [], []⟩, ⟨[0, 1, 2, 3, 4, 5, 10], [20, 21, 22, 23], [6, 7, 8, 9], [], []⟩, ⟨[0, 1, 2, 3, 4, 5, 10, 11], [20, 21, 22, 23], [6, 7, 8, 9], [], []⟩, ⟨[0, 1, 2, 3, 4, 5, 6, 7, 8, 9, 10, 11, 12], [], [], [], []⟩, ⟨[0, 1, 2, 3, 4, 5, 6, 7, 8, 9, 10, 11, 12, 13], [], [], [], []⟩, ⟨[0, 1, 2, 3, 4, 5, 6, 7, 8, 9, 10, 11, 12, 13, 14], [], [], [], []⟩, ⟨[0, 1, 2, 3, 4, 5, 6, 7, 8, 9, 10, 11, 12, 13, 14, 15], [], [], [], []⟩, ⟨[0, 1, 2, 3, 4, 5, 6, 7, 8, 9, 10, 11, 12, 13, 14, 15, 16], [], [], [], []⟩, ⟨[0, 1, 2, 3, 4, 5, 6, 7, 8, 9, 10, 11, 12, 13, 14, 15, 16, 17], [], [], [], []⟩, ⟨[0, 1, 2, 3, 4, 5, 6, 7, 8, 9, 10, 11, 12, 13, 14, 15, 16, 17, 18], [34, 35, 38, 39, 40, 41], [], [], []⟩, ⟨[0, 1, 2, 3, 4, 5, 6, 7, 8, 9, 10, 11, 12, 13, 14, 15, 16, 17, 18], [33, 38, 39, 40, 41], [19], [], []⟩, ⟨[0, 1, 2, 3, 4, 5, 6, 7, 8, 9, 10, 11, 12, 13, 14, 15, 16, 17, 18, 20], [33, 38, 39, 40, 41], [19], [], []⟩, ⟨[0, 1, 2, 3, 4, 5, 6, 7, 8, 9, 10, 11, 12, 13, 14, 15, 16, 17, 18, 19, 20, 21], [38, 39, 40, 41], [], [], []⟩, ⟨[0, 1, 2, 3, 4, 5, 6, 7, 8, 9, 10, 11, 12, 13, 14, 15, 16, 17, 18, 19, 20, 21, 22], [38, 39, 40, 41], [], [], []⟩, ⟨[0, 1, 2, 3, 4, 5, 6, 7, 8, 9, 10, 11, 12, 13, 14, 15, 16, 17, 18], [33, 34, 35, 36, 37, 39], [19, 20, 21, 22, 23], [], []⟩, ⟨[0, 1, 2, 3, 4, 5, 6, 7, 8, 9, 10, 11, 12, 13, 14, 15, 16, 17, 18], [33, 34, 35, 36, 37, 38], [19, 20, 21, 22, 23, 24], [], []⟩, ⟨[0, 1, 2, 3, 4, 5, 6, 7, 8, 9, 10, 11, 12, 13, 14, 15, 16, 17, 18, 24, 25], [33, 34, 35, 36, 37], [19, 20, 21, 22, 23], [], []⟩, ⟨[0, 1, 2, 3, 4, 5, 6, 7, 8, 9, 10, 11, 12, 13, 14, 15, 16, 17, 18, 24, 25, 26], [33, 34, 35, 36, 37], [19, 20, 21, 22, 23], [], []⟩] tok (by kernel_rfl) (by kernel_rfl) ?_
      refine Wk.on ?_
      refine ⟨by rw [ints_len, Int.toNat_natCast]; omega, ?_⟩
      rw [hat]
      generalize hc : L.getD i 0 = c at *
      generalize hc' : L.getD (i - 1) 0 = c' at *
      refine Wk.on ?_
      by_cases c1 : c < 0
      · have hf := hfail (by omega)
        rw [hf, decide_eq_true c1]
        refine Wk.on ?_
        exact AH.Fin.nil [] ⟨rfl, rfl, rfl⟩ (by first | exact trivial | (simp [tupA, hpLt, tmLt, AV.lt, AE.lt, AC.lt, LL_cons, LL_nil, idOk, ABlk.lt, ints_LL, GB, tab64_LL, gC, wB, giC, noneB, gst, tC, pC]; done) | (simp [tupA, hpLt, tmLt, AV.lt, AE.lt, AC.lt, LL_cons, LL_nil, idOk, ABlk.lt, ints_LL, GB, tab64_LL, gC, wB, giC, noneB, gst, tC, pC, rdn, wrn]; done)) trivial trivial rfl (by simp [GB])
      rw [decide_eq_false c1]
      refine Wk.on ?_
      refine ⟨by rw [ints_len, Int.toNat_natCast]; omega, ?_⟩
      rw [hat]
      refine Wk.on ?_
      by_cases c2 : (g.ws.length : Int) ≤ c
      · have hf := hfail (by omega)
        rw [hf, decide_eq_true c2]
        refine Wk.on ?_
        exact AH.Fin.nil [] ⟨rfl, rfl, rfl⟩ (by first | exact trivial | (simp [tupA, hpLt, tmLt, AV.lt, AE.lt, AC.lt, LL_cons, LL_nil, idOk, ABlk.lt, ints_LL, GB, tab64_LL, gC, wB, giC, noneB, gst, tC, pC]; done) | (simp [tupA, hpLt, tmLt, AV.lt, AE.lt, AC.lt, LL_cons, LL_nil, idOk, ABlk.lt, ints_LL, GB, tab64_LL, gC, wB, giC, noneB, gst, tC, pC, rdn, wrn]; done)) trivial trivial rfl (by simp [GB])
      rw [decide_eq_false c2]
      refine Wk.on ?_
      by_cases c3 : 0 < i
      · rw [decide_eq_true (show (0 : Int) < ((i : Nat) : Int) by omega)]
        refine Wk.on ?_
        refine ⟨by rw [ints_len]; omega, ?_⟩
        rw [hat2 c3]
        refine Wk.on ?_
        refine ⟨by rw [ints_len, Int.toNat_natCast]; omega, ?_⟩
        rw [hat]
        refine Wk.on ?_
        by_cases c4 : c ≤ c'
        · have hf := hfail (by omega)
          rw [hf, decide_eq_true c4]
          refine Wk.on ?_
          exact AH.Fin.nil [] ⟨rfl, rfl, rfl⟩ (by first | exact trivial | (simp [tupA, hpLt, tmLt, AV.lt, AE.lt, AC.lt, LL_cons, LL_nil, idOk, ABlk.lt, ints_LL, GB, tab64_LL, gC, wB, giC, noneB, gst, tC, pC]; done) | (simp [tupA, hpLt, tmLt, AV.lt, AE.lt, AC.lt, LL_cons, LL_nil, idOk, ABlk.lt, ints_LL, GB, tab64_LL, gC, wB, giC, noneB, gst, tC, pC, rdn, wrn]; done)) trivial trivial rfl (by simp [GB])
        rw [decide_eq_false c4]
        have hgo2 := hgo (by omega) (by omega) (.inr (by omega))
        obtain ⟨w, rfl⟩ : ∃ w : Nat, c = w := ⟨c.toNat, by omega⟩
        obtain ⟨q, hq⟩ : ∃ q, q = 2 ^ w := ⟨_, rfl⟩
        have hpi : q < 2048 := hq ▸ pow_small (by omega)
        have hp2 : 2 ^ g.ws.length ≤ 1024 := Nat.pow_le_pow_right (by omega) hgl
        rw [Int.toNat_natCast, ← hq] at hss
        refine Wk.on ?_
        refine ⟨by rw [ints_len, Int.toNat_natCast]; omega, ?_⟩
        rw [hat]
        refine Wk.on ?_
        refine ⟨⟨by omega, by omega, by rw [shl1 hq]; unfold I64; omega⟩, ?_⟩
        rw [shl1 hq]
        refine Wk.on ?_
        refine Again.mk (i + 1) (Sub.nil ⟨rfl, rfl, (by simp [tab64_LL, gC, wB, giC, noneB, gst, tC, pC]), rfl, (by simp [tupA, hpLt, tmLt, AV.lt, AE.lt, AC.lt, LL_cons, LL_nil, idOk, ABlk.lt, ints_LL, GB, tab64_LL, gC, wB, giC, noneB, gst, tC, pC]), (by simp [tupA, hpLt, tmLt, AV.lt, AE.lt, AC.lt, LL_cons, LL_nil, idOk, ABlk.lt, ints_LL, GB, tab64_LL, gC, wB, giC, noneB, gst, tC, pC])⟩ ⟨rfl, rfl, by rw [hss]; rfl, rfl, trivial⟩ (by (repeat (first | exact trivial | refine ⟨trivial, ?_⟩ | refine ⟨rfl, ?_⟩)))) ⟨by omega, hgo2⟩ (by omega)
      · rw [decide_eq_false (show ¬ (0 : Int) < ((i : Nat) : Int) by omega)]
        have hgo2 := hgo (by omega) (by omega) (.inl (by omega))
        obtain ⟨w, rfl⟩ : ∃ w : Nat, c = w := ⟨c.toNat, by omega⟩
        obtain ⟨q, hq⟩ : ∃ q, q = 2 ^ w := ⟨_, rfl⟩
        have hpi : q < 2048 := hq ▸ pow_small (by omega)
        have hp2 : 2 ^ g.ws.length ≤ 1024 := Nat.pow_le_pow_right (by omega) hgl
        rw [Int.toNat_natCast, ← hq] at hss
        refine Wk.on ?_
        refine ⟨by rw [ints_len, Int.toNat_natCast]; omega, ?_⟩
        rw [hat]
        refine Wk.on ?_
        refine ⟨⟨by omega, by omega, by rw [shl1 hq]; unfold I64; omega⟩, ?_⟩
        rw [shl1 hq]
        refine Wk.on ?_
        refine Again.mk (i + 1) (Sub.nil ⟨rfl, rfl, (by simp [tab64_LL, gC, wB, giC, noneB, gst, tC, pC]), rfl, (by simp [tupA, hpLt, tmLt, AV.lt, AE.lt, AC.lt, LL_cons, LL_nil, idOk, ABlk.lt, ints_LL, GB, tab64_LL, gC, wB, giC, noneB, gst, tC, pC]), (by simp [tupA, hpLt, tmLt, AV.lt, AE.lt, AC.lt, LL_cons, LL_nil, idOk, ABlk.lt, ints_LL, GB, tab64_LL, gC, wB, giC, noneB, gst, tC, pC])⟩ ⟨rfl, rfl, by rw [hss]; rfl, rfl, trivial⟩ (by (repeat (first | exact trivial | refine ⟨trivial, ?_⟩ | refine ⟨rfl, ?_⟩)))) ⟨by omega, hgo2⟩ (by omega)
    · obtain rfl : i = L.length := by omega
      rw [hr]
      refine Wk.on ?_
      rw [decide_eq_false (show ¬ ((L.length : Nat) : Int) < ((L.length : Nat) : Int) by omega)]
      intro _
      refine Wk.on ?_
      exact AH.Fin.nil [] ⟨rfl, rfl, rfl⟩ (by first | exact trivial | (simp [tupA, hpLt, tmLt, AV.lt, AE.lt, AC.lt, LL_cons, LL_nil, idOk, ABlk.lt, ints_LL, GB, tab64_LL, gC, wB, giC, noneB, gst, tC, pC]; done) | (simp [tupA, hpLt, tmLt, AV.lt, AE.lt, AC.lt, LL_cons, LL_nil, idOk, ABlk.lt, ints_LL, GB, tab64_LL, gC, wB, giC, noneB, gst, tC, pC, rdn, wrn]; done)) trivial trivial rfl (by simp [GB])
end Go.Proofs.YtfphkpdobbffeaaDoor

/-
  Contracts: the places of a set, by the reference.
-/
namespace Go.Proofs.YtfphkpdobbffeaaDoor
open Go Go.AH
set_option maxRecDepth 100000
set_option maxHeartbeats 1000000

def placesTo (g : Gm) (a : Nat) (i : Nat) : Nat := (((List.range i).filter a.testBit).map Int.ofNat).foldl (placesF g) 0
theorem placesTo_succ (g : Gm) (a i : Nat) : placesTo g a (i + 1) = if a.testBit i then placesF g (placesTo g a i) (i : Int) else placesTo g a i := by
  simp only [placesTo, List.range_succ, List.filter_append, List.map_append, List.foldl_append]
  cases h : a.testBit i <;> simp [h, List.filter_cons]
theorem placesTo_lt {g : Gm} (hg : g.ok) (a i : Nat) (hi : i ≤ g.ws.length) : placesTo g a i < 2 ^ 8 :=
  placesN_lt hg _ fun y hy => by
    obtain ⟨j, hj, rfl⟩ := List.mem_map.1 hy
    have := List.mem_range.1 (List.mem_filter.1 hj).1
    show j < _
    omega
theorem places_eq {g : Gm} (hg : g.ok) {a : Nat} (ha : a < 2 ^ g.ws.length) : placesN g a = placesTo g a g.ws.length := by
  rw [placesN, placesTo, mem, memN, range_filter _ 10 hg.len fun i hi => by
    cases h : a.testBit i with
    | false => rfl
    | true => have := lt_len ha h; omega]
theorem placesR_spec {g : Gm} (hg : g.ok) {n : Nat} (hn : n < 2 ^ g.ws.length) : FDet Tryd.prog 68 [.g (gC g 0), .c (.int .i64 n)] [(0, wB g)] 1 (.c (.int .i64 (placesN g n))) [] 1 := by
  have hgl := hg.len
  rw [places_eq hg hn]
  refine FSpec.of_body tok true Tryd.func68 rfl (by kernel_rfl) (by decide) (by simp [tupA, hpLt, tmLt, AV.lt, AE.lt, AC.lt, LL_cons, LL_nil, idOk, ABlk.lt, ints_LL, GB, tab64_LL, gC, wB, giC, noneB, gst, tC, pC]) (by simp [tupA, hpLt, tmLt, AV.lt, AE.lt, AC.lt, LL_cons, LL_nil, idOk, ABlk.lt, ints_LL, GB, tab64_LL, gC, wB, giC, noneB, gst, tC, pC]) (by show 2 ≤ _; decide) ?_
  (conv => whnf); (repeat ((first | (refine ⟨rfl, ?_⟩) | (refine ⟨trivial, ?_⟩) | (refine Wk.yes ?_) | (refine Wk.no ?_) | (refine Wk.and ?_) | (refine ⟨by exact ⟨shr_nonneg _ _, by decide⟩, ?_⟩) | (refine ⟨by exact ⟨shr_nonneg' _ _, by decide⟩, ?_⟩)); (conv => whnf)))
  refine Tr.loop (md := true) (X := Nat) (st := fun i => ⟨[(1, .c (.int .i64 n)), (2, .c (.ptr 1 0)), (5, .c (.int .i64 (placesTo g n i))), (6, .c (.int .i64 i))], [(1, .own (gC g 0)), (0, wB g)], 2, 37, 1⟩) (inv := fun i => i ≤ g.ws.length) (μ := fun i => g.ws.length - i) (x0 := 0) (l := []) tok (Nat.zero_le _) ?_ ?_
  · exact Sub.nil ⟨rfl, rfl, (by simp [tab64_LL, gC, wB, giC, noneB, gst, tC, pC]), rfl, (by simp [tupA, hpLt, tmLt, AV.lt, AE.lt, AC.lt, LL_cons, LL_nil, idOk, ABlk.lt, ints_LL, GB, tab64_LL, gC, wB, giC, noneB, gst, tC, pC]), (by simp [tupA, hpLt, tmLt, AV.lt, AE.lt, AC.lt, LL_cons, LL_nil, idOk, ABlk.lt, ints_LL, GB, tab64_LL, gC, wB, giC, noneB, gst, tC, pC])⟩ (by (repeat (first | exact trivial | refine ⟨trivial, ?_⟩ | refine ⟨rfl, ?_⟩))) (by (repeat (first | exact trivial | refine ⟨trivial, ?_⟩ | refine ⟨rfl, ?_⟩)))
  · intro i hi
    have hpl := placesTo_lt hg n i hi
    by_cases hil : i < g.ws.length
    · have hps := placesTo_succ g n i
      (conv => whnf); (repeat ((first | (refine ⟨rfl, ?_⟩) | (refine ⟨trivial, ?_⟩) | (refine Wk.yes ?_) | (refine Wk.no ?_) | (refine Wk.and ?_) | (refine ⟨by exact ⟨shr_nonneg _ _, by decide⟩, ?_⟩) | (refine ⟨by exact ⟨shr_nonneg' _ _, by decide⟩, ?_⟩)); (conv => whnf)))
      rw [decide_eq_true (show ((i : Nat) : Int) < ((g.ws.length : Nat) : Int) by omega)]
      (conv => whnf); (repeat ((first | (refine ⟨rfl, ?_⟩) | (refine ⟨trivial, ?_⟩) | (refine Wk.yes ?_) | (refine Wk.no ?_) | (refine Wk.and ?_) | (refine ⟨by exact ⟨shr_nonneg _ _, by decide⟩, ?_⟩) | (refine ⟨by exact ⟨shr_nonneg' _ _, by decide⟩, ?_⟩)); (conv => whnf)))
      rw [bitE]
      by_cases b1 : n.testBit i = true
      · have b2 := (bit_test n i).2 b1
        rw [if_pos b1, placesF, Int.toNat_natCast] at hps
        rw [decide_eq_true (show ((bit n i : Nat) : Int) = 1 by omega)]
        have he := hg.ends i hil
        have h8 := hg.n8
        obtain ⟨w1, hw1⟩ : ∃ w, w = (g.ws.getD i (0, 0)).1 := ⟨_, rfl⟩
        obtain ⟨w2, hw2⟩ : ∃ w, w = (g.ws.getD i (0, 0)).2 := ⟨_, rfl⟩
        obtain ⟨q1, hq1⟩ : ∃ q, q = 2 ^ w1 := ⟨_, rfl⟩
        obtain ⟨q2, hq2⟩ : ∃ q, q = 2 ^ w2 := ⟨_, rfl⟩
        have p1 : q1 < 2 ^ 8 := by rw [hq1]; exact (Nat.pow_lt_pow_iff_right (by omega)).2 (by omega)
        have p2 : q2 < 2 ^ 8 := by rw [hq2]; exact (Nat.pow_lt_pow_iff_right (by omega)).2 (by omega)
        have h12 := or_lt hpl p1
        obtain ⟨q3, hq3⟩ : ∃ q, q = placesTo g n i ||| q1 := ⟨_, rfl⟩
        rw [← hq3] at h12
        rw [← hw1, ← hw2, ← hq1, ← hq2, ← Nat.or_assoc, ← hq3] at hps
        have hlen : 0 + (i : Int).toNat * 2 + Int.toNat 0 * 1 + 1 ≤ (ints (fl g.ws)).length ∧ 0 + (i : Int).toNat * 2 + Int.toNat 1 * 1 + 1 ≤ (ints (fl g.ws)).length := by
          rw [ints_len, fl_len]; simp; omega
        have g0 : (ints (fl g.ws)).getD (0 + (i : Int).toNat * 2 + Int.toNat 0 * 1) (.int .i64 0) = .int .i64 (w1 : Nat) := by rw [Int.toNat_natCast, wget0, hw1]
        have g1 : (ints (fl g.ws)).getD (0 + (i : Int).toNat * 2 + Int.toNat 1 * 1) (.int .i64 0) = .int .i64 (w2 : Nat) := by rw [Int.toNat_natCast, wget1, hw2]
        (conv => whnf); (repeat ((first | (refine ⟨rfl, ?_⟩) | (refine ⟨trivial, ?_⟩) | (refine Wk.yes ?_) | (refine Wk.no ?_) | (refine Wk.and ?_) | (refine ⟨by exact ⟨shr_nonneg _ _, by decide⟩, ?_⟩) | (refine ⟨by exact ⟨shr_nonneg' _ _, by decide⟩, ?_⟩)); (conv => whnf)))
        refine Tr.draw (md := true) [⟨[], [20, 21, 22, 23, 24, 25, 26, 28, 29, 30, 31, 32, 33, 34], [], [], []⟩, ⟨[], [19, 22, 28, 29, 30, 31, 32, 33, 34], [0], [], []⟩, ⟨[1], [19, 22, 28, 29, 30, 31, 32, 33, 34], [0], [], []⟩, ⟨[], [19, 20, 21, 28, 29, 30, 31, 32, 33, 34], [0, 1, 2], [], []⟩, ⟨[1, 2, 3], [19, 28, 29, 30, 31, 32, 33, 34], [0], [], []⟩, ⟨[1, 2, 3, 4], [19, 28, 29, 30, 31, 32, 33, 34], [0], [], []⟩, ⟨[1, 2, 3, 4, 5], [19, 28, 29, 30, 31, 32, 33, 34], [0], [], []⟩, ⟨[1, 2, 3, 4, 5, 6], [19, 28, 29, 30, 31, 32, 33, 34], [0], [], []⟩, ⟨[0, 1, 2, 3, 4, 5, 6, 7], [28, 29, 30, 31, 32, 33, 34], [], [], []⟩, ⟨[], [19, 20, 21, 22, 23, 24, 25, 26, 27, 30], [0, 1, 2, 3, 4, 5, 6, 7, 8], [], []⟩, ⟨[9], [19, 20, 21, 22, 23, 24, 25, 26, 27, 30], [0, 1, 2, 3, 4, 5, 6, 7, 8], [], []⟩, ⟨[], [19, 20, 21, 22, 23, 24, 25, 26, 27, 28, 29], [0, 1, 2, 3, 4, 5, 6, 7, 8, 9, 10], [], []⟩, ⟨[9, 10, 11], [19, 20, 21, 22, 23, 24, 25, 26, 27], [0, 1, 2, 3, 4, 5, 6, 7, 8], [], []⟩, ⟨[9, 10, 11, 12], [19, 20, 21, 22, 23, 24, 25, 26, 27], [0, 1, 2, 3, 4, 5, 6, 7, 8], [], []⟩, ⟨[9, 10, 11, 12, 13], [19, 20, 21, 22, 23, 24, 25, 26, 27], [0, 1, 2, 3, 4, 5, 6, 7, 8], [], []⟩, ⟨[9, 10, 11, 12, 13, 14], [19, 20, 21, 22, 23, 24, 25, 26, 27], [0, 1, 2, 3, 4, 5, 6, 7, 8], [], []⟩] tok (by kernel_rfl) (by kernel_rfl) ?_
        (conv => whnf); (repeat ((first | (refine ⟨rfl, ?_⟩) | (refine ⟨trivial, ?_⟩) | (refine Wk.yes ?_) | (refine Wk.no ?_) | (refine Wk.and ?_) | (refine ⟨by exact ⟨shr_nonneg _ _, by decide⟩, ?_⟩) | (refine ⟨by exact ⟨shr_nonneg' _ _, by decide⟩, ?_⟩)); (conv => whnf)))
        rw [g0]
        (conv => whnf); (repeat ((first | (refine ⟨rfl, ?_⟩) | (refine ⟨trivial, ?_⟩) | (refine Wk.yes ?_) | (refine Wk.no ?_) | (refine Wk.and ?_) | (refine ⟨by exact ⟨shr_nonneg _ _, by decide⟩, ?_⟩) | (refine ⟨by exact ⟨shr_nonneg' _ _, by decide⟩, ?_⟩)); (conv => whnf)))
        refine ⟨⟨by omega, by omega, by rw [shl1 hq1]; unfold I64; omega⟩, ?_⟩
        rw [shl1 hq1]
        (conv => whnf); (repeat ((first | (refine ⟨rfl, ?_⟩) | (refine ⟨trivial, ?_⟩) | (refine Wk.yes ?_) | (refine Wk.no ?_) | (refine Wk.and ?_) | (refine ⟨by exact ⟨shr_nonneg _ _, by decide⟩, ?_⟩) | (refine ⟨by exact ⟨shr_nonneg' _ _, by decide⟩, ?_⟩)); (conv => whnf)))
        simp only [Int.toNat_natCast, ← hq3]
        rw [wget1, ← hw2]
        (conv => whnf); (repeat ((first | (refine ⟨rfl, ?_⟩) | (refine ⟨trivial, ?_⟩) | (refine Wk.yes ?_) | (refine Wk.no ?_) | (refine Wk.and ?_) | (refine ⟨by exact ⟨shr_nonneg _ _, by decide⟩, ?_⟩) | (refine ⟨by exact ⟨shr_nonneg' _ _, by decide⟩, ?_⟩)); (conv => whnf)))
        refine ⟨⟨by omega, by omega, by rw [shl1 hq2]; unfold I64; omega⟩, ?_⟩
        rw [shl1 hq2]
        (conv => whnf); (repeat ((first | (refine ⟨rfl, ?_⟩) | (refine ⟨trivial, ?_⟩) | (refine Wk.yes ?_) | (refine Wk.no ?_) | (refine Wk.and ?_) | (refine ⟨by exact ⟨shr_nonneg _ _, by decide⟩, ?_⟩) | (refine ⟨by exact ⟨shr_nonneg' _ _, by decide⟩, ?_⟩)); (conv => whnf)))
        refine Again.mk (i + 1) (Sub.nil ⟨rfl, rfl, (by simp [tab64_LL, gC, wB, giC, noneB, gst, tC, pC]), rfl, (by simp [tupA, hpLt, tmLt, AV.lt, AE.lt, AC.lt, LL_cons, LL_nil, idOk, ABlk.lt, ints_LL, GB, tab64_LL, gC, wB, giC, noneB, gst, tC, pC]), (by simp [tupA, hpLt, tmLt, AV.lt, AE.lt, AC.lt, LL_cons, LL_nil, idOk, ABlk.lt, ints_LL, GB, tab64_LL, gC, wB, giC, noneB, gst, tC, pC])⟩ ⟨rfl, rfl, by rw [hps]; rfl, rfl, trivial⟩ (by (repeat (first | exact trivial | refine ⟨trivial, ?_⟩ | refine ⟨rfl, ?_⟩)))) (by omega) (by omega)
      · have b2 : ¬ bit n i = 1 := fun h => b1 ((bit_test n i).1 h)
        rw [if_neg b1] at hps
        rw [decide_eq_false (show ¬ ((bit n i : Nat) : Int) = 1 by omega)]
        (conv => whnf); (repeat ((first | (refine ⟨rfl, ?_⟩) | (refine ⟨trivial, ?_⟩) | (refine Wk.yes ?_) | (refine Wk.no ?_) | (refine Wk.and ?_) | (refine ⟨by exact ⟨shr_nonneg _ _, by decide⟩, ?_⟩) | (refine ⟨by exact ⟨shr_nonneg' _ _, by decide⟩, ?_⟩)); (conv => whnf)))
        refine Again.mk (i + 1) (Sub.nil ⟨rfl, rfl, (by simp [tab64_LL, gC, wB, giC, noneB, gst, tC, pC]), rfl, (by simp [tupA, hpLt, tmLt, AV.lt, AE.lt, AC.lt, LL_cons, LL_nil, idOk, ABlk.lt, ints_LL, GB, tab64_LL, gC, wB, giC, noneB, gst, tC, pC]), (by simp [tupA, hpLt, tmLt, AV.lt, AE.lt, AC.lt, LL_cons, LL_nil, idOk, ABlk.lt, ints_LL, GB, tab64_LL, gC, wB, giC, noneB, gst, tC, pC])⟩ ⟨rfl, rfl, by rw [hps]; rfl, rfl, trivial⟩ (by (repeat (first | exact trivial | refine ⟨trivial, ?_⟩ | refine ⟨rfl, ?_⟩)))) (by omega) (by omega)
    · obtain rfl : i = g.ws.length := by omega
      (conv => whnf); (repeat ((first | (refine ⟨rfl, ?_⟩) | (refine ⟨trivial, ?_⟩) | (refine Wk.yes ?_) | (refine Wk.no ?_) | (refine Wk.and ?_) | (refine ⟨by exact ⟨shr_nonneg _ _, by decide⟩, ?_⟩) | (refine ⟨by exact ⟨shr_nonneg' _ _, by decide⟩, ?_⟩)); (conv => whnf)))
      rw [decide_eq_false (show ¬ ((g.ws.length : Nat) : Int) < ((g.ws.length : Nat) : Int) by omega)]
      intro _
      (conv => whnf); (repeat ((first | (refine ⟨rfl, ?_⟩) | (refine ⟨trivial, ?_⟩) | (refine Wk.yes ?_) | (refine Wk.no ?_) | (refine Wk.and ?_) | (refine ⟨by exact ⟨shr_nonneg _ _, by decide⟩, ?_⟩) | (refine ⟨by exact ⟨shr_nonneg' _ _, by decide⟩, ?_⟩)); (conv => whnf)))
      exact AH.Fin.nil [] ⟨rfl, rfl, rfl⟩ (by first | exact trivial | (simp [tupA, hpLt, tmLt, AV.lt, AE.lt, AC.lt, LL_cons, LL_nil, idOk, ABlk.lt, ints_LL, GB, tab64_LL, gC, wB, giC, noneB, gst, tC, pC]; done) | (simp [tupA, hpLt, tmLt, AV.lt, AE.lt, AC.lt, LL_cons, LL_nil, idOk, ABlk.lt, ints_LL, GB, tab64_LL, gC, wB, giC, noneB, gst, tC, pC, rdn, wrn]; done)) trivial trivial rfl (by simp [GB])
end Go.Proofs.YtfphkpdobbffeaaDoor

/-
  Contracts: two lists as two trees, by the reference.
-/
namespace Go.Proofs.YtfphkpdobbffeaaDoor
open Go Go.AH
set_option maxRecDepth 100000
set_option maxHeartbeats 1000000

def setV (n : Nat) (L : List Int) : Nat := cond (risTo n L L.length) (setToL L L.length) 0
def setOk (n : Nat) (L : List Int) : Bool := risTo n L L.length
theorem setV_lt (n : Nat) (L : List Int) : setV n L < 2 ^ n := by
  unfold setV
  cases h : risTo n L L.length with
  | true => exact setToL_lt _ h
  | false => exact Nat.pow_pos (by omega)
/-- Two sets are two trees, for the reference. -/
def areR (g : Gm) (x y : Bool) (a b : Nat) : Bool := x && (y && (decide (a &&& b = 0) && (decide (bit (placesN g a) g.s = 1) && (decide (bit (placesN g a) g.t = 1) && (treeR g a (placesN g a) && treeR g b (placesN g a))))))
theorem isTreesR_spec {g : Gm} (hg : g.ok) (L0 L1 : List Int) (h0 : L0.length ≤ 1000) (h1 : L1.length ≤ 1000) : FDet Tryd.prog 30 [.g (gC g 0), .g [.rs 1 0 L0.length, .rs 2 0 L1.length], .c (.bool false)] [(0, wB g), (1, .ro (ints L0)), (2, .ro (ints L1))] 3
    (.c (.bool (areR g (setOk g.ws.length L0) (setOk g.ws.length L1) (setV g.ws.length L0) (setV g.ws.length L1)))) [] 3 := by
  have hgl := hg.len
  have s0 := setR_spec hg L0 h0
  have s1 := setR_spec hg L1 h1
  have ha := setV_lt g.ws.length L0
  have hb := setV_lt g.ws.length L1
  change FDet _ _ _ _ _ (.t [.c (.int .i64 (setV g.ws.length L0 : Nat)), .c (.bool (setOk g.ws.length L0))]) _ _ at s0
  change FDet _ _ _ _ _ (.t [.c (.int .i64 (setV g.ws.length L1 : Nat)), .c (.bool (setOk g.ws.length L1))]) _ _ at s1
  generalize setV g.ws.length L0 = a at *
  generalize setV g.ws.length L1 = b at *
  generalize setOk g.ws.length L0 = x at *
  generalize setOk g.ws.length L1 = y at *
  have hp2 : 2 ^ g.ws.length ≤ 1024 := Nat.pow_le_pow_right (by omega) hgl
  have hpl : placesN g a < 2 ^ 8 := placesN_lt hg _ fun y hy => (mem_lt hgl ha hy).2
  have hs8 := hg.s
  have ht8 := hg.t
  have hn8 := hg.n8
  have c1 := bit_01 (placesN g a) g.s
  have c2 := bit_01 (placesN g a) g.t
  have hta := tree_spec hg (set := a) (pl := placesN g a) (by omega) (by omega)
  have htb := tree_spec hg (set := b) (pl := placesN g a) (by omega) (by omega)
  have hare : areR g x y a b = (x && (y && (decide (a &&& b = 0) && (decide (bit (placesN g a) g.s = 1) && (decide (bit (placesN g a) g.t = 1) && (treeR g a (placesN g a) && treeR g b (placesN g a))))))) := rfl
  generalize treeR g a (placesN g a) = ta at *
  generalize treeR g b (placesN g a) = tb at *
  refine FSpec.of_body tok true Tryd.func30 rfl (by kernel_rfl) (by decide) (by simp [tupA, hpLt, tmLt, AV.lt, AE.lt, AC.lt, LL_cons, LL_nil, idOk, ABlk.lt, ints_LL, GB, tab64_LL, gC, wB, giC, noneB, gst, tC, pC]) (by simp [tupA, hpLt, tmLt, AV.lt, AE.lt, AC.lt, LL_cons, LL_nil, idOk, ABlk.lt, ints_LL, GB, tab64_LL, gC, wB, giC, noneB, gst, tC, pC]) (by show 3 ≤ _; decide) ?_
  (conv => whnf); (repeat ((first | (refine ⟨rfl, ?_⟩) | (refine ⟨trivial, ?_⟩) | (refine Wk.yes ?_) | (refine Wk.no ?_) | (refine Wk.and ?_) | (refine ⟨by exact ⟨shr_nonneg _ _, by decide⟩, ?_⟩) | (refine ⟨by exact ⟨shr_nonneg' _ _, by decide⟩, ?_⟩)); (conv => whnf)))
  refine CallA.ro [0, 1] (.t [.c (.int .i64 a), .c (.bool x)]) (s0) (by first | rfl | exact congrArg AV.g (ints_ren _ _) | (simp [ints_ren, AV.ren, ABlk.ren, AC.ren, AE.ren, qq]; done)) rfl (by (repeat (first | exact trivial | refine ⟨⟨(by first | exact .inl (by decide) | exact .inr (by decide)), (by first | (refine Or.inl ?_; first | rfl | exact congrArg some (ints_ren _ _).symm | exact congrArg ABlk.own (ints_ren _ _).symm | exact congrArg some (tab64_ren _).symm) | rfl | exact congrArg some (ints_ren _ _).symm | exact congrArg ABlk.own (ints_ren _ _).symm | exact congrArg some (tab64_ren _).symm | exact Or.inr ⟨rfl, rfl⟩)⟩, ?_⟩))) (by first | rfl | exact congrArg AV.g (ints_ren _ _) | (simp [ints_ren, AV.ren, ABlk.ren, AC.ren, AE.ren, qq]; done)) ?_
  (conv => whnf); (repeat ((first | (refine ⟨rfl, ?_⟩) | (refine ⟨trivial, ?_⟩) | (refine Wk.yes ?_) | (refine Wk.no ?_) | (refine Wk.and ?_) | (refine ⟨by exact ⟨shr_nonneg _ _, by decide⟩, ?_⟩) | (refine ⟨by exact ⟨shr_nonneg' _ _, by decide⟩, ?_⟩)); (conv => whnf)))
  refine CallA.ro [0, 2] (.t [.c (.int .i64 b), .c (.bool y)]) (s1) (by first | rfl | exact congrArg AV.g (ints_ren _ _) | (simp [ints_ren, AV.ren, ABlk.ren, AC.ren, AE.ren, qq]; done)) rfl (by (repeat (first | exact trivial | refine ⟨⟨(by first | exact .inl (by decide) | exact .inr (by decide)), (by first | (refine Or.inl ?_; first | rfl | exact congrArg some (ints_ren _ _).symm | exact congrArg ABlk.own (ints_ren _ _).symm | exact congrArg some (tab64_ren _).symm) | rfl | exact congrArg some (ints_ren _ _).symm | exact congrArg ABlk.own (ints_ren _ _).symm | exact congrArg some (tab64_ren _).symm | exact Or.inr ⟨rfl, rfl⟩)⟩, ?_⟩))) (by first | rfl | exact congrArg AV.g (ints_ren _ _) | (simp [ints_ren, AV.ren, ABlk.ren, AC.ren, AE.ren, qq]; done)) ?_
  rw [hare]
  cases x with
  | false =>
    (conv => whnf); (repeat ((first | (refine ⟨rfl, ?_⟩) | (refine ⟨trivial, ?_⟩) | (refine Wk.yes ?_) | (refine Wk.no ?_) | (refine Wk.and ?_) | (refine ⟨by exact ⟨shr_nonneg _ _, by decide⟩, ?_⟩) | (refine ⟨by exact ⟨shr_nonneg' _ _, by decide⟩, ?_⟩)); (conv => whnf)))
    exact AH.Fin.nil [] ⟨rfl, rfl, rfl⟩ (by first | exact trivial | (simp [tupA, hpLt, tmLt, AV.lt, AE.lt, AC.lt, LL_cons, LL_nil, idOk, ABlk.lt, ints_LL, GB, tab64_LL, gC, wB, giC, noneB, gst, tC, pC]; done) | (simp [tupA, hpLt, tmLt, AV.lt, AE.lt, AC.lt, LL_cons, LL_nil, idOk, ABlk.lt, ints_LL, GB, tab64_LL, gC, wB, giC, noneB, gst, tC, pC, rdn, wrn]; done)) trivial trivial rfl (by simp [GB])
  | true =>
  cases y with
  | false =>
    (conv => whnf); (repeat ((first | (refine ⟨rfl, ?_⟩) | (refine ⟨trivial, ?_⟩) | (refine Wk.yes ?_) | (refine Wk.no ?_) | (refine Wk.and ?_) | (refine ⟨by exact ⟨shr_nonneg _ _, by decide⟩, ?_⟩) | (refine ⟨by exact ⟨shr_nonneg' _ _, by decide⟩, ?_⟩)); (conv => whnf)))
    exact AH.Fin.nil [] ⟨rfl, rfl, rfl⟩ (by first | exact trivial | (simp [tupA, hpLt, tmLt, AV.lt, AE.lt, AC.lt, LL_cons, LL_nil, idOk, ABlk.lt, ints_LL, GB, tab64_LL, gC, wB, giC, noneB, gst, tC, pC]; done) | (simp [tupA, hpLt, tmLt, AV.lt, AE.lt, AC.lt, LL_cons, LL_nil, idOk, ABlk.lt, ints_LL, GB, tab64_LL, gC, wB, giC, noneB, gst, tC, pC, rdn, wrn]; done)) trivial trivial rfl (by simp [GB])
  | true =>
  (conv => whnf); (repeat ((first | (refine ⟨rfl, ?_⟩) | (refine ⟨trivial, ?_⟩) | (refine Wk.yes ?_) | (refine Wk.no ?_) | (refine Wk.and ?_) | (refine ⟨by exact ⟨shr_nonneg _ _, by decide⟩, ?_⟩) | (refine ⟨by exact ⟨shr_nonneg' _ _, by decide⟩, ?_⟩)); (conv => whnf)))
  simp only [Int.toNat_natCast]
  by_cases d0 : a &&& b = 0
  rotate_left
  · rw [decide_eq_false d0, show (bif false then true else decide (((a &&& b : Nat) : Int) ≠ 0)) = true from by simp; omega]
    (conv => whnf); (repeat ((first | (refine ⟨rfl, ?_⟩) | (refine ⟨trivial, ?_⟩) | (refine Wk.yes ?_) | (refine Wk.no ?_) | (refine Wk.and ?_) | (refine ⟨by exact ⟨shr_nonneg _ _, by decide⟩, ?_⟩) | (refine ⟨by exact ⟨shr_nonneg' _ _, by decide⟩, ?_⟩)); (conv => whnf)))
    exact AH.Fin.nil [] ⟨rfl, rfl, rfl⟩ (by first | exact trivial | (simp [tupA, hpLt, tmLt, AV.lt, AE.lt, AC.lt, LL_cons, LL_nil, idOk, ABlk.lt, ints_LL, GB, tab64_LL, gC, wB, giC, noneB, gst, tC, pC]; done) | (simp [tupA, hpLt, tmLt, AV.lt, AE.lt, AC.lt, LL_cons, LL_nil, idOk, ABlk.lt, ints_LL, GB, tab64_LL, gC, wB, giC, noneB, gst, tC, pC, rdn, wrn]; done)) trivial trivial rfl (by simp [GB])
  rw [decide_eq_true d0, show (bif false then true else decide (((a &&& b : Nat) : Int) ≠ 0)) = false from by simp [d0]]
  (conv => whnf); (repeat ((first | (refine ⟨rfl, ?_⟩) | (refine ⟨trivial, ?_⟩) | (refine Wk.yes ?_) | (refine Wk.no ?_) | (refine Wk.and ?_) | (refine ⟨by exact ⟨shr_nonneg _ _, by decide⟩, ?_⟩) | (refine ⟨by exact ⟨shr_nonneg' _ _, by decide⟩, ?_⟩)); (conv => whnf)))
  refine CallA.ro [0] (.c (.int .i64 (placesN g a))) (placesR_spec hg ha) (by first | rfl | exact congrArg AV.g (ints_ren _ _) | (simp [ints_ren, AV.ren, ABlk.ren, AC.ren, AE.ren, qq]; done)) rfl (by (repeat (first | exact trivial | refine ⟨⟨(by first | exact .inl (by decide) | exact .inr (by decide)), (by first | (refine Or.inl ?_; first | rfl | exact congrArg some (ints_ren _ _).symm | exact congrArg ABlk.own (ints_ren _ _).symm | exact congrArg some (tab64_ren _).symm) | rfl | exact congrArg some (ints_ren _ _).symm | exact congrArg ABlk.own (ints_ren _ _).symm | exact congrArg some (tab64_ren _).symm | exact Or.inr ⟨rfl, rfl⟩)⟩, ?_⟩))) (by first | rfl | exact congrArg AV.g (ints_ren _ _) | (simp [ints_ren, AV.ren, ABlk.ren, AC.ren, AE.ren, qq]; done)) ?_
  (conv => whnf); (repeat ((first | (refine ⟨rfl, ?_⟩) | (refine ⟨trivial, ?_⟩) | (refine Wk.yes ?_) | (refine Wk.no ?_) | (refine Wk.and ?_) | (refine ⟨by exact ⟨shr_nonneg _ _, by decide⟩, ?_⟩) | (refine ⟨by exact ⟨shr_nonneg' _ _, by decide⟩, ?_⟩)); (conv => whnf)))
  rw [bitE]
  by_cases d1 : bit (placesN g a) g.s = 1
  rotate_left
  · rw [decide_eq_false d1, decide_eq_true (show ((bit (placesN g a) g.s : Nat) : Int) = 0 by omega)]
    (conv => whnf); (repeat ((first | (refine ⟨rfl, ?_⟩) | (refine ⟨trivial, ?_⟩) | (refine Wk.yes ?_) | (refine Wk.no ?_) | (refine Wk.and ?_) | (refine ⟨by exact ⟨shr_nonneg _ _, by decide⟩, ?_⟩) | (refine ⟨by exact ⟨shr_nonneg' _ _, by decide⟩, ?_⟩)); (conv => whnf)))
    exact AH.Fin.nil [] ⟨rfl, rfl, rfl⟩ (by first | exact trivial | (simp [tupA, hpLt, tmLt, AV.lt, AE.lt, AC.lt, LL_cons, LL_nil, idOk, ABlk.lt, ints_LL, GB, tab64_LL, gC, wB, giC, noneB, gst, tC, pC]; done) | (simp [tupA, hpLt, tmLt, AV.lt, AE.lt, AC.lt, LL_cons, LL_nil, idOk, ABlk.lt, ints_LL, GB, tab64_LL, gC, wB, giC, noneB, gst, tC, pC, rdn, wrn]; done)) trivial trivial rfl (by simp [GB])
  rw [decide_eq_true d1, decide_eq_false (show ¬ ((bit (placesN g a) g.s : Nat) : Int) = 0 by omega)]
  (conv => whnf); (repeat ((first | (refine ⟨rfl, ?_⟩) | (refine ⟨trivial, ?_⟩) | (refine Wk.yes ?_) | (refine Wk.no ?_) | (refine Wk.and ?_) | (refine ⟨by exact ⟨shr_nonneg _ _, by decide⟩, ?_⟩) | (refine ⟨by exact ⟨shr_nonneg' _ _, by decide⟩, ?_⟩)); (conv => whnf)))
  rw [bitE]
  by_cases d2 : bit (placesN g a) g.t = 1
  rotate_left
  · rw [decide_eq_false d2, decide_eq_true (show ((bit (placesN g a) g.t : Nat) : Int) = 0 by omega)]
    (conv => whnf); (repeat ((first | (refine ⟨rfl, ?_⟩) | (refine ⟨trivial, ?_⟩) | (refine Wk.yes ?_) | (refine Wk.no ?_) | (refine Wk.and ?_) | (refine ⟨by exact ⟨shr_nonneg _ _, by decide⟩, ?_⟩) | (refine ⟨by exact ⟨shr_nonneg' _ _, by decide⟩, ?_⟩)); (conv => whnf)))
    exact AH.Fin.nil [] ⟨rfl, rfl, rfl⟩ (by first | exact trivial | (simp [tupA, hpLt, tmLt, AV.lt, AE.lt, AC.lt, LL_cons, LL_nil, idOk, ABlk.lt, ints_LL, GB, tab64_LL, gC, wB, giC, noneB, gst, tC, pC]; done) | (simp [tupA, hpLt, tmLt, AV.lt, AE.lt, AC.lt, LL_cons, LL_nil, idOk, ABlk.lt, ints_LL, GB, tab64_LL, gC, wB, giC, noneB, gst, tC, pC, rdn, wrn]; done)) trivial trivial rfl (by simp [GB])
  rw [decide_eq_true d2, decide_eq_false (show ¬ ((bit (placesN g a) g.t : Nat) : Int) = 0 by omega)]
  (conv => whnf); (repeat ((first | (refine ⟨rfl, ?_⟩) | (refine ⟨trivial, ?_⟩) | (refine Wk.yes ?_) | (refine Wk.no ?_) | (refine Wk.and ?_) | (refine ⟨by exact ⟨shr_nonneg _ _, by decide⟩, ?_⟩) | (refine ⟨by exact ⟨shr_nonneg' _ _, by decide⟩, ?_⟩)); (conv => whnf)))
  refine CallA.ro [0] (.c (.bool ta)) (hta) (by first | rfl | exact congrArg AV.g (ints_ren _ _) | (simp [ints_ren, AV.ren, ABlk.ren, AC.ren, AE.ren, qq]; done)) rfl (by (repeat (first | exact trivial | refine ⟨⟨(by first | exact .inl (by decide) | exact .inr (by decide)), (by first | (refine Or.inl ?_; first | rfl | exact congrArg some (ints_ren _ _).symm | exact congrArg ABlk.own (ints_ren _ _).symm | exact congrArg some (tab64_ren _).symm) | rfl | exact congrArg some (ints_ren _ _).symm | exact congrArg ABlk.own (ints_ren _ _).symm | exact congrArg some (tab64_ren _).symm | exact Or.inr ⟨rfl, rfl⟩)⟩, ?_⟩))) (by first | rfl | exact congrArg AV.g (ints_ren _ _) | (simp [ints_ren, AV.ren, ABlk.ren, AC.ren, AE.ren, qq]; done)) ?_
  cases ta with
  | false =>
    (conv => whnf); (repeat ((first | (refine ⟨rfl, ?_⟩) | (refine ⟨trivial, ?_⟩) | (refine Wk.yes ?_) | (refine Wk.no ?_) | (refine Wk.and ?_) | (refine ⟨by exact ⟨shr_nonneg _ _, by decide⟩, ?_⟩) | (refine ⟨by exact ⟨shr_nonneg' _ _, by decide⟩, ?_⟩)); (conv => whnf)))
    exact AH.Fin.nil [] ⟨rfl, rfl, rfl⟩ (by first | exact trivial | (simp [tupA, hpLt, tmLt, AV.lt, AE.lt, AC.lt, LL_cons, LL_nil, idOk, ABlk.lt, ints_LL, GB, tab64_LL, gC, wB, giC, noneB, gst, tC, pC]; done) | (simp [tupA, hpLt, tmLt, AV.lt, AE.lt, AC.lt, LL_cons, LL_nil, idOk, ABlk.lt, ints_LL, GB, tab64_LL, gC, wB, giC, noneB, gst, tC, pC, rdn, wrn]; done)) trivial trivial rfl (by simp [GB])
  | true =>
    (conv => whnf); (repeat ((first | (refine ⟨rfl, ?_⟩) | (refine ⟨trivial, ?_⟩) | (refine Wk.yes ?_) | (refine Wk.no ?_) | (refine Wk.and ?_) | (refine ⟨by exact ⟨shr_nonneg _ _, by decide⟩, ?_⟩) | (refine ⟨by exact ⟨shr_nonneg' _ _, by decide⟩, ?_⟩)); (conv => whnf)))
    refine CallA.ro [0] (.c (.bool tb)) (htb) (by first | rfl | exact congrArg AV.g (ints_ren _ _) | (simp [ints_ren, AV.ren, ABlk.ren, AC.ren, AE.ren, qq]; done)) rfl (by (repeat (first | exact trivial | refine ⟨⟨(by first | exact .inl (by decide) | exact .inr (by decide)), (by first | (refine Or.inl ?_; first | rfl | exact congrArg some (ints_ren _ _).symm | exact congrArg ABlk.own (ints_ren _ _).symm | exact congrArg some (tab64_ren _).symm) | rfl | exact congrArg some (ints_ren _ _).symm | exact congrArg ABlk.own (ints_ren _ _).symm | exact congrArg some (tab64_ren _).symm | exact Or.inr ⟨rfl, rfl⟩)⟩, ?_⟩))) (by first | rfl | exact congrArg AV.g (ints_ren _ _) | (simp [ints_ren, AV.ren, ABlk.ren, AC.ren, AE.ren, qq]; done)) ?_
    (conv => whnf); (repeat ((first | (refine ⟨rfl, ?_⟩) | (refine ⟨trivial, ?_⟩) | (refine Wk.yes ?_) | (refine Wk.no ?_) | (refine Wk.and ?_) | (refine ⟨by exact ⟨shr_nonneg _ _, by decide⟩, ?_⟩) | (refine ⟨by exact ⟨shr_nonneg' _ _, by decide⟩, ?_⟩)); (conv => whnf)))
    exact AH.Fin.nil [] ⟨rfl, rfl, rfl⟩ (by first | exact trivial | (simp [tupA, hpLt, tmLt, AV.lt, AE.lt, AC.lt, LL_cons, LL_nil, idOk, ABlk.lt, ints_LL, GB, tab64_LL, gC, wB, giC, noneB, gst, tC, pC]; done) | (simp [tupA, hpLt, tmLt, AV.lt, AE.lt, AC.lt, LL_cons, LL_nil, idOk, ABlk.lt, ints_LL, GB, tab64_LL, gC, wB, giC, noneB, gst, tC, pC, rdn, wrn]; done)) trivial trivial rfl (by simp [GB])
end Go.Proofs.YtfphkpdobbffeaaDoor

/-
  Contracts: two lists as two trees, and the reply, by the program.
-/
namespace Go.Proofs.YtfphkpdobbffeaaDoor
open Go Go.AH
set_option maxRecDepth 100000
set_option maxHeartbeats 1000000

def areB (g : Gm) (x y : Bool) (a b : Nat) : Bool := x && (y && (decide (a &&& b = 0) && (decide (placesN g a &&& endsN g = endsN g) && (isTreeB g a (placesN g a) && isTreeB g b (placesN g a)))))
theorem are_eq {g : Gm} (hg : g.ok) (hst : g.s ≠ g.t) {a b : Nat} (ha : a < 2 ^ g.ws.length) (hb : b < 2 ^ g.ws.length) (x y : Bool) : areB g x y a b = areR g x y a b := by
  have he := ends_iff (pl := placesN g a) (s := g.s) (t := g.t)
  unfold areB areR endsN
  rw [Bool.eq_iff_iff]
  simp only [Bool.and_eq_true, decide_eq_true_eq, he, bit_test]
  constructor
  · rintro ⟨h1, h2, h3, ⟨h4, h5⟩, h6, h7⟩
    have hp := pop_two (placesN_lt8 hg ha) hst h4 h5
    rw [tree_pl hg ha (places_ltn hg ha) hp] at h6
    rw [tree_pl hg hb (places_ltn hg ha) hp] at h7
    exact ⟨h1, h2, h3, h4, h5, h6, h7⟩
  · rintro ⟨h1, h2, h3, h4, h5, h6, h7⟩
    have hp := pop_two (placesN_lt8 hg ha) hst h4 h5
    rw [← tree_pl hg ha (places_ltn hg ha) hp] at h6
    rw [← tree_pl hg hb (places_ltn hg ha) hp] at h7
    exact ⟨h1, h2, h3, ⟨h4, h5⟩, h6, h7⟩
end Go.Proofs.YtfphkpdobbffeaaDoor

/-
  Contract: the reply to a cut wire, by the program.
-/
namespace Go.Proofs.YtfphkpdobbffeaaDoor
open Go Go.AH
set_option maxRecDepth 100000
set_option maxHeartbeats 1000000

def mends (g : Gm) (own cut : Nat) (i : Int) : Bool := isTreeB g (offN own cut ||| 2 ^ i.toNat) (placesN g own)
def replyO (g : Gm) (own oth cut : Nat) : Option Int := (mem oth).find? (mends g own cut)
def replyV (g : Gm) (x y : Bool) (a b : Nat) (cut : Int) : Int × Bool × Int :=
  if cut < 0 ∨ (g.ws.length : Int) ≤ cut then (0, false, 1) else if areB g x y a b = false then (0, false, 1) else if b.testBit cut.toNat = true then ((replyO g b a cut.toNat).getD 0, true, 0) else if a.testBit cut.toNat = true then ((replyO g a b cut.toNat).getD 0, true, 0) else (0, false, 0)
def replyT (q : Int × Bool × Int) : AV := .t [.c (.int .i64 q.1), .c (.bool q.2.1), .c (.int .i64 q.2.2)]
end Go.Proofs.YtfphkpdobbffeaaDoor

/-
  Plain law: the reply mends; two trees as lists.
-/
namespace Go.Proofs.YtfphkpdobbffeaaDoor
open Go Go.AH
set_option maxRecDepth 100000
set_option maxHeartbeats 1000000

theorem risTo_mono {n : Nat} {L : List Int} (hl : ∀ y ∈ L, y < n) : ∀ i, i ≤ L.length → risTo 10 L i = true → risTo n L i = true
  | 0, _, _ => rfl
  | i + 1, hi, h => by
    obtain ⟨h1, h2, _, h4⟩ := (risTo_succ 10 L i).1 h
    refine (risTo_succ n L i).2 ⟨risTo_mono hl i (by omega) h1, h2, hl _ ?_, h4⟩
    rw [List.getD_eq_getElem?_getD, List.getElem?_eq_getElem (show i < L.length by omega)]
    exact List.getElem_mem _
theorem mem_set10 : ∀ a, a < 1024 → risTo 10 (mem a) (mem a).length = true ∧ setToL (mem a) (mem a).length = a := by decide +kernel
theorem mem_set {n a : Nat} (hn : n ≤ 10) (ha : a < 2 ^ n) : setOk n (mem a) = true ∧ setV n (mem a) = a := by
  have hp : 2 ^ n ≤ 1024 := Nat.pow_le_pow_right (by omega) hn
  obtain ⟨h1, h2⟩ := mem_set10 a (by omega)
  have h3 : risTo n (mem a) (mem a).length = true := risTo_mono (fun y hy => by have := mem_lt hn ha hy; omega) _ (Nat.le_refl _) h1
  exact ⟨h3, by rw [setV, h3]; exact h2⟩
/-- What Trees gives are two trees. -/
theorem trees_are {g : Gm} (hg : g.ok) (hst : g.s ≠ g.t) {a b : Nat} (h : treesF g (alT g) = some (a, b)) : areR g (setOk g.ws.length (mem a)) (setOk g.ws.length (mem b)) (setV g.ws.length (mem a)) (setV g.ws.length (mem b)) = true := by
  obtain ⟨h1, h2, h3, h4, h5, h6, h7⟩ := treesF_lt hg.len h
  have ha : a < 2 ^ g.ws.length := by omega
  rw [(mem_set hg.len ha).1, (mem_set hg.len ha).2, (mem_set hg.len h3).1, (mem_set hg.len h3).2, ← are_eq hg hst ha h3]
  unfold areB
  unfold alT at h4
  simp only [Bool.and_eq_true, decide_eq_true_eq] at h4 ⊢
  exact ⟨trivial, trivial, h6, h4, h5, h7⟩
end Go.Proofs.YtfphkpdobbffeaaDoor

/-
  The law SwitchLehman, as a contract.
-/
namespace Go.Proofs.YtfphkpdobbffeaaDoor
open Go Go.AH
set_option maxRecDepth 100000
set_option maxHeartbeats 1000000

theorem Gm.game.ends {g : Gm} (h : g.game) : g.s ≠ g.t := by
  have h1 := h.1
  unfold bad0 at h1
  omega
theorem TreesL_none {g : Gm} (hg : g.game) (h : treesF g (alT g) = none) : FDet Tryd.prog 25 [.g (gC g 0)] [(0, wB g), (100002, .ro tab64), (100000, noneB)] 1 (.t [.g [.nils, .nils], .c (.bool false), .c (.int .i64 0)]) [] 1 := by
  have := Trees_spec hg
  rw [h] at this
  exact this
theorem TreesL_some {g : Gm} (hg : g.game) {a b : Nat} (h : treesF g (alT g) = some (a, b)) : FDet Tryd.prog 25 [.g (gC g 0)] [(0, wB g), (100002, .ro tab64), (100000, noneB)] 1 (.t [.g [.rs 1 0 (mem a).length, .rs 2 0 (mem b).length], .c (.bool true), .c (.int .i64 0)]) [(1, .row 3 1 (ints (mem a))), (2, .row 3 1 (ints (mem b)))] 3 := by
  have := Trees_spec hg
  rw [h] at this
  exact FDet.post this _ _ ⟨.inr ⟨⟨⟨rfl, rfl, rfl⟩, trivial⟩, ⟨⟨rfl, rfl, rfl⟩, trivial⟩, trivial⟩, rfl, rfl, trivial⟩ ⟨⟨⟨rfl, rfl⟩, .inl rfl⟩, ⟨⟨rfl, rfl⟩, .inl rfl⟩, trivial⟩ (by simp [tupA, hpLt, tmLt, AV.lt, AE.lt, AC.lt, LL_cons, LL_nil, idOk, ABlk.lt, ints_LL, GB, tab64_LL, gC, wB, giC, noneB, gst, tC, pC, gN, gR, rC, rB, treesK, treesH, treesR]) (by simp [tupA, hpLt, tmLt, AV.lt, AE.lt, AC.lt, LL_cons, LL_nil, idOk, ABlk.lt, ints_LL, GB, tab64_LL, gC, wB, giC, noneB, gst, tC, pC, gN, gR, rC, rB, treesK, treesH, treesR]) rfl
theorem nilW3 {g : Gm} (h : g.ws = []) {fn : FuncId} {args : List AV} {r : AV} {k' : Nat} (h1 : FDet Tryd.prog fn (.g (gC g 0) :: args) [(0, wB g), (100002, .ro tab64), (100000, noneB)] 1 r [] k')
    (hw : wkVs [(0, .ro []), (100002, .ro tab64), (100000, noneB)] args args) (ha : ∀ v ∈ args, v.all (· ≠ 0)) (hr : r.all (· ≠ 0)) : FDet Tryd.prog fn (.g (gN g) :: args) [(100002, .ro tab64), (100000, noneB)] 1 r [] k' := by
  rw [show wB g = .ro [] by rw [wB, h]; rfl] at h1
  refine FDet.nil0 h1 _ 100002 tab64 rfl ⟨.inr ⟨rfl, rfl, rfl, by show g.ws.length = 0; rw [h]; rfl, trivial⟩, hw⟩ ?_ ?_ hr
  · intro v hv
    rcases List.mem_cons.1 hv with rfl | hv
    · exact gN_all g _ _ (by simp)
    · exact ha v hv
  · intro p hp
    simp only [List.mem_cons, List.not_mem_nil, or_false] at hp
    rcases hp with rfl | rfl
    · exact ⟨by decide, tab_all _⟩
    · refine ⟨by decide, fun x hx => ?_⟩
      simp only [List.mem_cons, List.not_mem_nil, or_false] at hx
      rcases hx with rfl | rfl <;> trivial
theorem trees_nil {g : Gm} (hg : g.game) (h : g.ws = []) (hT : treesF g (alT g) = none) : FDet Tryd.prog 25 [.g (gN g)] [(100002, .ro tab64), (100000, noneB)] 1 (.t [.g [.nils, .nils], .c (.bool false), .c (.int .i64 0)]) [] 1 :=
  nilW3 h (TreesL_none hg hT) trivial (fun v hv => by cases hv) (by intro e he; simp at he; rcases he with rfl | rfl | rfl <;> first | trivial | (intro x hx; simp at hx; subst hx; trivial))
theorem nil_trees {g : Gm} (hg : g.ok) (h : g.ws = []) : treesF g (alT g) = none := by
  cases hT : treesF g (alT g) with
  | none => rfl
  | some p =>
    obtain ⟨a, b⟩ := p
    obtain ⟨h1, h2, h3, _⟩ := treesF_lt hg.len hT
    rw [h] at h3
    have h3 : b < 1 := h3
    omega
end Go.Proofs.YtfphkpdobbffeaaDoor

/-
  Contracts: Spanning, Barrier, IsTrees, as the laws want them.
-/
namespace Go.Proofs.YtfphkpdobbffeaaDoor
open Go Go.AH Go.Wire
set_option maxRecDepth 100000
set_option maxHeartbeats 1000000

theorem SpanL_none {g : Gm} (hg : g.game) (h : treesF g (alS g) = none) : FDet Tryd.prog 26 [.g (gC g 0)] [(0, wB g), (100002, .ro tab64), (100000, noneB)] 1 (.t [.g [.nils, .nils], .c (.bool false), .c (.int .i64 0)]) [] 1 := by
  have := Spanning_spec hg
  rw [h] at this
  exact this
theorem SpanL_some {g : Gm} (hg : g.game) {a b : Nat} (h : treesF g (alS g) = some (a, b)) : FDet Tryd.prog 26 [.g (gC g 0)] [(0, wB g), (100002, .ro tab64), (100000, noneB)] 1 (.t [.g [.rs 1 0 (mem a).length, .rs 2 0 (mem b).length], .c (.bool true), .c (.int .i64 0)]) [(1, .row 3 1 (ints (mem a))), (2, .row 3 1 (ints (mem b)))] 3 := by
  have := Spanning_spec hg
  rw [h] at this
  exact FDet.post this _ _ ⟨.inr ⟨⟨⟨rfl, rfl, rfl⟩, trivial⟩, ⟨⟨rfl, rfl, rfl⟩, trivial⟩, trivial⟩, rfl, rfl, trivial⟩ ⟨⟨⟨rfl, rfl⟩, .inl rfl⟩, ⟨⟨rfl, rfl⟩, .inl rfl⟩, trivial⟩ (by simp [tupA, hpLt, tmLt, AV.lt, AE.lt, AC.lt, LL_cons, LL_nil, idOk, ABlk.lt, ints_LL, GB, tab64_LL, gC, wB, giC, noneB, gst, tC, pC, gN, gR, rC, rB, treesK, treesH, treesR, tvC_LL]) (by simp [tupA, hpLt, tmLt, AV.lt, AE.lt, AC.lt, LL_cons, LL_nil, idOk, ABlk.lt, ints_LL, GB, tab64_LL, gC, wB, giC, noneB, gst, tC, pC, gN, gR, rC, rB, treesK, treesH, treesR, tvC_LL]) rfl
theorem Barrier_yes {g : Gm} (hg : g.game) (h : treesF g (alS g) = none) : FSpec Tryd.prog 27 [.g (gC g 0)] [(0, wB g)] 1 fun r hq k' => ∃ v : Nat → Nat, (RG v g.n ∧ Bar g v) ∧ r = .t [.c (.rs 1 0 (LV v g.n).length), .c (.bool true), .c (.int .i64 0)] ∧ hq = [(1, .own (tvC (LV v g.n)))] ∧ k' = 2 := by
  refine FSpec.post (Barrier_any hg) ?_
  rintro r hq k' ⟨⟨b, v⟩, hI, rfl, rfl, rfl⟩
  cases b
  · exfalso
    rcases bar_or hg.ok with h1 | ⟨u, h1, h2⟩
    · exact h1 h
    · exact hI.2 rfl u h1 h2
  · obtain ⟨h1, h2⟩ := hI.1 rfl
    exact ⟨.t [.c (.rs 1 0 (LV v g.n).length), .c (.bool true), .c (.int .i64 0)], [(1, .own (tvC (LV v g.n)))], ⟨v, ⟨h1, h2⟩, rfl, rfl, rfl⟩, ⟨⟨rfl, rfl, (LV_len v g.n).symm⟩, rfl, rfl, trivial⟩, ⟨.inl rfl, trivial⟩, (by simp [tupA, hpLt, tmLt, AV.lt, AE.lt, AC.lt, LL_cons, LL_nil, idOk, ABlk.lt, ints_LL, GB, tab64_LL, gC, wB, giC, noneB, gst, tC, pC, gN, gR, rC, rB, treesK, treesH, treesR, tvC_LL]), (by simp [tupA, hpLt, tmLt, AV.lt, AE.lt, AC.lt, LL_cons, LL_nil, idOk, ABlk.lt, ints_LL, GB, tab64_LL, gC, wB, giC, noneB, gst, tC, pC, gN, gR, rC, rB, treesK, treesH, treesR, tvC_LL]), by simp⟩
theorem Barrier_no {g : Gm} (hg : g.game) (h : treesF g (alS g) ≠ none) : FDet Tryd.prog 27 [.g (gC g 0)] [(0, wB g)] 1 (.t [.c .nils, .c (.bool false), .c (.int .i64 0)]) [] 2 := by
  refine FSpec.imp (Barrier_any hg) ?_
  rintro r hq k' ⟨⟨b, v⟩, hI, rfl, rfl, rfl⟩
  cases b
  · exact ⟨rfl, rfl, rfl⟩
  · obtain ⟨h1, h2⟩ := hI.1 rfl
    exact absurd (bar_not hg.ok h1 h2) h
/-! What two trees on all places are. -/
structure Spn (g : Gm) (a b : Nat) : Prop where
  la : a < 2 ^ g.ws.length
  lb : b < 2 ^ g.ws.length
  ne : a ≠ b
  ta : isTreeB g a (2 ^ g.n - 1) = true
  tb : isTreeB g b (2 ^ g.n - 1) = true
  pa : placesN g a = 2 ^ g.n - 1
  dj : a &&& b = 0
  a0 : a ≠ 0
  lt : a < b
theorem spn {g : Gm} (hg : g.ok) {a b : Nat} (h : treesF g (alS g) = some (a, b)) : Spn g a b := by
  obtain ⟨h1, h2, h3, h4, h5, h6, h7⟩ := treesF_lt hg.len h
  rw [alS, decide_eq_true_eq] at h4
  rw [h4] at h5 h7
  exact ⟨by omega, h3, by omega, h5, h7, h4, h6, by omega, h2⟩
theorem Spn.ends {g : Gm} (hg : g.ok) {a b : Nat} (h : Spn g a b) : alT g (placesN g a) = true := by
  rw [alT, decide_eq_true_eq, endsN, ends_iff, h.pa, Nat.testBit_two_pow_sub_one, Nat.testBit_two_pow_sub_one]
  exact ⟨decide_eq_true hg.s, decide_eq_true hg.t⟩
theorem Spn.trees {g : Gm} (hg : g.ok) {a b : Nat} (h : Spn g a b) : treesF g (alT g) ≠ none := fun hn => by
  have h1 := firstFrom_none hn a (Nat.zero_le _) (by have := h.la; omega)
  rw [okA, if_neg (by rw [h.ends hg, h.pa, h.ta]; simp [h.a0])] at h1
  have h3 := firstFrom_none h1 b h.lt (by have := h.lb; omega)
  rw [okB, if_pos ⟨h.dj, by rw [h.pa]; exact h.tb⟩] at h3
  cases h3
theorem Spn.are {g : Gm} (hg : g.ok) {a b : Nat} (h : Spn g a b) : areB g (setOk g.ws.length (mem a)) (setOk g.ws.length (mem b)) (setV g.ws.length (mem a)) (setV g.ws.length (mem b)) = true := by
  obtain ⟨a1, a2⟩ := mem_set hg.len h.la
  obtain ⟨b1, b2⟩ := mem_set hg.len h.lb
  have he := h.ends hg
  rw [alT, decide_eq_true_eq] at he
  rw [a1, a2, b1, b2, areB, decide_eq_true h.dj, decide_eq_true he, h.pa, h.ta, h.tb]
  rfl
theorem Spn.len {g : Gm} (hg : g.ok) {a b : Nat} (h : Spn g a b) : (mem a).length + 1 = g.n := by
  have := ((tree_full hg h.la).1 h.ta).2
  rw [← this]
  simp [mem]
theorem nil_spans {g : Gm} (hg : g.ok) (h : g.ws = []) : treesF g (alS g) = none := by
  cases hT : treesF g (alS g) with
  | none => rfl
  | some p =>
    obtain ⟨a, b⟩ := p
    have h1 := spn hg hT
    have h3 := h1.lb
    have h4 := h1.lt
    rw [h] at h3
    have h3 : b < 1 := h3
    omega
end Go.Proofs.YtfphkpdobbffeaaDoor
