/-
  Contract: IsBarrier.
-/
import Derived.Test.YtfphkpdobbffeaaDoorSw6
import Derived.Test.YtfphkpdobbffeaaDoorSw2
set_option linter.unusedSimpArgs false
set_option linter.unusedVariables false
namespace Go.Proofs.YtfphkpdobbffeaaDoor
open Go Go.AH
set_option maxRecDepth 100000
set_option maxHeartbeats 4000000

def runE (n i : Nat) : List Int → Nat → (Nat → Nat) → Int → Option (Nat × (Nat → Nat))
  | [], s, w, _ => some (s, w)
  | v :: r, s, w, l => if v ≤ l ∨ (n : Int) ≤ v ∨ s.testBit v.toNat = true then none else runE n i r (s ||| 2 ^ v.toNat) (updW w v.toNat i) v
def runP (n : Nat) : List (List Int) → Nat → Option (List Int) → Nat → (Nat → Nat) → Option (Nat × (Nat → Nat))
  | [], _, _, s, w => some (s, w)
  | p :: r, i, q, s, w => if p = [] ∨ (∃ x, q = some x ∧ 0 ≤ cmpL x p) then none else match runE n i p s w (-1) with
    | none => none
    | some (s, w) => runP n r (i + 1) (some p) s w
def isBar (g : Gm) (V : List (List Int)) : Bool := match runP g.n V 0 none 0 w0 with
  | none => false
  | some (s, w) => decide (s = 2 ^ g.n - 1) && decide (2 ≤ V.length) && decide ((crN w g.ws : Int) < 2 * ((V.length : Int) - 1))
theorem tvC_get {V : List (List Int)} {i : Nat} (h : i < V.length) : (tvC V).getD (0 + i * 1) .nils = .tv (.leaf 1 (V.getD i []).length (V.getD i [])) := by
  rw [Nat.zero_add, Nat.mul_one]
  simp [tvC, List.getD_eq_getElem?_getD, h]
theorem cmpTV (a b : List Int) (ha : 0 < a.length) (hb : 0 < b.length) (hal : a.length < 1000000) (hbl : b.length < 1000000) : FDet Tryd.prog 76 [.c (.tv (.leaf 1 a.length a)), .c (.tv (.leaf 1 b.length b))] [] 0 (.c (.int .i64 (cmpL a b))) [] 0 := by
  have h := cmpS_spec (A := a) (B := b) (o := 0) (n := a.length) (p := 0) (m := b.length) (by omega) (by omega) hal hbl
  rw [show win a 0 a.length = a by simp [win], show win b 0 b.length = b by simp [win]] at h
  have h1 : FDet Tryd.prog 76 [.c (.rs 0 0 a.length), .c (.rs 1 0 b.length)] [(1, .ro (ints b)), (0, .ro (ints a))] 2 (.c (.int .i64 (cmpL a b))) [] 2 := FDet.wk h ⟨rfl, rfl, trivial⟩ ⟨Or.inl rfl, Or.inl rfl, trivial⟩
  have h2 : FDet Tryd.prog 76 [.c (.rs 0 0 a.length), .c (.tv (.leaf 1 b.length b))] [(0, .ro (ints a))] 1 (.c (.int .i64 (cmpL a b))) [] 1 :=
    FDet.thaw (T0 := .leaf 1 b.length b) 1 hb (by decide) rfl (by
      intro v hv
      simp at hv
      rcases hv with rfl | rfl
      · exact .inl (by omega)
      · trivial) (by simp [tupA, hpLt, tmLt, AV.lt, AE.lt, AC.lt, LL_cons, LL_nil, idOk, ABlk.lt, ints_LL, GB, tab64_LL, gC, wB, giC, noneB, tvC_LL]) trivial h1
  exact FDet.thaw (T0 := .leaf 1 a.length a) 0 ha (by decide) rfl (by
      intro v hv
      simp at hv
      rcases hv with rfl | rfl <;> trivial) trivial trivial h2
def prevO (V : List (List Int)) (i : Nat) : Option (List Int) := if i = 0 then none else some (V.getD (i - 1) [])
theorem runP_step {n : Nat} {V : List (List Int)} {i : Nat} (h : i < V.length) (s : Nat) (w : Nat → Nat) : runP n (V.drop i) i (prevO V i) s w =
    if V.getD i [] = [] ∨ (0 < i ∧ 0 ≤ cmpL (V.getD (i - 1) []) (V.getD i [])) then none else match runE n i (V.getD i []) s w (-1) with
    | none => none
    | some (s, w) => runP n (V.drop (i + 1)) (i + 1) (prevO V (i + 1)) s w := by
  rw [List.drop_eq_getElem_cons h, runP]
  have e : V.getD i [] = V[i] := by simp [List.getD_eq_getElem?_getD, h]
  rw [e]
  have c : (V[i] = [] ∨ ∃ x, prevO V i = some x ∧ 0 ≤ cmpL x V[i]) ↔ (V[i] = [] ∨ (0 < i ∧ 0 ≤ cmpL (V.getD (i - 1) []) V[i])) := by
    unfold prevO
    constructor
    · rintro (h | ⟨x, h1, h2⟩)
      · exact .inl h
      · by_cases hi : i = 0
        · rw [if_pos hi] at h1; cases h1
        · rw [if_neg hi] at h1; injection h1 with h1; subst h1; exact .inr ⟨by omega, h2⟩
    · rintro (h | ⟨h1, h2⟩)
      · exact .inl h
      · exact .inr ⟨_, if_neg (by omega), h2⟩
  have c2 : prevO V (i + 1) = some V[i] := by unfold prevO; rw [if_neg (by omega)]; simp [List.getD_eq_getElem?_getD, h]
  rw [c2]
  by_cases q : V[i] = [] ∨ (0 < i ∧ 0 ≤ cmpL (V.getD (i - 1) []) V[i])
  · rw [if_pos q, if_pos (c.2 q)]
  · rw [if_neg q, if_neg fun x => q (c.1 x)]
theorem runE_step {n i : Nat} {p : List Int} {j : Nat} (h : j < p.length) (s : Nat) (w : Nat → Nat) (l : Int) : runE n i (p.drop j) s w l =
    if p.getD j 0 ≤ l ∨ (n : Int) ≤ p.getD j 0 ∨ s.testBit (p.getD j 0).toNat = true then none else runE n i (p.drop (j + 1)) (s ||| 2 ^ (p.getD j 0).toNat) (updW w (p.getD j 0).toNat i) (p.getD j 0) := by
  rw [List.drop_eq_getElem_cons h, runE]
  have e : p.getD j 0 = p[j] := by simp [List.getD_eq_getElem?_getD, h]
  rw [e]
theorem isBar_none {g : Gm} {V : List (List Int)} (h : runP g.n V 0 none 0 w0 = none) : isBar g V = false := by unfold isBar; rw [h]
theorem isBar_spec {g : Gm} (hg : g.game) (V : List (List Int)) (hV : V.length < 1000000) (hVa : ∀ a ∈ V, a.length < 1000000) : FDet Tryd.prog 36 [.g (gC g 0), .c (.rs 1 0 V.length)] [(0, wB g), (1, .ro (tvC V))] 2 (.t [.c (.bool (isBar g V)), .c (.int .i64 0)]) [] 2 := by
  have h8 := hg.ok.n8
  refine FSpec.of_body tok true Tryd.func36 rfl (by kernel_rfl) (by decide) (by simp [tupA, hpLt, tmLt, AV.lt, AE.lt, AC.lt, LL_cons, LL_nil, idOk, ABlk.lt, ints_LL, GB, tab64_LL, gC, wB, giC, noneB, tvC_LL]) (by simp [tupA, hpLt, tmLt, AV.lt, AE.lt, AC.lt, LL_cons, LL_nil, idOk, ABlk.lt, ints_LL, GB, tab64_LL, gC, wB, giC, noneB, tvC_LL]) (by show 2 ≤ _; decide) ?_
  refine Wk.on ?_
  refine CallA.ro2 [0] (.c (.int .i64 0)) (check_ok hg) ?_
  refine Wk.on ?_
  refine Tr.loop (md := true) (X := Nat × Nat × (Nat → Nat)) (st := fun x => ⟨[(1, .c (.rs 1 0 V.length)), (2, .c (.ptr 2 0)), (7, .c (.ptr 3 0)), (8, .c (.int .i64 x.2.1)), (19, .c (.rs 1 0 V.length)), (20, .c (.int .i64 V.length)), (21, .c (.int .i64 x.1))], [(3, .own (ints (wL x.2.2))), (2, .own (gC g 0)), (0, wB g), (1, .ro (tvC V))], 4, 99, 2⟩) (inv := fun x => x.1 ≤ V.length ∧ x.2.1 < 2 ^ g.n ∧ (0 < x.1 → V.getD (x.1 - 1) [] ≠ []) ∧ runP g.n (V.drop x.1) x.1 (prevO V x.1) x.2.1 x.2.2 = runP g.n V 0 none 0 w0) (μ := fun x => V.length - x.1) (x0 := (0, 0, w0)) (l := []) tok ⟨by omega, pow_pos2 _, (fun h => absurd h (by decide)), rfl⟩ ?_ ?_
  · exact Sub.nil ⟨rfl, rfl, (by simp [tab64_LL, gC, wB, giC, noneB, tvC_LL]), rfl, (by simp [tupA, hpLt, tmLt, AV.lt, AE.lt, AC.lt, LL_cons, LL_nil, idOk, ABlk.lt, ints_LL, GB, tab64_LL, gC, wB, giC, noneB, tvC_LL]), (by simp [tupA, hpLt, tmLt, AV.lt, AE.lt, AC.lt, LL_cons, LL_nil, idOk, ABlk.lt, ints_LL, GB, tab64_LL, gC, wB, giC, noneB, tvC_LL])⟩ (by (repeat (first | exact trivial | refine ⟨trivial, ?_⟩ | refine ⟨rfl, ?_⟩))) ⟨rfl, rfl, rfl, rfl, trivial⟩
  · rintro ⟨i, s, w⟩ ⟨h1, h2, h4, h3⟩
    dsimp only at h1 h2 h3 h4 ⊢
    have hW8 : (ints (wL w)).length = 8 := by rw [ints_len, wL_len]
    by_cases hi : i < V.length
    · have hst := runP_step hi s w (n := g.n)
      rw [h3] at hst
      have htl : (tvC V).length = V.length := by simp [tvC]
      refine Wk.on ?_
      rw [decide_eq_true (show ((i : Nat) : Int) < ((V.length : Nat) : Int) by omega)]
      refine Wk.on ?_
      rw [Int.toNat_natCast, tvC_get hi]
      obtain ⟨p, hp⟩ : ∃ p, p = V.getD i [] := ⟨_, rfl⟩
      have hpl : p.length < 1000000 := by rw [hp, List.getD_eq_getElem?_getD, List.getElem?_eq_getElem hi]; exact hVa _ (List.getElem_mem hi)
      rw [← hp] at hst ⊢
      by_cases hp0 : p = []
      · rw [if_pos (.inl hp0)] at hst
        subst hp0
        refine Wk.on ?_
        exact AH.Fin.nil2 ⟨by rw [isBar_none hst]; rfl, rfl, rfl⟩
      · have hp1 : 0 < p.length := List.length_pos_iff.2 hp0
        refine Wk.on ?_
        rw [decide_eq_false (show ¬ (((RT.leaf 1 p.length p).len : Nat) : Int) = 0 by show ¬ ((p.length : Nat) : Int) = 0; omega)]
        refine Wk.on ?_
        by_cases hi0 : 0 < i
        · rw [decide_eq_true (show (0 : Int) < ((i : Nat) : Int) by omega)]
          have htq := tvC_get (V := V) (i := i - 1) (by omega)
          have hq0 := h4 hi0
          obtain ⟨q, hq⟩ : ∃ q, q = V.getD (i - 1) [] := ⟨_, rfl⟩
          have hql : q.length < 1000000 := by rw [hq, List.getD_eq_getElem?_getD, List.getElem?_eq_getElem (show i - 1 < V.length by omega)]; exact hVa _ (List.getElem_mem _)
          rw [← hq] at htq hst hq0
          have hq1 : 0 < q.length := List.length_pos_iff.2 hq0
          have hidx : (((i : Nat) : Int) - 1).toNat = i - 1 := by omega
          refine Wk.on ?_
          rw [hidx, htq]
          refine CallA.ro2 [] (.c (.int .i64 (cmpL q p))) (cmpTV q p hq1 hp1 hql hpl) ?_
          refine Wk.on ?_
          by_cases hcm : 0 ≤ cmpL q p
          · rw [if_pos (.inr ⟨hi0, hcm⟩)] at hst
            rw [decide_eq_true hcm]
            refine Wk.on ?_
            exact AH.Fin.nil2 ⟨by rw [isBar_none hst]; rfl, rfl, rfl⟩
          · rw [if_neg (by rintro (h | h); exact hp0 h; exact hcm h.2)] at hst
            rw [decide_eq_false hcm]
            refine Wk.on ?_
            refine Tr.loop (md := true) (X := Nat × Nat × (Nat → Nat) × Int) (st := fun x => ⟨[(1, .c (.rs 1 0 V.length)), (2, .c (.ptr 2 0)), (7, .c (.ptr 3 0)), (8, .c (.int .i64 x.2.1)), (9, .c (.int .i64 i)), (10, .c (.tv (.leaf 1 p.length p))), (11, .c (.int .i64 x.2.2.2)), (19, .c (.rs 1 0 V.length)), (20, .c (.int .i64 V.length)), (21, .c (.int .i64 i)), (43, .c (.tv (.leaf 1 p.length p))), (44, .c (.int .i64 p.length)), (45, .c (.int .i64 x.1))], [(3, .own (ints (wL x.2.2.1))), (2, .own (gC g 0)), (0, wB g), (1, .ro (tvC V))], 4, 99, 2⟩) (inv := fun x => x.1 ≤ p.length ∧ x.2.1 < 2 ^ g.n ∧ -1 ≤ x.2.2.2 ∧ runE g.n i (p.drop x.1) x.2.1 x.2.2.1 x.2.2.2 = runE g.n i p s w (-1)) (μ := fun x => p.length - x.1) (x0 := (0, s, w, -1)) (l := []) tok ⟨by omega, h2, by show (-1 : Int) ≤ -1; omega, rfl⟩ ?_ ?_
            · exact Sub.nil ⟨rfl, rfl, (by simp [tab64_LL, gC, wB, giC, noneB, tvC_LL]), rfl, (by simp [tupA, hpLt, tmLt, AV.lt, AE.lt, AC.lt, LL_cons, LL_nil, idOk, ABlk.lt, ints_LL, GB, tab64_LL, gC, wB, giC, noneB, tvC_LL]), (by simp [tupA, hpLt, tmLt, AV.lt, AE.lt, AC.lt, LL_cons, LL_nil, idOk, ABlk.lt, ints_LL, GB, tab64_LL, gC, wB, giC, noneB, tvC_LL])⟩ (by (repeat (first | exact trivial | refine ⟨trivial, ?_⟩ | refine ⟨rfl, ?_⟩))) (by (repeat (first | exact trivial | refine ⟨trivial, ?_⟩ | refine ⟨rfl, ?_⟩)))
            · rintro ⟨j, s', w', l⟩ ⟨g1, g2, g3, g4⟩
              dsimp only at g1 g2 g3 g4 ⊢
              have hW8' : (ints (wL w')).length = 8 := by rw [ints_len, wL_len]
              by_cases hj : j < p.length
              · have hes := runE_step (n := g.n) (i := i) hj s' w' l
                rw [g4] at hes
                refine Wk.on ?_
                rw [decide_eq_true (show ((j : Nat) : Int) < ((p.length : Nat) : Int) by omega)]
                refine Wk.on ?_
                refine ⟨⟨rfl, by omega, by show ((j : Nat) : Int) < ((p.length : Nat) : Int); omega⟩, ?_⟩
                refine Wk.on ?_
                refine ⟨by show ((j : Nat) : Int).toNat * 1 + 1 ≤ (p.map _).length; rw [List.length_map]; omega, ?_⟩
                refine Wk.on ?_
                have hv : (RT.leaf 1 p.length p).cs.getD (((j : Nat) : Int).toNat * 1) (.int .i64 0) = .int .i64 (p.getD j 0) := by
                  rw [Int.toNat_natCast, Nat.mul_one]; exact ints_getD p j 0
                rw [hv]
                obtain ⟨v, hvv⟩ : ∃ v, v = p.getD j 0 := ⟨_, rfl⟩
                rw [← hvv] at hes ⊢
                clear hv
                by_cases c1 : v ≤ l
                · rw [if_pos (.inl c1)] at hes
                  refine Wk.on ?_
                  rw [decide_eq_true c1]
                  refine Wk.on ?_
                  rw [hes] at hst
                  exact AH.Fin.nil2 ⟨by rw [isBar_none hst]; rfl, rfl, rfl⟩
                · refine Wk.on ?_
                  rw [decide_eq_false c1]
                  refine Wk.on ?_
                  by_cases c2 : ((g.n : Nat) : Int) ≤ v
                  · rw [if_pos (.inr (.inl c2))] at hes
                    rw [decide_eq_true c2]
                    refine Wk.on ?_
                    rw [hes] at hst
                    exact AH.Fin.nil2 ⟨by rw [isBar_none hst]; rfl, rfl, rfl⟩
                  · rw [decide_eq_false c2]
                    refine Wk.on ?_
                    obtain ⟨a, rfl⟩ : ∃ a : Nat, v = a := ⟨v.toNat, by omega⟩
                    rw [Int.toNat_natCast] at hes
                    rw [wrapU (by omega)]
                    refine Wk.on ?_
                    have han : a < g.n := by omega
                    have hp8 : 2 ^ g.n ≤ 256 := Nat.pow_le_pow_right (j := 8) (by omega) (by omega)
                    obtain ⟨q2, hq2⟩ : ∃ q2, q2 = s' / 2 ^ a := ⟨_, rfl⟩
                    have hq2l : q2 < 256 := by rw [hq2]; exact Nat.lt_of_le_of_lt (Nat.div_le_self _ _) (by omega)
                    have hbt : s'.testBit a = decide (q2 % 2 = 1) := by rw [hq2]; exact Nat.testBit_eq_decide_div_mod_eq
                    rw [shrN, ← hq2]
                    refine Wk.on ?_
                    rw [show (((q2 : Nat) : Int).toNat &&& Int.toNat 1) = q2 % 2 from Nat.and_one_is_mod q2]
                    by_cases c3 : q2 % 2 = 1
                    · rw [if_pos (.inr (.inr (by rw [hbt]; exact decide_eq_true c3)))] at hes
                      rw [decide_eq_true (show ((q2 % 2 : Nat) : Int) = 1 by omega)]
                      refine Wk.on ?_
                      rw [hes] at hst
                      exact AH.Fin.nil2 ⟨by rw [isBar_none hst]; rfl, rfl, rfl⟩
                    · have hnb : ¬ s'.testBit a = true := by rw [hbt, decide_eq_false c3]; decide
                      rw [if_neg (by rintro (h | h | h); exact c1 h; exact c2 h; exact hnb h)] at hes
                      rw [decide_eq_false (show ¬ ((q2 % 2 : Nat) : Int) = 1 by omega)]
                      refine Wk.on ?_
                      rw [wrapU (by omega)]
                      refine Wk.on ?_
                      obtain ⟨r2, hr2⟩ : ∃ r2, r2 = 2 ^ a := ⟨_, rfl⟩
                      have hr2l : r2 < 2 ^ g.n := by rw [hr2]; exact (Nat.pow_lt_pow_iff_right (by omega)).2 han
                      have hor : s' ||| r2 < 2 ^ g.n := or_lt g2 hr2l
                      refine ⟨⟨by omega, by omega, by rw [shl1 hr2]; unfold I64; omega⟩, ?_⟩
                      rw [shl1 hr2]
                      refine Wk.on ?_
                      rw [← hr2] at hes
                      refine Again.mk ((j + 1, s' ||| r2, updW w' a i, (a : Int))) (Sub.nil ⟨rfl, rfl, (by simp [tab64_LL, gC, wB, giC, noneB, tvC_LL]), rfl, (by simp [tupA, hpLt, tmLt, AV.lt, AE.lt, AC.lt, LL_cons, LL_nil, idOk, ABlk.lt, ints_LL, GB, tab64_LL, gC, wB, giC, noneB, tvC_LL]), (by simp [tupA, hpLt, tmLt, AV.lt, AE.lt, AC.lt, LL_cons, LL_nil, idOk, ABlk.lt, ints_LL, GB, tab64_LL, gC, wB, giC, noneB, tvC_LL])⟩ (by (repeat (first | exact trivial | refine ⟨trivial, ?_⟩ | refine ⟨rfl, ?_⟩))) ⟨by show ABlk.own _ = ABlk.own _; rw [Int.toNat_natCast, Nat.zero_add, Nat.mul_one, wL_set w' i (by omega)], rfl, rfl, rfl, trivial⟩) (⟨by show j + 1 ≤ p.length; omega, hor, by show (-1 : Int) ≤ (a : Int); omega, hes.symm⟩) (by omega)
              · have hje : j = p.length := by omega
                subst hje
                rw [List.drop_length, runE] at g4
                rw [← g4] at hst
                dsimp only at hst
                refine Wk.on ?_
                rw [decide_eq_false (show ¬ ((p.length : Nat) : Int) < ((p.length : Nat) : Int) by omega)]
                refine Wk.on ?_
                intro _
                refine Wk.on ?_
                refine Again.mk ((i + 1, s', w')) (Sub.nil ⟨rfl, rfl, (by simp [tab64_LL, gC, wB, giC, noneB, tvC_LL]), rfl, (by simp [tupA, hpLt, tmLt, AV.lt, AE.lt, AC.lt, LL_cons, LL_nil, idOk, ABlk.lt, ints_LL, GB, tab64_LL, gC, wB, giC, noneB, tvC_LL]), (by simp [tupA, hpLt, tmLt, AV.lt, AE.lt, AC.lt, LL_cons, LL_nil, idOk, ABlk.lt, ints_LL, GB, tab64_LL, gC, wB, giC, noneB, tvC_LL])⟩ (by (repeat (first | exact trivial | refine ⟨trivial, ?_⟩ | refine ⟨rfl, ?_⟩))) (by (repeat (first | exact trivial | refine ⟨trivial, ?_⟩ | refine ⟨rfl, ?_⟩)))) (⟨by show i + 1 ≤ V.length; omega, g2, fun _ => (by show V.getD (i + 1 - 1) [] ≠ []; rw [Nat.add_sub_cancel, ← hp]; exact hp0), hst.symm⟩) (by omega)
        · rw [decide_eq_false (show ¬ (0 : Int) < ((i : Nat) : Int) by omega)]
          rw [if_neg (by rintro (h | h); exact hp0 h; exact hi0 h.1)] at hst
          refine Wk.on ?_
          refine Tr.loop (md := true) (X := Nat × Nat × (Nat → Nat) × Int) (st := fun x => ⟨[(1, .c (.rs 1 0 V.length)), (2, .c (.ptr 2 0)), (7, .c (.ptr 3 0)), (8, .c (.int .i64 x.2.1)), (9, .c (.int .i64 i)), (10, .c (.tv (.leaf 1 p.length p))), (11, .c (.int .i64 x.2.2.2)), (19, .c (.rs 1 0 V.length)), (20, .c (.int .i64 V.length)), (21, .c (.int .i64 i)), (43, .c (.tv (.leaf 1 p.length p))), (44, .c (.int .i64 p.length)), (45, .c (.int .i64 x.1))], [(3, .own (ints (wL x.2.2.1))), (2, .own (gC g 0)), (0, wB g), (1, .ro (tvC V))], 4, 99, 2⟩) (inv := fun x => x.1 ≤ p.length ∧ x.2.1 < 2 ^ g.n ∧ -1 ≤ x.2.2.2 ∧ runE g.n i (p.drop x.1) x.2.1 x.2.2.1 x.2.2.2 = runE g.n i p s w (-1)) (μ := fun x => p.length - x.1) (x0 := (0, s, w, -1)) (l := []) tok ⟨by omega, h2, by show (-1 : Int) ≤ -1; omega, rfl⟩ ?_ ?_
          · exact Sub.nil ⟨rfl, rfl, (by simp [tab64_LL, gC, wB, giC, noneB, tvC_LL]), rfl, (by simp [tupA, hpLt, tmLt, AV.lt, AE.lt, AC.lt, LL_cons, LL_nil, idOk, ABlk.lt, ints_LL, GB, tab64_LL, gC, wB, giC, noneB, tvC_LL]), (by simp [tupA, hpLt, tmLt, AV.lt, AE.lt, AC.lt, LL_cons, LL_nil, idOk, ABlk.lt, ints_LL, GB, tab64_LL, gC, wB, giC, noneB, tvC_LL])⟩ (by (repeat (first | exact trivial | refine ⟨trivial, ?_⟩ | refine ⟨rfl, ?_⟩))) (by (repeat (first | exact trivial | refine ⟨trivial, ?_⟩ | refine ⟨rfl, ?_⟩)))
          · rintro ⟨j, s', w', l⟩ ⟨g1, g2, g3, g4⟩
            dsimp only at g1 g2 g3 g4 ⊢
            have hW8' : (ints (wL w')).length = 8 := by rw [ints_len, wL_len]
            by_cases hj : j < p.length
            · have hes := runE_step (n := g.n) (i := i) hj s' w' l
              rw [g4] at hes
              refine Wk.on ?_
              rw [decide_eq_true (show ((j : Nat) : Int) < ((p.length : Nat) : Int) by omega)]
              refine Wk.on ?_
              refine ⟨⟨rfl, by omega, by show ((j : Nat) : Int) < ((p.length : Nat) : Int); omega⟩, ?_⟩
              refine Wk.on ?_
              refine ⟨by show ((j : Nat) : Int).toNat * 1 + 1 ≤ (p.map _).length; rw [List.length_map]; omega, ?_⟩
              refine Wk.on ?_
              have hv : (RT.leaf 1 p.length p).cs.getD (((j : Nat) : Int).toNat * 1) (.int .i64 0) = .int .i64 (p.getD j 0) := by
                rw [Int.toNat_natCast, Nat.mul_one]; exact ints_getD p j 0
              rw [hv]
              obtain ⟨v, hvv⟩ : ∃ v, v = p.getD j 0 := ⟨_, rfl⟩
              rw [← hvv] at hes ⊢
              clear hv
              by_cases c1 : v ≤ l
              · rw [if_pos (.inl c1)] at hes
                refine Wk.on ?_
                rw [decide_eq_true c1]
                refine Wk.on ?_
                rw [hes] at hst
                exact AH.Fin.nil2 ⟨by rw [isBar_none hst]; rfl, rfl, rfl⟩
              · refine Wk.on ?_
                rw [decide_eq_false c1]
                refine Wk.on ?_
                by_cases c2 : ((g.n : Nat) : Int) ≤ v
                · rw [if_pos (.inr (.inl c2))] at hes
                  rw [decide_eq_true c2]
                  refine Wk.on ?_
                  rw [hes] at hst
                  exact AH.Fin.nil2 ⟨by rw [isBar_none hst]; rfl, rfl, rfl⟩
                · rw [decide_eq_false c2]
                  refine Wk.on ?_
                  obtain ⟨a, rfl⟩ : ∃ a : Nat, v = a := ⟨v.toNat, by omega⟩
                  rw [Int.toNat_natCast] at hes
                  rw [wrapU (by omega)]
                  refine Wk.on ?_
                  have han : a < g.n := by omega
                  have hp8 : 2 ^ g.n ≤ 256 := Nat.pow_le_pow_right (j := 8) (by omega) (by omega)
                  obtain ⟨q2, hq2⟩ : ∃ q2, q2 = s' / 2 ^ a := ⟨_, rfl⟩
                  have hq2l : q2 < 256 := by rw [hq2]; exact Nat.lt_of_le_of_lt (Nat.div_le_self _ _) (by omega)
                  have hbt : s'.testBit a = decide (q2 % 2 = 1) := by rw [hq2]; exact Nat.testBit_eq_decide_div_mod_eq
                  rw [shrN, ← hq2]
                  refine Wk.on ?_
                  rw [show (((q2 : Nat) : Int).toNat &&& Int.toNat 1) = q2 % 2 from Nat.and_one_is_mod q2]
                  by_cases c3 : q2 % 2 = 1
                  · rw [if_pos (.inr (.inr (by rw [hbt]; exact decide_eq_true c3)))] at hes
                    rw [decide_eq_true (show ((q2 % 2 : Nat) : Int) = 1 by omega)]
                    refine Wk.on ?_
                    rw [hes] at hst
                    exact AH.Fin.nil2 ⟨by rw [isBar_none hst]; rfl, rfl, rfl⟩
                  · have hnb : ¬ s'.testBit a = true := by rw [hbt, decide_eq_false c3]; decide
                    rw [if_neg (by rintro (h | h | h); exact c1 h; exact c2 h; exact hnb h)] at hes
                    rw [decide_eq_false (show ¬ ((q2 % 2 : Nat) : Int) = 1 by omega)]
                    refine Wk.on ?_
                    rw [wrapU (by omega)]
                    refine Wk.on ?_
                    obtain ⟨r2, hr2⟩ : ∃ r2, r2 = 2 ^ a := ⟨_, rfl⟩
                    have hr2l : r2 < 2 ^ g.n := by rw [hr2]; exact (Nat.pow_lt_pow_iff_right (by omega)).2 han
                    have hor : s' ||| r2 < 2 ^ g.n := or_lt g2 hr2l
                    refine ⟨⟨by omega, by omega, by rw [shl1 hr2]; unfold I64; omega⟩, ?_⟩
                    rw [shl1 hr2]
                    refine Wk.on ?_
                    rw [← hr2] at hes
                    refine Again.mk ((j + 1, s' ||| r2, updW w' a i, (a : Int))) (Sub.nil ⟨rfl, rfl, (by simp [tab64_LL, gC, wB, giC, noneB, tvC_LL]), rfl, (by simp [tupA, hpLt, tmLt, AV.lt, AE.lt, AC.lt, LL_cons, LL_nil, idOk, ABlk.lt, ints_LL, GB, tab64_LL, gC, wB, giC, noneB, tvC_LL]), (by simp [tupA, hpLt, tmLt, AV.lt, AE.lt, AC.lt, LL_cons, LL_nil, idOk, ABlk.lt, ints_LL, GB, tab64_LL, gC, wB, giC, noneB, tvC_LL])⟩ (by (repeat (first | exact trivial | refine ⟨trivial, ?_⟩ | refine ⟨rfl, ?_⟩))) ⟨by show ABlk.own _ = ABlk.own _; rw [Int.toNat_natCast, Nat.zero_add, Nat.mul_one, wL_set w' i (by omega)], rfl, rfl, rfl, trivial⟩) (⟨by show j + 1 ≤ p.length; omega, hor, by show (-1 : Int) ≤ (a : Int); omega, hes.symm⟩) (by omega)
            · have hje : j = p.length := by omega
              subst hje
              rw [List.drop_length, runE] at g4
              rw [← g4] at hst
              dsimp only at hst
              refine Wk.on ?_
              rw [decide_eq_false (show ¬ ((p.length : Nat) : Int) < ((p.length : Nat) : Int) by omega)]
              refine Wk.on ?_
              intro _
              refine Wk.on ?_
              refine Again.mk ((i + 1, s', w')) (Sub.nil ⟨rfl, rfl, (by simp [tab64_LL, gC, wB, giC, noneB, tvC_LL]), rfl, (by simp [tupA, hpLt, tmLt, AV.lt, AE.lt, AC.lt, LL_cons, LL_nil, idOk, ABlk.lt, ints_LL, GB, tab64_LL, gC, wB, giC, noneB, tvC_LL]), (by simp [tupA, hpLt, tmLt, AV.lt, AE.lt, AC.lt, LL_cons, LL_nil, idOk, ABlk.lt, ints_LL, GB, tab64_LL, gC, wB, giC, noneB, tvC_LL])⟩ (by (repeat (first | exact trivial | refine ⟨trivial, ?_⟩ | refine ⟨rfl, ?_⟩))) (by (repeat (first | exact trivial | refine ⟨trivial, ?_⟩ | refine ⟨rfl, ?_⟩)))) (⟨by show i + 1 ≤ V.length; omega, g2, fun _ => (by show V.getD (i + 1 - 1) [] ≠ []; rw [Nat.add_sub_cancel, ← hp]; exact hp0), hst.symm⟩) (by omega)
    · have hie : i = V.length := by omega
      subst hie
      rw [List.drop_length, runP] at h3
      refine Wk.on ?_
      rw [decide_eq_false (show ¬ ((V.length : Nat) : Int) < ((V.length : Nat) : Int) by omega)]
      refine Wk.on ?_
      intro _
      have hb : isBar g V = (decide (s = 2 ^ g.n - 1) && decide (2 ≤ V.length) && decide ((crN w g.ws : Int) < 2 * ((V.length : Int) - 1))) := by unfold isBar; rw [← h3]
      have hN8 : 2 ^ g.n ≤ 256 := Nat.pow_le_pow_right (j := 8) (by omega) (by omega)
      have hN0 := pow_pos2 g.n
      obtain ⟨N, hN⟩ : ∃ N, N = 2 ^ g.n := ⟨_, rfl⟩
      rw [← hN] at hN8 hN0 hb
      have hcr : crN w g.ws ≤ 10 := Nat.le_trans List.countP_le_length hg.ok.len
      refine Wk.on ?_
      rw [wrapU (by omega)]
      refine ⟨⟨by omega, by omega, by rw [shl1 hN]; unfold I64; omega⟩, ?_⟩
      rw [shl1 hN]
      refine Wk.on ?_
      by_cases c1 : s = N - 1
      · rw [decide_eq_true c1, Bool.true_and] at hb
        rw [decide_eq_true (show ((s : Nat) : Int) = ((N : Nat) : Int) - 1 by omega)]
        refine Wk.on ?_
        by_cases c2 : 2 ≤ V.length
        · rw [decide_eq_true c2, Bool.true_and] at hb
          rw [decide_eq_true (show (2 : Int) ≤ ((V.length : Nat) : Int) by omega)]
          refine Wk.on ?_
          refine CallA.ro2 [0] (.c (.int .i64 (crN w g.ws : Nat))) (between_spec hg.ok w) ?_
          refine Wk.on ?_
          exact AH.Fin.nil2 ⟨by rw [hb]; rfl, rfl, rfl⟩
        · rw [decide_eq_false c2, Bool.false_and] at hb
          rw [decide_eq_false (show ¬ (2 : Int) ≤ ((V.length : Nat) : Int) by omega)]
          refine Wk.on ?_
          exact AH.Fin.nil2 ⟨by rw [hb]; rfl, rfl, rfl⟩
      · rw [decide_eq_false c1, Bool.false_and, Bool.false_and] at hb
        rw [decide_eq_false (show ¬ ((s : Nat) : Int) = ((N : Nat) : Int) - 1 by omega)]
        refine Wk.on ?_
        exact AH.Fin.nil2 ⟨by rw [hb]; rfl, rfl, rfl⟩
end Go.Proofs.YtfphkpdobbffeaaDoor

/-
  SwitchJudges: rows under numbers
-/
namespace Go.Proofs.YtfphkpdobbffeaaDoor
open Go Go.AH
set_option maxRecDepth 100000
set_option maxHeartbeats 2000000

noncomputable def loopsJ : Code → List Code
  | .seq a b => loopsJ a ++ loopsJ b
  | .cond _ a b => loopsJ a ++ loopsJ b
  | .block _ c => loopsJ c
  | .loop c => .loop c :: loopsJ c
  | .rangeFunc _ _ _ c => loopsJ c
  | .scope c => loopsJ c
  | _ => []
noncomputable def jd0 : Code := ((Tryd.f7.body.map loopsJ).getD []).getD 0 .skip
noncomputable def jd1 : Code := ((Tryd.f7.body.map loopsJ).getD []).getD 1 .skip
noncomputable def jd2 : Code := ((Tryd.f7.body.map loopsJ).getD []).getD 2 .skip
noncomputable def jd3 : Code := ((Tryd.f7.body.map loopsJ).getD []).getD 3 .skip
theorem rgC_at : ∀ (V : List (List Int)) (b j : Nat), (rgC b V)[j]? = (V[j]?).map fun a => AC.row (b + j) a.length
  | [], _, _ => by simp [rgC]
  | a :: V, b, 0 => by simp [rgC]
  | a :: V, b, j + 1 => by
    rw [rgC, List.getElem?_cons_succ, List.getElem?_cons_succ, rgC_at V (b + 1) j, show b + 1 + j = b + (j + 1) by omega]
theorem rgC_len : ∀ (V : List (List Int)) (b : Nat), (rgC b V).length = V.length
  | [], _ => rfl
  | a :: V, b => by rw [rgC, List.length_cons, rgC_len V, List.length_cons]
theorem rg_at2 : ∀ (V : List (List Int)) (b j : Nat) {a : List Int}, V[j]? = some a → lk (rg b V) (b + j) = some (.row 3 1 (ints a))
  | [], _, _, _, h => by simp at h
  | c :: V, b, 0, a, h => by simp at h; subst h; simp [rg, lk]
  | c :: V, b, j + 1, a, h => by
    rw [rg, lk, if_neg (by omega), show b + (j + 1) = b + 1 + j by omega]
    exact rg_at2 V (b + 1) j (by simpa using h)
theorem rg_ex : ∀ (V : List (List Int)) (b : Nat) (p : Nat × ABlk), p ∈ rg b V → ∃ j a, V[j]? = some a ∧ p = (b + j, .row 3 1 (ints a))
  | [], _, _, h => absurd h List.not_mem_nil
  | a :: V, b, p, h => by
    rcases List.mem_cons.1 h with rfl | h
    · exact ⟨0, a, rfl, rfl⟩
    · obtain ⟨j, c, h1, rfl⟩ := rg_ex V (b + 1) p h
      exact ⟨j + 1, c, by simpa using h1, by rw [show b + 1 + j = b + (j + 1) by omega]⟩
theorem rgC_app (V : List (List Int)) (b : Nat) (c : List Int) : rgC b (V ++ [c]) = rgC b V ++ [.row (b + V.length) c.length] := by
  induction V generalizing b with
  | nil => rfl
  | cons a V ih => rw [List.cons_append, rgC, rgC, ih, List.cons_append, List.length_cons, show b + 1 + V.length = b + (V.length + 1) by omega]
theorem rn_ne {l : List (Nat × Nat)} {i : Nat} (h : ∀ p ∈ l, p.1 ≠ i) : rn l i = i := by unfold rn; rw [lk_none_lt h]; rfl
theorem rgC_grown {V : List (List Int)} {k n : Nat} {a c : List Int} (h : V[k]? = some a) (hc : c.length = n) (hV : V.length ≤ 8) : (rgC 41 V).set k (.row 51 n) = (rgC 41 (V.set k c)).map (AC.ren (rn [(41 + k, 51)])) := by
  have hk : k < V.length := by
    by_cases hk : k < V.length
    · exact hk
    · rw [List.getElem?_eq_none (by omega)] at h; cases h
  refine List.ext_getElem? fun j => ?_
  rw [List.getElem?_map, rgC_at, List.getElem?_set, List.getElem?_set, rgC_len, rgC_at]
  by_cases e : k = j
  · subst e
    rw [if_pos rfl, if_pos hk, if_pos rfl, if_pos hk]
    simp [AC.ren, rn, lk, hc]
  · rw [if_neg e, if_neg e]
    cases V[j]? with
    | none => rfl
    | some b =>
      simp only [Option.map_some, AC.ren]
      rw [rn_ne (by simp; omega)]
theorem lkAll_of {tm : List (Nat × AV)} {q : Nat → Nat} {n : Nat} (hq : ∀ i, idOk n i → q i = i) : ∀ {T : List (Nat × AV)}, tmLt n T → eqT tm T → lkAll tm q T
  | [], _, _ => trivial
  | (t, v) :: r, h, e => by
    have e1 := e.1
    cases hq2 : lk tm t with
    | none => rw [hq2] at e1; exact e1.elim
    | some u =>
      rw [hq2] at e1
      have e1 : u = v := e1
      exact ⟨by rw [hq2, e1, AV.ren_lt_id hq h.1], lkAll_of hq h.2 e.2⟩
theorem hpAll_of {hp FX : List (Nat × ABlk)} {q : Nat → Nat} {n : Nat} (hq : ∀ i, idOk n i → q i = i) : ∀ {T : List (Nat × ABlk)}, hpLt n T → (∀ p ∈ T, lk hp p.1 = some p.2) → hpAll hp q T
  | [], _, _ => trivial
  | (t, v) :: r, h, e => ⟨by rw [hq t h.1, ABlk.ren_lt_id hq h.2.1]; exact e (t, v) (List.mem_cons_self ..), hpAll_of (FX := FX) hq h.2.2 fun p hp => e p (List.mem_cons_of_mem _ hp)⟩
theorem hpAll_app {hp : List (Nat × ABlk)} {q : Nat → Nat} {B : List (Nat × ABlk)} (hB : hpAll hp q B) : ∀ {A : List (Nat × ABlk)}, hpAll hp q A → hpAll hp q (A ++ B)
  | [], _ => hB
  | (_, _) :: _, h => ⟨h.1, hpAll_app hB h.2⟩
theorem hpLt_keys {n : Nat} : ∀ {T : List (Nat × ABlk)}, hpLt n T → ∀ p ∈ T, idOk n p.1
  | [], _, p, hp => absurd hp List.not_mem_nil
  | (t, v) :: r, h, p, hp => by
    rcases List.mem_cons.1 hp with rfl | hp
    · exact h.1
    · exact hpLt_keys h.2.2 p hp
theorem hpLt_app {n : Nat} {B : List (Nat × ABlk)} (hB : hpLt n B) : ∀ {A : List (Nat × ABlk)}, hpLt n A → hpLt n (A ++ B)
  | [], _ => hB
  | (_, _) :: _, h => ⟨h.1, h.2.1, hpLt_app hB h.2.2⟩
theorem hpLt_up {n m : Nat} (h : n ≤ m) : ∀ {A : List (Nat × ABlk)}, hpLt n A → hpLt m A
  | [], _ => trivial
  | (_, _) :: _, g => ⟨idOk.mono g.1 h, ABlk.lt.mono g.2.1 h, hpLt_up h g.2.2⟩
theorem tmLt_up {n m : Nat} (h : n ≤ m) : ∀ {A : List (Nat × AV)}, tmLt n A → tmLt m A
  | [], _ => trivial
  | (_, _) :: _, g => ⟨AV.lt.mono g.1 h, tmLt_up h g.2⟩
theorem sub3 {s : AS} {FX : List (Nat × ABlk)} {kept : List (Nat × AV)} {V : List (List Int)} {n : Int} (l : List (Nat × Nat)) (hV : V.length ≤ 8) (hn : nodB (FX.map Prod.fst) = true) (hF : hpLt 40 FX) (hK : tmLt 40 kept) (hs : s.nt = 168 ∧ s.k0 = 4 ∧ 50 ≤ s.nx) (hl : ∀ p ∈ l, 40 ≤ p.1 ∧ p.1 < 50)
    (h20 : lk s.tm 20 = some (.c (.row (rn l 40) V.length))) (h21 : lk s.tm 21 = some (.c (.int .i64 n))) (hk : eqT s.tm kept) (h40 : lk s.hp (rn l 40) = some (.row 37 1 ((rgC 41 V).map (AC.ren (rn l)))))
    (hfx : ∀ i, idOk 40 i → lk s.hp i = lk FX i) (hrg : ∀ j a, V[j]? = some a → lk s.hp (rn l (41 + j)) = some (.row 3 1 (ints a))) (hqr : ∀ i, 40 ≤ i → i < 50 → 40 ≤ rn l i ∧ rn l i < 100000) (hqi : ∀ i j, 40 ≤ i → i < 50 → 40 ≤ j → j < 50 → rn l i = rn l j → i = j) :
    Sub s ⟨(20, .c (.row 40 V.length)) :: (21, .c (.int .i64 n)) :: kept, (40, .row 37 1 (rgC 41 V)) :: (FX ++ rg 41 V), 50, 168, 4⟩ l := by
  have hq : ∀ i, idOk 40 i → rn l i = i := fun i hi => rn_ne fun p hp e => by have := hl p hp; unfold idOk GB at hi; omega
  have hkeys := hpLt_keys hF
  have hn := nodB_sound hn
  exact {
    nt := hs.1.symm
    k0 := hs.2.1.symm
    k := ⟨by show 4 ≤ 50; omega, hs.2.2⟩
    fix := fun p hp => by have := hl p hp; have := hs.2.1; unfold GB; omega
    tm := ⟨h20, h21, lkAll_of hq hK hk⟩
    hp := ⟨h40, hpAll_app (by
      have := hpAll_rg (hp := s.hp) (q := rn l) (T := []) V 41 (fun p hp => by
        obtain ⟨j, a, h1, rfl⟩ := rg_ex V 41 p hp
        exact hrg j a h1) trivial
      rwa [List.append_nil] at this) (hpAll_of (FX := FX) hq hF fun p hp => by rw [hfx p.1 (hkeys p hp)]; exact lk_mem hn hp)⟩
    inj := by
      show (rn l 40 :: (FX ++ rg 41 V).map fun p => rn l p.1).Nodup
      rw [List.nodup_cons, List.map_append, List.nodup_append]
      have hFm : (FX.map fun p => rn l p.1) = FX.map Prod.fst := List.map_congr_left fun p hp => hq p.1 (hkeys p hp)
      have hin : ∀ p ∈ rg 41 V, 40 ≤ p.1 ∧ p.1 < 50 := fun p hp => by have := rg_mem hp; omega
      refine ⟨fun h => ?_, by rw [hFm]; exact hn, ?_, fun x hx y hy e => ?_⟩
      · have h4 := hqr 40 (by omega) (by omega)
        rcases List.mem_append.1 h with h | h
        · obtain ⟨p, hp, e⟩ := List.mem_map.1 h
          have h5 := hkeys p hp
          rw [hq p.1 h5] at e
          unfold idOk GB at h5; omega
        · obtain ⟨p, hp, e⟩ := List.mem_map.1 h
          have h5 := hin p hp
          have := hqi p.1 40 h5.1 h5.2 (by omega) (by omega) e
          have := (rg_mem hp).1
          omega
      · have h6 := rg_nodup V 41
        rw [show (fun p : Nat × ABlk => rn l p.1) = rn l ∘ Prod.fst from rfl, ← List.map_map]
        refine (List.pairwise_map).2 (List.Pairwise.imp_of_mem (fun {a b} ha hb hne e => ?_) h6)
        obtain ⟨p, hp, rfl⟩ := List.mem_map.1 ha
        obtain ⟨r, hr, rfl⟩ := List.mem_map.1 hb
        exact hne (hqi p.1 r.1 (hin p hp).1 (hin p hp).2 (hin r hr).1 (hin r hr).2 e)
      · obtain ⟨p, hp, rfl⟩ := List.mem_map.1 hx
        obtain ⟨r, hr, rfl⟩ := List.mem_map.1 hy
        have h5 := hkeys p hp
        have h6 := hqr r.1 (hin r hr).1 (hin r hr).2
        rw [hq p.1 h5] at e
        unfold idOk GB at h5; omega
    tlt := ⟨.inl (by show 40 < 50; omega), trivial, tmLt_up (by show 40 ≤ 50; omega) hK⟩
    hlt := ⟨.inl (by show 40 < 50; omega), rgC_LL V 41 (by show 41 + V.length ≤ 50; omega), hpLt_app (by
      have := rg_lt (n := 50) (T := []) V 41 (by omega) trivial
      rwa [List.append_nil] at this) (hpLt_up (by show 40 ≤ 50; omega) hF)⟩ }
def pW (P : List (List Int)) : List (List Int) := (P.take 10).map fun a => a.take 10
theorem rows_rgC (V : List (List Int)) (b : Nat) : ∃ rows : List (Nat × List Int), rows.map (fun p => AC.row p.1 p.2.length) = rgC b V ∧ rows.map (fun p => AC.tv (.leaf 1 p.2.length p.2)) = tvC V ∧ ∀ p ∈ rows, (p.1, ABlk.row 3 1 (ints p.2)) ∈ rg b V := by
  induction V generalizing b with
  | nil => exact ⟨[], rfl, rfl, fun p h => absurd h List.not_mem_nil⟩
  | cons a V ih =>
    obtain ⟨rows, h1, h2, h3⟩ := ih (b + 1)
    refine ⟨(b, a) :: rows, by rw [List.map_cons, h1]; rfl, by rw [List.map_cons, h2]; rfl, fun p hp => ?_⟩
    rcases List.mem_cons.1 hp with rfl | hp
    · exact List.mem_cons_self ..
    · exact List.mem_cons_of_mem _ (h3 p hp)
end Go.Proofs.YtfphkpdobbffeaaDoor

/-
  SwitchJudges: the loop over the places
-/
namespace Go.Proofs.YtfphkpdobbffeaaDoor
open Go Go.AH
set_option maxRecDepth 100000
set_option maxHeartbeats 2000000

def hp3r (g : Gm) (L0 L1 A B : List Int) : List (Nat × ABlk) := [(30, .own [.rs 31 0 A.length, .rs 32 0 B.length]), (31, .ro (ints A)), (32, .ro (ints B)), (7, .own (gC g 6)), (9, .own (gC g 8)), (5, .own [.rs 1 0 L0.length, .rs 2 0 L1.length]), (1, .ro (ints L0)), (2, .ro (ints L1)), (6, .row 60 2 (ints (fl g.ws))), (8, .row 60 2 (ints (fl g.ws))), (100002, .ro tab64), (100000, noneB)]
theorem hp3r_l (g : Gm) (L0 L1 A B : List Int) {n : Nat} (h : 40 ≤ n) (T : List (Nat × ABlk)) (hT : hpLt n T) : hpLt n (hp3r g L0 L1 A B ++ T) := ⟨.inl (by omega), by simp [ABlk.lt, gR, gC, gN, rC, noneB, LL_cons, LL_nil, AC.lt, idOk, tab64_LL, tvC_LL, GB] <;> omega, .inl (by omega), ints_LL _ _, .inl (by omega), ints_LL _ _, .inl (by omega), by simp [ABlk.lt, gR, gC, gN, rC, noneB, LL_cons, LL_nil, AC.lt, idOk, tab64_LL, tvC_LL, GB] <;> omega, .inl (by omega), by simp [ABlk.lt, gR, gC, gN, rC, noneB, LL_cons, LL_nil, AC.lt, idOk, tab64_LL, tvC_LL, GB] <;> omega, .inl (by omega), by simp [ABlk.lt, gR, gC, gN, rC, noneB, LL_cons, LL_nil, AC.lt, idOk, tab64_LL, tvC_LL, GB] <;> omega, .inl (by omega), ints_LL _ _, .inl (by omega), ints_LL _ _, .inl (by omega), ints_LL _ _, .inl (by omega), ints_LL _ _, .inr (by decide), by simp [ABlk.lt, gR, gC, gN, rC, noneB, LL_cons, LL_nil, AC.lt, idOk, tab64_LL, tvC_LL, GB] <;> omega, .inr (by decide), by simp [ABlk.lt, gR, gC, gN, rC, noneB, LL_cons, LL_nil, AC.lt, idOk, tab64_LL, tvC_LL, GB] <;> omega, hT⟩
theorem hp3r_lt (g : Gm) (L0 L1 A B : List Int) : hpLt 40 (hp3r g L0 L1 A B) := by
  have := hp3r_l g L0 L1 A B (n := 40) (by omega) [] trivial
  rwa [List.append_nil] at this
theorem hp3r_none {g : Gm} {L0 L1 A B : List Int} {i : Nat} (h1 : 41 ≤ i) (h2 : i < 60) : lk (hp3r g L0 L1 A B) i = none := lk_none_of fun p hp e => by
  have := hpLt_keys (hp3r_lt g L0 L1 A B) p hp
  unfold idOk GB at this; omega
theorem jd3_r {g : Gm} (hn2 : 2 ≤ g.n) (hn8 : g.n ≤ 8) (L0 L1 A B : List Int) (hL1 : L1.length ≤ 9223372036854775807) (r : Int) {Q : Exit → AS → Prop}
    (hQ : ∀ V : List (List Int), V.length ≤ 8 → (∀ a ∈ V, a.length ≤ 8) → Q (.exit 6) ⟨[(20, .c (.row 40 V.length)), (21, .c (.int .i64 g.n)), (4, .c (.ptr 5 0)), (7, .c (.ptr 7 0)), (8, .c (.ptr 9 0)), (9, .c (.ptr 30 0)), (12, .c (.int .i64 r))], (40, .row 37 1 (tvC V)) :: hp3r g L0 L1 A B, 50, 168, 4⟩) :
    Tr Tryd.prog jd3 ⟨[(20, .c .nils), (21, .c (.int .i64 0)), (4, .c (.ptr 5 0)), (7, .c (.ptr 7 0)), (8, .c (.ptr 9 0)), (9, .c (.ptr 30 0)), (12, .c (.int .i64 r))], hp3r g L0 L1 A B, 50, 168, 4⟩ Q := by
  refine Tr.post ?_
  refine Tr.loop (md := true) (X := Nat × List (List Int)) (st := fun x => ⟨[(20, .c (match x.1 with | 0 => .nils | _ + 1 => .row 40 x.2.length)), (21, .c (.int .i64 x.1)), (4, .c (.ptr 5 0)), (7, .c (.ptr 7 0)), (8, .c (.ptr 9 0)), (9, .c (.ptr 30 0)), (12, .c (.int .i64 r))], (match x.1 with | 0 => hp3r g L0 L1 A B | _ + 1 => (40, .row 37 1 (rgC 41 x.2)) :: (hp3r g L0 L1 A B ++ rg 41 x.2)), 50, 168, 4⟩) (inv := fun x => x.1 ≤ g.n ∧ x.2.length ≤ x.1 ∧ ∀ a ∈ x.2, a.length ≤ x.1) (μ := fun x => g.n - x.1) (x0 := (0, [])) (l := []) tok ⟨by omega, by simp, fun a h => absurd h List.not_mem_nil⟩ ?_ ?_
  · exact Sub.nil ⟨rfl, rfl, (by simp [tab64_LL, gC, wB, giC, noneB, gst, tC, pC, gN, gR, rC, rB, tvC_LL, hp3r, rgC, rg]), rfl, (by simp [tupA, hpLt, tmLt, AV.lt, AE.lt, AC.lt, LL_cons, LL_nil, idOk, ABlk.lt, ints_LL, GB, tab64_LL, gC, wB, giC, noneB, gst, tC, pC, gN, gR, rC, rB, tvC_LL, hp3r, rgC, rg]), (by simp [tupA, hpLt, tmLt, AV.lt, AE.lt, AC.lt, LL_cons, LL_nil, idOk, ABlk.lt, ints_LL, GB, tab64_LL, gC, wB, giC, noneB, gst, tC, pC, gN, gR, rC, rB, tvC_LL, hp3r, rgC, rg])⟩ (by (repeat (first | exact trivial | refine ⟨trivial, ?_⟩ | refine ⟨rfl, ?_⟩))) (by (repeat (first | exact trivial | refine ⟨trivial, ?_⟩ | refine ⟨rfl, ?_⟩)))
  rintro ⟨v, V⟩ ⟨g1, g2, g3⟩
  dsimp only at g1 g2 g3 ⊢
  rcases v with _ | v
  · refine Wk.on ?_
    rw [decide_eq_true (show ((0 : Nat) : Int) < ((g.n : Nat) : Int) by omega)]
    refine Wk.on ?_
    by_cases hl : 0 < L1.length
    · rw [decide_eq_true (show ((0 : Nat) : Int) < ((L1.length : Nat) : Int) by omega)]
      refine Wk.on ?_
      refine Tr.draw (md := true) [⟨[], [136, 137, 138, 139, 140, 141, 142, 143, 144, 145, 146], [], [], []⟩, ⟨[0], [136, 137, 138, 139, 140, 141, 142, 143, 144, 145, 146], [], [], []⟩, ⟨[], [134, 135, 138, 142, 143, 144], [0, 1], [], []⟩, ⟨[2], [134, 135, 138, 142, 143, 144], [0, 1], [], []⟩, ⟨[], [134, 135, 136, 137, 142, 143, 144], [0, 1, 2, 3], [], []⟩, ⟨[2, 3, 4], [134, 135, 142, 143, 144], [0, 1], [], []⟩, ⟨[2, 3, 4, 5], [134, 135, 142, 143, 144], [0, 1], [], []⟩, ⟨[2, 3, 4, 5, 6], [134, 135, 142, 143, 144], [0, 1], [], []⟩, ⟨[], [134, 135, 136, 137, 138, 139, 140, 141], [0, 1, 2, 3, 4, 5, 6, 7], [], []⟩, ⟨[8], [134, 135, 136, 137, 138, 139, 140, 141], [0, 1, 2, 3, 4, 5, 6, 7], [], []⟩, ⟨[8, 9], [134, 135, 136, 137, 138, 139, 140, 141], [0, 1, 2, 3, 4, 5, 6, 7], [], []⟩, ⟨[2, 3, 4, 5, 6, 7, 8, 9, 10], [134, 135], [0, 1], [], []⟩, ⟨[2, 3, 4, 5, 6, 7, 8, 9, 10, 11], [134, 135], [0, 1], [], []⟩] tok (by kernel_rfl) (by kernel_rfl) ?_
      refine Wk.on ?_
      refine ⟨by rw [ints_len, Int.toNat_natCast]; omega, ?_⟩
      simp only [ints_getD, Int.toNat_natCast, Nat.zero_add, Nat.mul_one]
      refine Wk.on ?_
      rw [wrapU (by omega)]
      refine ⟨⟨wrap_nn _, by omega⟩, ?_⟩
      refine Wk.on ?_
      rw [um_wrap _ (by omega) (by omega)]
      refine Wk.on ?_
      rw [show min (0 : Int) ((um (L1.getD 0 0) g.n : Nat) : Int) = 0 by omega]
      refine Wk.on ?_
      exact Again.mk (1, [[((0 : Nat) : Int)]]) (Sub.new [(40, 51), (41, 53)] ⟨rfl, rfl, (by simp [tupA, hpLt, tmLt, AV.lt, AE.lt, AC.lt, LL_cons, LL_nil, idOk, ABlk.lt, ints_LL, GB, tab64_LL, gC, wB, giC, noneB, gst, tC, pC, gN, gR, rC, rB, tvC_LL, hp3r, rgC, rg])⟩ rfl (by (repeat (first | exact trivial | refine ⟨trivial, ?_⟩ | refine ⟨rfl, ?_⟩))) ⟨rfl, rfl, congrArg (fun c => some (ABlk.ro c)) (ints_ren _ _).symm, congrArg (fun c => some (ABlk.ro c)) (ints_ren _ _).symm, rfl, rfl, rfl, congrArg (fun c => some (ABlk.ro c)) (ints_ren _ _).symm, congrArg (fun c => some (ABlk.ro c)) (ints_ren _ _).symm, congrArg (fun c => some (ABlk.row 60 2 c)) (ints_ren _ _).symm, congrArg (fun c => some (ABlk.row 60 2 c)) (ints_ren _ _).symm, congrArg (fun c => some (ABlk.ro c)) (tab64_ren _).symm, rfl, rfl, trivial⟩ rfl (by simp [tupA, hpLt, tmLt, AV.lt, AE.lt, AC.lt, LL_cons, LL_nil, idOk, ABlk.lt, ints_LL, GB, tab64_LL, gC, wB, giC, noneB, gst, tC, pC, gN, gR, rC, rB, tvC_LL, hp3r, rgC, rg]) (by simp [tupA, hpLt, tmLt, AV.lt, AE.lt, AC.lt, LL_cons, LL_nil, idOk, ABlk.lt, ints_LL, GB, tab64_LL, gC, wB, giC, noneB, gst, tC, pC, gN, gR, rC, rB, tvC_LL, hp3r, rgC, rg])) ⟨by show 1 ≤ g.n; omega, by simp, fun a ha => by simp at ha; subst ha; simp⟩ (by show g.n - 1 < g.n - 0; omega)
    · rw [decide_eq_false (show ¬ ((0 : Nat) : Int) < ((L1.length : Nat) : Int) by omega)]
      refine Wk.on ?_
      exact Again.mk (1, [[((0 : Nat) : Int)]]) (Sub.new [(40, 51), (41, 53)] ⟨rfl, rfl, (by simp [tupA, hpLt, tmLt, AV.lt, AE.lt, AC.lt, LL_cons, LL_nil, idOk, ABlk.lt, ints_LL, GB, tab64_LL, gC, wB, giC, noneB, gst, tC, pC, gN, gR, rC, rB, tvC_LL, hp3r, rgC, rg])⟩ rfl (by (repeat (first | exact trivial | refine ⟨trivial, ?_⟩ | refine ⟨rfl, ?_⟩))) ⟨rfl, rfl, congrArg (fun c => some (ABlk.ro c)) (ints_ren _ _).symm, congrArg (fun c => some (ABlk.ro c)) (ints_ren _ _).symm, rfl, rfl, rfl, congrArg (fun c => some (ABlk.ro c)) (ints_ren _ _).symm, congrArg (fun c => some (ABlk.ro c)) (ints_ren _ _).symm, congrArg (fun c => some (ABlk.row 60 2 c)) (ints_ren _ _).symm, congrArg (fun c => some (ABlk.row 60 2 c)) (ints_ren _ _).symm, congrArg (fun c => some (ABlk.ro c)) (tab64_ren _).symm, rfl, rfl, trivial⟩ rfl (by simp [tupA, hpLt, tmLt, AV.lt, AE.lt, AC.lt, LL_cons, LL_nil, idOk, ABlk.lt, ints_LL, GB, tab64_LL, gC, wB, giC, noneB, gst, tC, pC, gN, gR, rC, rB, tvC_LL, hp3r, rgC, rg]) (by simp [tupA, hpLt, tmLt, AV.lt, AE.lt, AC.lt, LL_cons, LL_nil, idOk, ABlk.lt, ints_LL, GB, tab64_LL, gC, wB, giC, noneB, gst, tC, pC, gN, gR, rC, rB, tvC_LL, hp3r, rgC, rg])) ⟨by show 1 ≤ g.n; omega, by simp, fun a ha => by simp at ha; subst ha; simp⟩ (by show g.n - 1 < g.n - 0; omega)
  by_cases hv : v + 1 < g.n
  · refine Wk.on ?_
    rw [decide_eq_true (show ((v + 1 : Nat) : Int) < ((g.n : Nat) : Int) by omega)]
    refine Wk.on ?_
    by_cases hl : v + 1 < L1.length
    · rw [decide_eq_true (show ((v + 1 : Nat) : Int) < ((L1.length : Nat) : Int) by omega)]
      refine Wk.on ?_
      refine Tr.draw (md := true) [⟨[], [136, 137, 138, 139, 140, 141, 142, 143, 144, 145, 146], [], [], []⟩, ⟨[0], [136, 137, 138, 139, 140, 141, 142, 143, 144, 145, 146], [], [], []⟩, ⟨[], [134, 135, 138, 142, 143, 144], [0, 1], [], []⟩, ⟨[2], [134, 135, 138, 142, 143, 144], [0, 1], [], []⟩, ⟨[], [134, 135, 136, 137, 142, 143, 144], [0, 1, 2, 3], [], []⟩, ⟨[2, 3, 4], [134, 135, 142, 143, 144], [0, 1], [], []⟩, ⟨[2, 3, 4, 5], [134, 135, 142, 143, 144], [0, 1], [], []⟩, ⟨[2, 3, 4, 5, 6], [134, 135, 142, 143, 144], [0, 1], [], []⟩, ⟨[], [134, 135, 136, 137, 138, 139, 140, 141], [0, 1, 2, 3, 4, 5, 6, 7], [], []⟩, ⟨[8], [134, 135, 136, 137, 138, 139, 140, 141], [0, 1, 2, 3, 4, 5, 6, 7], [], []⟩, ⟨[8, 9], [134, 135, 136, 137, 138, 139, 140, 141], [0, 1, 2, 3, 4, 5, 6, 7], [], []⟩, ⟨[2, 3, 4, 5, 6, 7, 8, 9, 10], [134, 135], [0, 1], [], []⟩, ⟨[2, 3, 4, 5, 6, 7, 8, 9, 10, 11], [134, 135], [0, 1], [], []⟩] tok (by kernel_rfl) (by kernel_rfl) ?_
      refine Wk.on ?_
      refine ⟨by rw [ints_len, Int.toNat_natCast]; omega, ?_⟩
      simp only [ints_getD, Int.toNat_natCast, Nat.zero_add, Nat.mul_one]
      refine Wk.on ?_
      rw [wrapU (by omega)]
      refine ⟨⟨wrap_nn _, by omega⟩, ?_⟩
      refine Wk.on ?_
      rw [um_wrap _ (by omega) (by omega)]
      refine Wk.on ?_
      generalize um (L1.getD (v + 1) 0) g.n = u at *
      by_cases hk : u < V.length
      · rw [show min ((V.length : Nat) : Int) ((u : Nat) : Int) = ((u : Nat) : Int) by omega]
        refine Wk.on ?_
        rw [decide_eq_false (show ¬ ((u : Nat) : Int) = ((V.length : Nat) : Int) by omega)]
        refine Wk.on ?_
        obtain ⟨a, ha⟩ : ∃ a, V[u]? = some a := ⟨V[u], List.getElem?_eq_getElem hk⟩
        have hal := g3 a (List.mem_of_getElem? ha)
        refine ⟨by rw [rgC_len, Int.toNat_natCast]; omega, ?_⟩
        rw [show (rgC 41 V).getD (((u : Nat) : Int).toNat * 1) AC.nils = .row (41 + u) a.length from by rw [Int.toNat_natCast, Nat.mul_one, List.getD_eq_getElem?_getD, rgC_at, ha]; rfl]
        refine Wk.on ?_
        dsimp only
        have hL : ∀ X, lk ((50, X) :: (40, ABlk.row 37 1 (rgC 41 V)) :: (hp3r g L0 L1 A B ++ rg 41 V)) (41 + u) = some (.row 3 1 (ints a)) := fun X => by
          rw [lk, if_neg (by omega), lk, if_neg (by omega), lk_append, hp3r_none (by omega) (by omega)]
          exact rg_at2 V 41 u ha
        have hD : ∀ X Y Z, lk ((51, Y) :: del ((50, X) :: (40, Z) :: (hp3r g L0 L1 A B ++ rg 41 V)) (41 + u)) 40 = some Z := fun X Y Z => by
          rw [lk, if_neg (by omega), lk_del, if_neg (by omega)]; rfl
        rw [hL]
        dsimp only
        refine ⟨⟨Nat.le_of_ble_eq_true rfl, rfl, rfl, by rw [ints_len, Nat.mul_one], by show ((a.length + 1 : Nat) : Int) * 8 ≤ _; omega, by omega⟩, ?_⟩
        refine Wk.on ?_
        dsimp only
        rw [hD]
        refine Wk.on ?_
        dsimp only
        rw [hD]
        refine Wk.on ?_
        refine ⟨⟨rfl, by rw [rgC_len, Int.toNat_natCast]; omega⟩, ?_⟩
        refine Wk.on ?_
        exact Again.mk (v + 1 + 1, V.set u (a ++ [((v + 1 : Nat) : Int)])) (by
          have hS : ∀ (X Y Z W : ABlk) (i : Nat), lk (up ((51, Y) :: del ((50, X) :: (40, Z) :: (hp3r g L0 L1 A B ++ rg 41 V)) (41 + u)) 40 W) i = if 40 = i then some W else if 51 = i then some Y else if 41 + u = i then none else if 50 = i then some X else lk (hp3r g L0 L1 A B ++ rg 41 V) i := fun X Y Z W i => by
            rw [lk_up]
            by_cases e : 40 = i
            · rw [if_pos e, if_pos e]
            · rw [if_neg e, if_neg e, lk]
              by_cases e2 : 51 = i
              · rw [if_pos e2, if_pos e2]
              · rw [if_neg e2, if_neg e2, lk_del]
                by_cases e3 : 41 + u = i
                · rw [if_pos e3, if_pos e3]
                · rw [if_neg e3, if_neg e3, lk, lk, if_neg e]
          have hq : ∀ i, i ≠ 41 + u → rn [(41 + u, 51)] i = i := fun i h => rn_ne (by simp; omega)
          have hqu : rn [(41 + u, 51)] (41 + u) = 51 := by simp [rn, lk]
          refine sub3 [(41 + u, 51)] (by rw [List.length_set]; omega) rfl (hp3r_lt g L0 L1 A B) ⟨.inl (by omega), .inl (by omega), .inl (by omega), .inl (by omega), trivial, trivial⟩ ⟨rfl, rfl, Nat.le_of_ble_eq_true rfl⟩ (by simp; omega) ?_ rfl ⟨rfl, rfl, rfl, rfl, rfl, trivial⟩ ?_ (fun i hi => ?_) (fun j b hb => ?_) (fun i h1 h2 => ?_) (fun i j h1 h2 h3 h4 e => ?_)
          · rw [hq 40 (by omega), List.length_set]; rfl
          · rw [hq 40 (by omega)]
            refine (hS _ _ _ _ 40).trans ?_
            rw [if_pos rfl]
            have := rgC_grown (k := u) (n := a.length + 1) (c := a ++ [((v + 1 : Nat) : Int)]) ha (by simp) (by omega)
            rw [← this, Int.toNat_natCast, Nat.mul_one]
            rfl
          · refine (hS _ _ _ _ i).trans ?_
            unfold idOk GB at hi
            rw [if_neg (by omega), if_neg (by omega), if_neg (by omega), if_neg (by omega), lk_append, show lk (rg 41 V) i = none from lk_none_of fun p hp e => by have := rg_mem hp; omega, Option.or_none]
          · have hb : (V.set u (a ++ [((v + 1 : Nat) : Int)]))[j]? = some b := hb
            have hj : j < (V.set u (a ++ [((v + 1 : Nat) : Int)])).length := by
              by_cases hj : j < (V.set u (a ++ [((v + 1 : Nat) : Int)])).length
              · exact hj
              · rw [List.getElem?_eq_none (by omega)] at hb; cases hb
            rw [List.length_set] at hj
            rw [List.getElem?_set] at hb
            by_cases e : u = j
            · subst e
              rw [if_pos rfl, if_pos hk] at hb
              injection hb with hb; subst hb
              rw [hqu]
              refine (hS _ _ _ _ 51).trans ?_
              rw [if_neg (by omega), if_pos rfl]
              show some (ABlk.row 3 1 (ints a ++ [.int .i64 ((v + 1 : Nat) : Int)])) = _
              simp [ints]
            · rw [if_neg e] at hb
              rw [hq (41 + j) (by omega)]
              refine (hS _ _ _ _ (41 + j)).trans ?_
              rw [if_neg (by omega), if_neg (by omega), if_neg (by omega), if_neg (by omega), lk_append, hp3r_none (by omega) (by omega)]
              exact rg_at2 V 41 j hb
          · by_cases e : i = 41 + u
            · subst e; rw [hqu]; omega
            · rw [hq i e]; omega
          · by_cases e1 : i = 41 + u
            · by_cases e2 : j = 41 + u
              · omega
              · rw [e1, hqu, hq j e2] at e; omega
            · by_cases e2 : j = 41 + u
              · rw [e2, hqu, hq i e1] at e; omega
              · rw [hq i e1, hq j e2] at e; exact e) ⟨by show v + 1 + 1 ≤ g.n; omega, by show (V.set u _).length ≤ v + 1 + 1; rw [List.length_set]; omega, fun b hb => by
            obtain ⟨j, hj⟩ := List.getElem?_of_mem hb
            rw [List.getElem?_set] at hj
            by_cases e : u = j
            · rw [if_pos e] at hj
              rw [if_pos (by omega)] at hj
              injection hj with hj; subst hj; rw [List.length_append]; show a.length + 1 ≤ v + 1 + 1; omega
            · rw [if_neg e] at hj
              have := g3 b (List.mem_of_getElem? hj); show b.length ≤ v + 1 + 1; omega⟩ (by show g.n - (v + 1 + 1) < g.n - (v + 1); omega)
      · rw [show min ((V.length : Nat) : Int) ((u : Nat) : Int) = ((V.length : Nat) : Int) by omega]
        refine Wk.on ?_
        rw [decide_eq_true (show ((V.length : Nat) : Int) = ((V.length : Nat) : Int) from rfl)]
        refine Wk.on ?_
        refine ⟨⟨Nat.le_of_ble_eq_true rfl, rfl, rfl, by rw [rgC_len, Nat.mul_one], by show ((V.length + 1 : Nat) : Int) * 24 ≤ _; omega, by omega⟩, ?_⟩
        refine Wk.on ?_
        refine ⟨by rw [List.length_append, rgC_len, Int.toNat_natCast]; show V.length * 1 + 1 ≤ V.length + 1; omega, ?_⟩
        have hN : ∀ X : List AC, X = [AC.nils] → (rgC 41 V ++ X).getD (((V.length : Nat) : Int).toNat * 1) AC.nils = AC.nils := fun X hX => by
          subst hX
          rw [Int.toNat_natCast, Nat.mul_one, List.getD_eq_getElem?_getD, List.getElem?_append_right (by rw [rgC_len]; exact Nat.le_refl _), rgC_len, Nat.sub_self]; rfl
        rw [hN]
        rotate_left
        · rfl
        refine Wk.on ?_
        refine ⟨⟨rfl, by rw [List.length_append, rgC_len, Int.toNat_natCast]; show V.length * 1 + 1 ≤ V.length + 1; omega⟩, ?_⟩
        refine Wk.on ?_
        exact Again.mk (v + 1 + 1, V ++ [[((v + 1 : Nat) : Int)]]) (by
          have hS : ∀ (X Y Z W U T : ABlk) (i : Nat), lk (up ((53, Y) :: (52, U) :: (51, T) :: del ((50, X) :: (40, Z) :: (hp3r g L0 L1 A B ++ rg 41 V)) 40) 51 W) i = if 51 = i then some W else if 53 = i then some Y else if 52 = i then some U else if 40 = i then none else if 50 = i then some X else lk (hp3r g L0 L1 A B ++ rg 41 V) i := fun X Y Z W U T i => by
            rw [lk_up]
            by_cases e : 51 = i
            · rw [if_pos e, if_pos e]
            · rw [if_neg e, if_neg e, lk]
              by_cases e2 : 53 = i
              · rw [if_pos e2, if_pos e2]
              · rw [if_neg e2, if_neg e2, lk]
                by_cases e4 : 52 = i
                · rw [if_pos e4, if_pos e4]
                · rw [if_neg e4, if_neg e4, lk, if_neg e, lk_del]
                  by_cases e3 : 40 = i
                  · rw [if_pos e3, if_pos e3]
                  · rw [if_neg e3, if_neg e3, lk, lk, if_neg e3]
          have hq : ∀ i, i ≠ 40 → i ≠ 41 + V.length → rn [(40, 51), (41 + V.length, 53)] i = i := fun i h h2 => rn_ne (by simp; omega)
          have hq0 : rn [(40, 51), (41 + V.length, 53)] 40 = 51 := by simp [rn, lk]
          have hqu : rn [(40, 51), (41 + V.length, 53)] (41 + V.length) = 53 := by
            unfold rn; rw [lk, if_neg (by omega), lk, if_pos rfl]; rfl
          refine sub3 [(40, 51), (41 + V.length, 53)] (by rw [List.length_append]; show V.length + 1 ≤ 8; omega) rfl (hp3r_lt g L0 L1 A B) ⟨.inl (by omega), .inl (by omega), .inl (by omega), .inl (by omega), trivial, trivial⟩ ⟨rfl, rfl, Nat.le_of_ble_eq_true rfl⟩ (by simp; omega) ?_ rfl ⟨rfl, rfl, rfl, rfl, rfl, trivial⟩ ?_ (fun i hi => ?_) (fun j b hb => ?_) (fun i h1 h2 => ?_) (fun i j h1 h2 h3 h4 e => ?_)
          · rw [hq0, List.length_append]; rfl
          · rw [hq0]
            refine (hS _ _ _ _ _ _ 51).trans ?_
            rw [if_pos rfl, rgC_app, List.map_append, rgC_ren V 41 41 fun i h1 h2 => by rw [hq i (by omega) (by omega)]; omega]
            show some (ABlk.row 37 1 (List.set (rgC 41 V ++ [AC.nils]) _ _)) = some (ABlk.row 37 1 (rgC 41 V ++ [AC.row (rn _ (41 + V.length)) 1]))
            rw [hqu, Int.toNat_natCast, Nat.mul_one]
            have h1 := rgC_len V 41
            simp [List.set_append, h1]
          · refine (hS _ _ _ _ _ _ i).trans ?_
            unfold idOk GB at hi
            rw [if_neg (by omega), if_neg (by omega), if_neg (by omega), if_neg (by omega), if_neg (by omega), lk_append, show lk (rg 41 V) i = none from lk_none_of fun p hp e => by have := rg_mem hp; omega, Option.or_none]
          · have hb : (V ++ [[((v + 1 : Nat) : Int)]])[j]? = some b := hb
            by_cases hj : j < V.length
            · rw [List.getElem?_append_left hj] at hb
              rw [hq (41 + j) (by omega) (by omega)]
              refine (hS _ _ _ _ _ _ (41 + j)).trans ?_
              rw [if_neg (by omega), if_neg (by omega), if_neg (by omega), if_neg (by omega), if_neg (by omega), lk_append, hp3r_none (by omega) (by omega)]
              exact rg_at2 V 41 j hb
            · rw [List.getElem?_append_right (by omega)] at hb
              have e : j = V.length := by
                by_cases e : j = V.length
                · exact e
                · rw [List.getElem?_eq_none (by show 1 ≤ j - V.length; omega)] at hb; cases hb
              subst e
              rw [Nat.sub_self] at hb
              injection hb with hb; subst hb
              rw [hqu]
              refine (hS _ _ _ _ _ _ 53).trans ?_
              rw [if_neg (by omega), if_pos rfl]
              rfl
          · by_cases e : i = 41 + V.length
            · rw [e, hqu]; omega
            · by_cases e2 : i = 40
              · rw [e2, hq0]; omega
              · rw [hq i e2 e]; omega
          · by_cases e1 : i = 41 + V.length
            · by_cases e2 : j = 41 + V.length
              · omega
              · by_cases e3 : j = 40
                · rw [e1, e3, hqu, hq0] at e; omega
                · rw [e1, hqu, hq j e3 e2] at e; omega
            · by_cases e4 : i = 40
              · by_cases e2 : j = 41 + V.length
                · rw [e2, e4, hqu, hq0] at e; omega
                · by_cases e3 : j = 40
                  · omega
                  · rw [e4, hq0, hq j e3 e2] at e; omega
              · by_cases e2 : j = 41 + V.length
                · rw [e2, hqu, hq i e4 e1] at e; omega
                · by_cases e3 : j = 40
                  · rw [e3, hq0, hq i e4 e1] at e; omega
                  · rw [hq i e4 e1, hq j e3 e2] at e; exact e) ⟨by show v + 1 + 1 ≤ g.n; omega, by show (V ++ [_]).length ≤ v + 1 + 1; rw [List.length_append]; show V.length + 1 ≤ v + 1 + 1; omega, fun b hb => by
            rcases List.mem_append.1 hb with hb | hb
            · have := g3 b hb; show b.length ≤ v + 1 + 1; omega
            · simp only [List.mem_singleton] at hb; subst hb; show 1 ≤ v + 1 + 1; omega⟩ (by show g.n - (v + 1 + 1) < g.n - (v + 1); omega)
    · rw [decide_eq_false (show ¬ ((v + 1 : Nat) : Int) < ((L1.length : Nat) : Int) by omega)]
      refine Wk.on ?_
      rw [decide_eq_true (show ((V.length : Nat) : Int) = ((V.length : Nat) : Int) from rfl)]
      refine Wk.on ?_
      refine ⟨⟨Nat.le_of_ble_eq_true rfl, rfl, rfl, by rw [rgC_len, Nat.mul_one], by show ((V.length + 1 : Nat) : Int) * 24 ≤ _; omega, by omega⟩, ?_⟩
      refine Wk.on ?_
      refine ⟨by rw [List.length_append, rgC_len, Int.toNat_natCast]; show V.length * 1 + 1 ≤ V.length + 1; omega, ?_⟩
      have hN : ∀ X : List AC, X = [AC.nils] → (rgC 41 V ++ X).getD (((V.length : Nat) : Int).toNat * 1) AC.nils = AC.nils := fun X hX => by
        subst hX
        rw [Int.toNat_natCast, Nat.mul_one, List.getD_eq_getElem?_getD, List.getElem?_append_right (by rw [rgC_len]; exact Nat.le_refl _), rgC_len, Nat.sub_self]; rfl
      rw [hN]
      rotate_left
      · rfl
      refine Wk.on ?_
      refine ⟨⟨rfl, by rw [List.length_append, rgC_len, Int.toNat_natCast]; show V.length * 1 + 1 ≤ V.length + 1; omega⟩, ?_⟩
      refine Wk.on ?_
      exact Again.mk (v + 1 + 1, V ++ [[((v + 1 : Nat) : Int)]]) (by
        have hS : ∀ (X Y Z W U T : ABlk) (i : Nat), lk (up ((53, Y) :: (52, U) :: (51, T) :: del ((50, X) :: (40, Z) :: (hp3r g L0 L1 A B ++ rg 41 V)) 40) 51 W) i = if 51 = i then some W else if 53 = i then some Y else if 52 = i then some U else if 40 = i then none else if 50 = i then some X else lk (hp3r g L0 L1 A B ++ rg 41 V) i := fun X Y Z W U T i => by
          rw [lk_up]
          by_cases e : 51 = i
          · rw [if_pos e, if_pos e]
          · rw [if_neg e, if_neg e, lk]
            by_cases e2 : 53 = i
            · rw [if_pos e2, if_pos e2]
            · rw [if_neg e2, if_neg e2, lk]
              by_cases e4 : 52 = i
              · rw [if_pos e4, if_pos e4]
              · rw [if_neg e4, if_neg e4, lk, if_neg e, lk_del]
                by_cases e3 : 40 = i
                · rw [if_pos e3, if_pos e3]
                · rw [if_neg e3, if_neg e3, lk, lk, if_neg e3]
        have hq : ∀ i, i ≠ 40 → i ≠ 41 + V.length → rn [(40, 51), (41 + V.length, 53)] i = i := fun i h h2 => rn_ne (by simp; omega)
        have hq0 : rn [(40, 51), (41 + V.length, 53)] 40 = 51 := by simp [rn, lk]
        have hqu : rn [(40, 51), (41 + V.length, 53)] (41 + V.length) = 53 := by
          unfold rn; rw [lk, if_neg (by omega), lk, if_pos rfl]; rfl
        refine sub3 [(40, 51), (41 + V.length, 53)] (by rw [List.length_append]; show V.length + 1 ≤ 8; omega) rfl (hp3r_lt g L0 L1 A B) ⟨.inl (by omega), .inl (by omega), .inl (by omega), .inl (by omega), trivial, trivial⟩ ⟨rfl, rfl, Nat.le_of_ble_eq_true rfl⟩ (by simp; omega) ?_ rfl ⟨rfl, rfl, rfl, rfl, rfl, trivial⟩ ?_ (fun i hi => ?_) (fun j b hb => ?_) (fun i h1 h2 => ?_) (fun i j h1 h2 h3 h4 e => ?_)
        · rw [hq0, List.length_append]; rfl
        · rw [hq0]
          refine (hS _ _ _ _ _ _ 51).trans ?_
          rw [if_pos rfl, rgC_app, List.map_append, rgC_ren V 41 41 fun i h1 h2 => by rw [hq i (by omega) (by omega)]; omega]
          show some (ABlk.row 37 1 (List.set (rgC 41 V ++ [AC.nils]) _ _)) = some (ABlk.row 37 1 (rgC 41 V ++ [AC.row (rn _ (41 + V.length)) 1]))
          rw [hqu, Int.toNat_natCast, Nat.mul_one]
          have h1 := rgC_len V 41
          simp [List.set_append, h1]
        · refine (hS _ _ _ _ _ _ i).trans ?_
          unfold idOk GB at hi
          rw [if_neg (by omega), if_neg (by omega), if_neg (by omega), if_neg (by omega), if_neg (by omega), lk_append, show lk (rg 41 V) i = none from lk_none_of fun p hp e => by have := rg_mem hp; omega, Option.or_none]
        · have hb : (V ++ [[((v + 1 : Nat) : Int)]])[j]? = some b := hb
          by_cases hj : j < V.length
          · rw [List.getElem?_append_left hj] at hb
            rw [hq (41 + j) (by omega) (by omega)]
            refine (hS _ _ _ _ _ _ (41 + j)).trans ?_
            rw [if_neg (by omega), if_neg (by omega), if_neg (by omega), if_neg (by omega), if_neg (by omega), lk_append, hp3r_none (by omega) (by omega)]
            exact rg_at2 V 41 j hb
          · rw [List.getElem?_append_right (by omega)] at hb
            have e : j = V.length := by
              by_cases e : j = V.length
              · exact e
              · rw [List.getElem?_eq_none (by show 1 ≤ j - V.length; omega)] at hb; cases hb
            subst e
            rw [Nat.sub_self] at hb
            injection hb with hb; subst hb
            rw [hqu]
            refine (hS _ _ _ _ _ _ 53).trans ?_
            rw [if_neg (by omega), if_pos rfl]
            rfl
        · by_cases e : i = 41 + V.length
          · rw [e, hqu]; omega
          · by_cases e2 : i = 40
            · rw [e2, hq0]; omega
            · rw [hq i e2 e]; omega
        · by_cases e1 : i = 41 + V.length
          · by_cases e2 : j = 41 + V.length
            · omega
            · by_cases e3 : j = 40
              · rw [e1, e3, hqu, hq0] at e; omega
              · rw [e1, hqu, hq j e3 e2] at e; omega
          · by_cases e4 : i = 40
            · by_cases e2 : j = 41 + V.length
              · rw [e2, e4, hqu, hq0] at e; omega
              · by_cases e3 : j = 40
                · omega
                · rw [e4, hq0, hq j e3 e2] at e; omega
            · by_cases e2 : j = 41 + V.length
              · rw [e2, hqu, hq i e4 e1] at e; omega
              · by_cases e3 : j = 40
                · rw [e3, hq0, hq i e4 e1] at e; omega
                · rw [hq i e4 e1, hq j e3 e2] at e; exact e) ⟨by show v + 1 + 1 ≤ g.n; omega, by show (V ++ [_]).length ≤ v + 1 + 1; rw [List.length_append]; show V.length + 1 ≤ v + 1 + 1; omega, fun b hb => by
          rcases List.mem_append.1 hb with hb | hb
          · have := g3 b hb; show b.length ≤ v + 1 + 1; omega
          · simp only [List.mem_singleton] at hb; subst hb; show 1 ≤ v + 1 + 1; omega⟩ (by show g.n - (v + 1 + 1) < g.n - (v + 1); omega)
  · have hve : v + 1 = g.n := by omega
    refine Wk.on ?_
    rw [decide_eq_false (show ¬ ((v + 1 : Nat) : Int) < ((g.n : Nat) : Int) by omega)]
    refine Wk.on ?_
    refine ⟨_, ?_, hQ V (by omega) (fun a ha => by have := g3 a ha; omega)⟩
    obtain ⟨rows, r1, r2, r3⟩ := rows_rgC V 41
    have hnk := nodB_sound (show nodB ((hp3r g L0 L1 A B).map Prod.fst) = true from rfl)
    have hkk := hpLt_keys (hp3r_lt g L0 L1 A B)
    refine Under.trans (t := ⟨[(20, .c (.row 40 V.length)), (21, .c (.int .i64 (v + 1 : Nat))), (4, .c (.ptr 5 0)), (7, .c (.ptr 7 0)), (8, .c (.ptr 9 0)), (9, .c (.ptr 30 0)), (12, .c (.int .i64 r))], (40, .row 37 1 (rgC 41 V)) :: (hp3r g L0 L1 A B ++ rg 41 V), 50, 168, 4⟩) (Sub.under (l := []) (sub3 [] (by omega) rfl (hp3r_lt g L0 L1 A B) ⟨.inl (by omega), .inl (by omega), .inl (by omega), .inl (by omega), trivial, trivial⟩ ⟨rfl, rfl, Nat.le_of_ble_eq_true rfl⟩ (fun p hp => absurd hp List.not_mem_nil) rfl rfl ⟨rfl, rfl, rfl, rfl, rfl, trivial⟩ (congrArg (fun c => some (ABlk.row 37 1 c)) (rgC_ren V 41 41 fun i _ _ => by rw [rn_nil]; omega).symm) (fun i hi => ?_) (fun j a ha => ?_) (fun i h1 h2 => by rw [rn_nil]; omega) (fun i j _ _ _ _ e => by rwa [rn_nil, rn_nil] at e))) ?_
    · unfold idOk GB at hi
      show lk ((40, _) :: (hp3r g L0 L1 A B ++ rg 41 V)) i = _
      rw [lk, if_neg (by omega), lk_append, show lk (rg 41 V) i = none from lk_none_of fun p hp e => by have := rg_mem hp; omega, Option.or_none]
    · rw [rn_nil]
      show lk ((40, _) :: (hp3r g L0 L1 A B ++ rg 41 V)) (41 + j) = _
      have hj : j < V.length := by
        by_cases hj : j < V.length
        · exact hj
        · rw [List.getElem?_eq_none (by omega)] at ha; cases ha
      rw [lk, if_neg (by omega), lk_append, hp3r_none (by omega) (by omega)]
      exact rg_at2 V 41 j ha
    have hT := Under.freezeRows (s := ⟨[(20, .c (.row 40 V.length)), (21, .c (.int .i64 (v + 1 : Nat))), (4, .c (.ptr 5 0)), (7, .c (.ptr 7 0)), (8, .c (.ptr 9 0)), (9, .c (.ptr 30 0)), (12, .c (.int .i64 r))], (40, .row 37 1 (rgC 41 V)) :: (hp3r g L0 L1 A B ++ rg 41 V), 50, 168, 4⟩) (o := 40) (e := 37) rows (hp3r g L0 L1 A B) (by rw [r1]; rfl) (fun p hp => ⟨3, by
      have h1 := rg_mem (r3 p hp)
      obtain ⟨j, a, h2, h3⟩ := rg_ex V 41 _ (r3 p hp)
      injection h3 with h3 h4
      show lk ((40, _) :: (hp3r g L0 L1 A B ++ rg 41 V)) p.1 = _
      simp only at h1
      rw [lk, if_neg (by omega), lk_append, hp3r_none (by omega) (by omega), h3, h4]
      exact rg_at2 V 41 j h2⟩) (fun i b hb => by
      have h5 := hkk (i, b) (mem_lk hb)
      unfold idOk GB at h5
      simp only at h5
      refine ⟨?_, fun h => ?_, by omega⟩
      · show lk ((40, _) :: (hp3r g L0 L1 A B ++ rg 41 V)) i = _
        rw [lk, if_neg (by omega), lk_append, hb]; rfl
      · obtain ⟨p, hp, rfl⟩ := List.mem_map.1 h
        have h1 := rg_mem (r3 p hp)
        simp only at h1
        omega) (fun h => by
        obtain ⟨p, hp, e⟩ := List.mem_map.1 h
        have h1 := rg_mem (r3 p hp)
        simp only at h1
        omega)
    rw [r2] at hT
    rw [← hve]
    exact hT
end Go.Proofs.YtfphkpdobbffeaaDoor

/-
  SwitchJudges: the loop over the wires
-/
namespace Go.Proofs.YtfphkpdobbffeaaDoor
open Go Go.AH
set_option maxRecDepth 100000
set_option maxHeartbeats 2000000

def rc (j : Nat) : List Int → AC
  | [] => .nils
  | a :: l => .row j (l.length + 1)
def rcH (j : Nat) : List Int → List (Nat × ABlk)
  | [] => []
  | a :: l => [(j, .row 3 1 (ints (a :: l)))]
theorem jd2_r {g : Gm} (hgl : g.ws.length ≤ 10) (L0 L1 : List Int) (hL0 : L0.length ≤ 9223372036854775807) (r : Int) {Q : Exit → AS → Prop}
    (hQ : ∀ A B : List Int, A.length ≤ 12 → B.length ≤ 12 → Q (.exit 4) ⟨[(4, .c (.ptr 5 0)), (7, .c (.ptr 7 0)), (8, .c (.ptr 9 0)), (9, .c (.ptr 30 0)), (12, .c (.int .i64 r))], [(30, .own [.rs 31 0 A.length, .rs 32 0 B.length]), (31, .ro (ints A)), (32, .ro (ints B)), (7, .own (gC g 6)), (9, .own (gC g 8)), (5, .own [.rs 1 0 L0.length, .rs 2 0 L1.length]), (1, .ro (ints L0)), (2, .ro (ints L1)), (6, .row 60 2 (ints (fl g.ws))), (8, .row 60 2 (ints (fl g.ws))), (100002, .ro tab64), (100000, noneB)], 40, 168, 4⟩) :
    Tr Tryd.prog jd2 ⟨[(17, .c (.int .i64 0)), (4, .c (.ptr 5 0)), (7, .c (.ptr 7 0)), (8, .c (.ptr 9 0)), (9, .c (.ptr 30 0)), (12, .c (.int .i64 r))], (30, .own [.nils, .nils]) :: [(7, .own (gC g 6)), (9, .own (gC g 8)), (5, .own [.rs 1 0 L0.length, .rs 2 0 L1.length]), (1, .ro (ints L0)), (2, .ro (ints L1)), (6, .row 60 2 (ints (fl g.ws))), (8, .row 60 2 (ints (fl g.ws))), (100002, .ro tab64), (100000, noneB)], 40, 168, 4⟩ Q := by
  refine Tr.post ?_
  refine Tr.loop (md := true) (X := Nat × List Int × List Int) (st := fun x => ⟨[(17, .c (.int .i64 x.1)), (4, .c (.ptr 5 0)), (7, .c (.ptr 7 0)), (8, .c (.ptr 9 0)), (9, .c (.ptr 30 0)), (12, .c (.int .i64 r))], (30, .own [rc 31 x.2.1, rc 32 x.2.2]) :: ([(7, .own (gC g 6)), (9, .own (gC g 8)), (5, .own [.rs 1 0 L0.length, .rs 2 0 L1.length]), (1, .ro (ints L0)), (2, .ro (ints L1)), (6, .row 60 2 (ints (fl g.ws))), (8, .row 60 2 (ints (fl g.ws))), (100002, .ro tab64), (100000, noneB)] ++ (rcH 31 x.2.1 ++ rcH 32 x.2.2)), 40, 168, 4⟩) (inv := fun x => x.1 ≤ g.ws.length ∧ x.2.1.length ≤ x.1 ∧ x.2.2.length ≤ x.1) (μ := fun x => g.ws.length - x.1) (x0 := (0, [], [])) (l := []) tok ⟨by omega, by simp, by simp⟩ ?_ ?_
  · exact Sub.nil ⟨rfl, rfl, (by simp [tab64_LL, gC, wB, giC, noneB, gst, tC, pC, gN, gR, rC, rB, tvC_LL, rc, rcH]), rfl, (by simp [tupA, hpLt, tmLt, AV.lt, AE.lt, AC.lt, LL_cons, LL_nil, idOk, ABlk.lt, ints_LL, GB, tab64_LL, gC, wB, giC, noneB, gst, tC, pC, gN, gR, rC, rB, tvC_LL, rc, rcH]), (by simp [tupA, hpLt, tmLt, AV.lt, AE.lt, AC.lt, LL_cons, LL_nil, idOk, ABlk.lt, ints_LL, GB, tab64_LL, gC, wB, giC, noneB, gst, tC, pC, gN, gR, rC, rB, tvC_LL, rc, rcH])⟩ (by (repeat (first | exact trivial | refine ⟨trivial, ?_⟩ | refine ⟨rfl, ?_⟩))) (by (repeat (first | exact trivial | refine ⟨trivial, ?_⟩ | refine ⟨rfl, ?_⟩)))
  rintro ⟨i, A, B⟩ ⟨g1, g2, g3⟩
  dsimp only at g1 g2 g3 ⊢
  rcases A with _ | ⟨a0, A⟩
  · rcases B with _ | ⟨b0, B⟩
    · refine Wk.on ?_
      by_cases hi : i < g.ws.length
      rotate_left
      · rw [decide_eq_false (show ¬ ((i : Nat) : Int) < ((g.ws.length : Nat) : Int) by omega)]
        refine Wk.on ?_
        refine ⟨_, ?_, hQ ([]) ([]) (by simp only [List.length_cons, List.length_nil] at g2 ⊢; omega) (by simp only [List.length_cons, List.length_nil] at g3 ⊢; omega)⟩
        exact Under.trans (Under.empty (j0 := 1) rfl (Nat.le_of_ble_eq_true rfl)) (Under.trans (Under.empty (j0 := 1) rfl (Nat.le_of_ble_eq_true rfl)) (Under.wk [(31, 40), (32, 41)] ⟨rfl, rfl, Nat.le_of_ble_eq_true rfl, Nat.le_of_ble_eq_true rfl⟩ rfl (by repeat (first | exact trivial | refine ⟨?_, ?_⟩ | exact Or.inl rfl | exact Or.inr ⟨⟨rfl, rfl, rfl⟩, trivial⟩ | exact Or.inr rfl)) (by repeat (first | exact trivial | refine ⟨?_, ?_⟩ | exact Or.inl rfl | exact Or.inl (tab64_ren _).symm | exact Or.inl (congrArg ABlk.ro (tvC_ren _ _).symm) | exact Or.inl (congrArg ABlk.ro (ints_ren _ _).symm) | exact Or.inl (congrArg (ABlk.row 60 2) (ints_ren _ _).symm) | exact Or.inr (Or.inl (Or.inl (ints_ren _ _).symm)) | exact Or.inr (Or.inl (Or.inl (tvC_ren _ _).symm)) | exact Or.inr (Or.inl (Or.inr ⟨⟨⟨rfl, rfl, rfl⟩, trivial⟩, ⟨⟨rfl, rfl, rfl⟩, trivial⟩, trivial⟩)) | exact Or.inr (Or.inl (Or.inr ⟨⟨⟨rfl, rfl, rfl⟩, trivial⟩, rfl, trivial⟩)) | exact Or.inr (Or.inl (Or.inr ⟨rfl, ⟨⟨rfl, rfl, rfl⟩, trivial⟩, trivial⟩)) | exact Or.inr (Or.inl (Or.inr ⟨rfl, rfl, trivial⟩)) | exact Or.inr (Or.inr ⟨rfl, rfl⟩))) rfl (by simp [tupA, hpLt, tmLt, AV.lt, AE.lt, AC.lt, LL_cons, LL_nil, idOk, ABlk.lt, ints_LL, GB, tab64_LL, gC, wB, giC, noneB, gst, tC, pC, gN, gR, rC, rB, tvC_LL, rc, rcH]) (by simp [tupA, hpLt, tmLt, AV.lt, AE.lt, AC.lt, LL_cons, LL_nil, idOk, ABlk.lt, ints_LL, GB, tab64_LL, gC, wB, giC, noneB, gst, tC, pC, gN, gR, rC, rB, tvC_LL, rc, rcH])))
      rw [decide_eq_true (show ((i : Nat) : Int) < ((g.ws.length : Nat) : Int) by omega)]
      refine Wk.on ?_
      by_cases hl : i < L0.length
      · rw [decide_eq_true (show ((i : Nat) : Int) < ((L0.length : Nat) : Int) by omega)]
        refine Wk.on ?_
        refine ⟨by rw [ints_len, Int.toNat_natCast]; omega, ?_⟩
        simp only [ints_getD, Int.toNat_natCast, Nat.zero_add, Nat.mul_one]
        refine Wk.on ?_
        refine ⟨⟨wrap_nn _, by omega⟩, ?_⟩
        rw [show (3 : Int) = ((3 : Nat) : Int) from rfl]
        refine Wk.on ?_
        rw [um_wrap _ (by omega) (by omega)]
        have hk := um_lt (L0.getD i 0) (n := 3) (by omega)
        generalize um (L0.getD i 0) 3 = k at *
        rcases k with _ | _ | _ | k
        · refine Wk.on ?_
          exact Again.mk (i + 1, [((i : Nat) : Int)], []) (Sub.new [(31, 41)] ⟨rfl, rfl, (by simp [tupA, hpLt, tmLt, AV.lt, AE.lt, AC.lt, LL_cons, LL_nil, idOk, ABlk.lt, ints_LL, GB, tab64_LL, gC, wB, giC, noneB, gst, tC, pC, gN, gR, rC, rB, tvC_LL, rc, rcH])⟩ rfl (by (repeat (first | exact trivial | refine ⟨trivial, ?_⟩ | refine ⟨rfl, ?_⟩))) ⟨rfl, rfl, rfl, rfl, congrArg (fun c => some (ABlk.ro c)) (ints_ren _ _).symm, congrArg (fun c => some (ABlk.ro c)) (ints_ren _ _).symm, congrArg (fun c => some (ABlk.row 60 2 c)) (ints_ren _ _).symm, congrArg (fun c => some (ABlk.row 60 2 c)) (ints_ren _ _).symm, congrArg (fun c => some (ABlk.ro c)) (tab64_ren _).symm, rfl, rowEq rfl, trivial⟩ rfl (by simp [tupA, hpLt, tmLt, AV.lt, AE.lt, AC.lt, LL_cons, LL_nil, idOk, ABlk.lt, ints_LL, GB, tab64_LL, gC, wB, giC, noneB, gst, tC, pC, gN, gR, rC, rB, tvC_LL, rc, rcH]) (by simp [tupA, hpLt, tmLt, AV.lt, AE.lt, AC.lt, LL_cons, LL_nil, idOk, ABlk.lt, ints_LL, GB, tab64_LL, gC, wB, giC, noneB, gst, tC, pC, gN, gR, rC, rB, tvC_LL, rc, rcH])) ⟨by show i + 1 ≤ g.ws.length; omega, by simp only [List.length_cons, List.length_append, List.length_nil] at g2 ⊢; omega, by simp only [List.length_cons, List.length_append, List.length_nil] at g3 ⊢; omega⟩ (by show g.ws.length - (i + 1) < g.ws.length - i; omega)
        · refine Wk.on ?_
          exact Again.mk (i + 1, [], [((i : Nat) : Int)]) (Sub.new [(32, 41)] ⟨rfl, rfl, (by simp [tupA, hpLt, tmLt, AV.lt, AE.lt, AC.lt, LL_cons, LL_nil, idOk, ABlk.lt, ints_LL, GB, tab64_LL, gC, wB, giC, noneB, gst, tC, pC, gN, gR, rC, rB, tvC_LL, rc, rcH])⟩ rfl (by (repeat (first | exact trivial | refine ⟨trivial, ?_⟩ | refine ⟨rfl, ?_⟩))) ⟨rfl, rfl, rfl, rfl, congrArg (fun c => some (ABlk.ro c)) (ints_ren _ _).symm, congrArg (fun c => some (ABlk.ro c)) (ints_ren _ _).symm, congrArg (fun c => some (ABlk.row 60 2 c)) (ints_ren _ _).symm, congrArg (fun c => some (ABlk.row 60 2 c)) (ints_ren _ _).symm, congrArg (fun c => some (ABlk.ro c)) (tab64_ren _).symm, rfl, rowEq rfl, trivial⟩ rfl (by simp [tupA, hpLt, tmLt, AV.lt, AE.lt, AC.lt, LL_cons, LL_nil, idOk, ABlk.lt, ints_LL, GB, tab64_LL, gC, wB, giC, noneB, gst, tC, pC, gN, gR, rC, rB, tvC_LL, rc, rcH]) (by simp [tupA, hpLt, tmLt, AV.lt, AE.lt, AC.lt, LL_cons, LL_nil, idOk, ABlk.lt, ints_LL, GB, tab64_LL, gC, wB, giC, noneB, gst, tC, pC, gN, gR, rC, rB, tvC_LL, rc, rcH])) ⟨by show i + 1 ≤ g.ws.length; omega, by simp only [List.length_cons, List.length_append, List.length_nil] at g2 ⊢; omega, by simp only [List.length_cons, List.length_append, List.length_nil] at g3 ⊢; omega⟩ (by show g.ws.length - (i + 1) < g.ws.length - i; omega)
        · refine Wk.on ?_
          exact Again.mk (i + 1, [], []) (Sub.nil ⟨rfl, rfl, (by simp [tab64_LL, gC, wB, giC, noneB, gst, tC, pC, gN, gR, rC, rB, tvC_LL, rc, rcH]), rfl, (by simp [tupA, hpLt, tmLt, AV.lt, AE.lt, AC.lt, LL_cons, LL_nil, idOk, ABlk.lt, ints_LL, GB, tab64_LL, gC, wB, giC, noneB, gst, tC, pC, gN, gR, rC, rB, tvC_LL, rc, rcH]), (by simp [tupA, hpLt, tmLt, AV.lt, AE.lt, AC.lt, LL_cons, LL_nil, idOk, ABlk.lt, ints_LL, GB, tab64_LL, gC, wB, giC, noneB, gst, tC, pC, gN, gR, rC, rB, tvC_LL, rc, rcH])⟩ (by (repeat (first | exact trivial | refine ⟨trivial, ?_⟩ | refine ⟨rfl, ?_⟩))) (by (repeat (first | exact trivial | refine ⟨trivial, ?_⟩ | refine ⟨rfl, ?_⟩)))) ⟨by show i + 1 ≤ g.ws.length; omega, by show List.length ([]) ≤ i + 1; omega, by show List.length ([]) ≤ i + 1; omega⟩ (by show g.ws.length - (i + 1) < g.ws.length - i; omega)
        · omega
      · rw [decide_eq_false (show ¬ ((i : Nat) : Int) < ((L0.length : Nat) : Int) by omega)]
        refine Wk.on ?_
        exact Again.mk (i + 1, [((i : Nat) : Int)], []) (Sub.new [(31, 41)] ⟨rfl, rfl, (by simp [tupA, hpLt, tmLt, AV.lt, AE.lt, AC.lt, LL_cons, LL_nil, idOk, ABlk.lt, ints_LL, GB, tab64_LL, gC, wB, giC, noneB, gst, tC, pC, gN, gR, rC, rB, tvC_LL, rc, rcH])⟩ rfl (by (repeat (first | exact trivial | refine ⟨trivial, ?_⟩ | refine ⟨rfl, ?_⟩))) ⟨rfl, rfl, rfl, rfl, congrArg (fun c => some (ABlk.ro c)) (ints_ren _ _).symm, congrArg (fun c => some (ABlk.ro c)) (ints_ren _ _).symm, congrArg (fun c => some (ABlk.row 60 2 c)) (ints_ren _ _).symm, congrArg (fun c => some (ABlk.row 60 2 c)) (ints_ren _ _).symm, congrArg (fun c => some (ABlk.ro c)) (tab64_ren _).symm, rfl, rowEq rfl, trivial⟩ rfl (by simp [tupA, hpLt, tmLt, AV.lt, AE.lt, AC.lt, LL_cons, LL_nil, idOk, ABlk.lt, ints_LL, GB, tab64_LL, gC, wB, giC, noneB, gst, tC, pC, gN, gR, rC, rB, tvC_LL, rc, rcH]) (by simp [tupA, hpLt, tmLt, AV.lt, AE.lt, AC.lt, LL_cons, LL_nil, idOk, ABlk.lt, ints_LL, GB, tab64_LL, gC, wB, giC, noneB, gst, tC, pC, gN, gR, rC, rB, tvC_LL, rc, rcH])) ⟨by show i + 1 ≤ g.ws.length; omega, by simp only [List.length_cons, List.length_append, List.length_nil] at g2 ⊢; omega, by simp only [List.length_cons, List.length_append, List.length_nil] at g3 ⊢; omega⟩ (by show g.ws.length - (i + 1) < g.ws.length - i; omega)
    · refine Wk.on ?_
      by_cases hi : i < g.ws.length
      rotate_left
      · rw [decide_eq_false (show ¬ ((i : Nat) : Int) < ((g.ws.length : Nat) : Int) by omega)]
        refine Wk.on ?_
        refine ⟨_, ?_, hQ ([]) (b0 :: B) (by simp only [List.length_cons, List.length_nil] at g2 ⊢; omega) (by simp only [List.length_cons, List.length_nil] at g3 ⊢; omega)⟩
        exact Under.trans (Under.empty (j0 := 1) rfl (Nat.le_of_ble_eq_true rfl)) (Under.wk [(31, 40)] ⟨rfl, rfl, Nat.le_of_ble_eq_true rfl, Nat.le_of_ble_eq_true rfl⟩ rfl (by repeat (first | exact trivial | refine ⟨?_, ?_⟩ | exact Or.inl rfl | exact Or.inr ⟨⟨rfl, rfl, rfl⟩, trivial⟩ | exact Or.inr rfl)) (by repeat (first | exact trivial | refine ⟨?_, ?_⟩ | exact Or.inl rfl | exact Or.inl (tab64_ren _).symm | exact Or.inl (congrArg ABlk.ro (tvC_ren _ _).symm) | exact Or.inl (congrArg ABlk.ro (ints_ren _ _).symm) | exact Or.inl (congrArg (ABlk.row 60 2) (ints_ren _ _).symm) | exact Or.inr (Or.inl (Or.inl (ints_ren _ _).symm)) | exact Or.inr (Or.inl (Or.inl (tvC_ren _ _).symm)) | exact Or.inr (Or.inl (Or.inr ⟨⟨⟨rfl, rfl, rfl⟩, trivial⟩, ⟨⟨rfl, rfl, rfl⟩, trivial⟩, trivial⟩)) | exact Or.inr (Or.inl (Or.inr ⟨⟨⟨rfl, rfl, rfl⟩, trivial⟩, rfl, trivial⟩)) | exact Or.inr (Or.inl (Or.inr ⟨rfl, ⟨⟨rfl, rfl, rfl⟩, trivial⟩, trivial⟩)) | exact Or.inr (Or.inl (Or.inr ⟨rfl, rfl, trivial⟩)) | exact Or.inr (Or.inr ⟨rfl, rfl⟩))) rfl (by simp [tupA, hpLt, tmLt, AV.lt, AE.lt, AC.lt, LL_cons, LL_nil, idOk, ABlk.lt, ints_LL, GB, tab64_LL, gC, wB, giC, noneB, gst, tC, pC, gN, gR, rC, rB, tvC_LL, rc, rcH]) (by simp [tupA, hpLt, tmLt, AV.lt, AE.lt, AC.lt, LL_cons, LL_nil, idOk, ABlk.lt, ints_LL, GB, tab64_LL, gC, wB, giC, noneB, gst, tC, pC, gN, gR, rC, rB, tvC_LL, rc, rcH]))
      rw [decide_eq_true (show ((i : Nat) : Int) < ((g.ws.length : Nat) : Int) by omega)]
      refine Wk.on ?_
      by_cases hl : i < L0.length
      · rw [decide_eq_true (show ((i : Nat) : Int) < ((L0.length : Nat) : Int) by omega)]
        refine Wk.on ?_
        refine ⟨by rw [ints_len, Int.toNat_natCast]; omega, ?_⟩
        simp only [ints_getD, Int.toNat_natCast, Nat.zero_add, Nat.mul_one]
        refine Wk.on ?_
        refine ⟨⟨wrap_nn _, by omega⟩, ?_⟩
        rw [show (3 : Int) = ((3 : Nat) : Int) from rfl]
        refine Wk.on ?_
        rw [um_wrap _ (by omega) (by omega)]
        have hk := um_lt (L0.getD i 0) (n := 3) (by omega)
        generalize um (L0.getD i 0) 3 = k at *
        rcases k with _ | _ | _ | k
        · refine Wk.on ?_
          exact Again.mk (i + 1, [((i : Nat) : Int)], b0 :: B) (Sub.new [(31, 41)] ⟨rfl, rfl, (by simp [tupA, hpLt, tmLt, AV.lt, AE.lt, AC.lt, LL_cons, LL_nil, idOk, ABlk.lt, ints_LL, GB, tab64_LL, gC, wB, giC, noneB, gst, tC, pC, gN, gR, rC, rB, tvC_LL, rc, rcH])⟩ rfl (by (repeat (first | exact trivial | refine ⟨trivial, ?_⟩ | refine ⟨rfl, ?_⟩))) ⟨rfl, rfl, rfl, rfl, congrArg (fun c => some (ABlk.ro c)) (ints_ren _ _).symm, congrArg (fun c => some (ABlk.ro c)) (ints_ren _ _).symm, congrArg (fun c => some (ABlk.row 60 2 c)) (ints_ren _ _).symm, congrArg (fun c => some (ABlk.row 60 2 c)) (ints_ren _ _).symm, congrArg (fun c => some (ABlk.ro c)) (tab64_ren _).symm, rfl, rowEq rfl, rowEq rfl, trivial⟩ rfl (by simp [tupA, hpLt, tmLt, AV.lt, AE.lt, AC.lt, LL_cons, LL_nil, idOk, ABlk.lt, ints_LL, GB, tab64_LL, gC, wB, giC, noneB, gst, tC, pC, gN, gR, rC, rB, tvC_LL, rc, rcH]) (by simp [tupA, hpLt, tmLt, AV.lt, AE.lt, AC.lt, LL_cons, LL_nil, idOk, ABlk.lt, ints_LL, GB, tab64_LL, gC, wB, giC, noneB, gst, tC, pC, gN, gR, rC, rB, tvC_LL, rc, rcH])) ⟨by show i + 1 ≤ g.ws.length; omega, by simp only [List.length_cons, List.length_append, List.length_nil] at g2 ⊢; omega, by simp only [List.length_cons, List.length_append, List.length_nil] at g3 ⊢; omega⟩ (by show g.ws.length - (i + 1) < g.ws.length - i; omega)
        · refine Wk.on ?_
          refine ⟨⟨Nat.le_of_ble_eq_true rfl, rfl, rfl, by rw [ints_len]; simp, by show ((B.length + 1 + 1 : Nat) : Int) * 8 ≤ _; simp only [List.length_cons] at g2 g3; omega, by simp only [List.length_cons] at g2 g3; omega⟩, ?_⟩
          refine Wk.on ?_
          exact Again.mk (i + 1, [], b0 :: (B ++ [((i : Nat) : Int)])) (Sub.new [(32, 41)] ⟨rfl, rfl, (by simp [tupA, hpLt, tmLt, AV.lt, AE.lt, AC.lt, LL_cons, LL_nil, idOk, ABlk.lt, ints_LL, GB, tab64_LL, gC, wB, giC, noneB, gst, tC, pC, gN, gR, rC, rB, tvC_LL, rc, rcH])⟩ rfl (by (repeat (first | exact trivial | refine ⟨trivial, ?_⟩ | refine ⟨rfl, ?_⟩))) ⟨congrArg (fun n => some (ABlk.own [AC.nils, .row 41 (n + 1)])) (show B.length + 1 = (B ++ [((i : Nat) : Int)]).length by simp), rfl, rfl, rfl, congrArg (fun c => some (ABlk.ro c)) (ints_ren _ _).symm, congrArg (fun c => some (ABlk.ro c)) (ints_ren _ _).symm, congrArg (fun c => some (ABlk.row 60 2 c)) (ints_ren _ _).symm, congrArg (fun c => some (ABlk.row 60 2 c)) (ints_ren _ _).symm, congrArg (fun c => some (ABlk.ro c)) (tab64_ren _).symm, rfl, rowEq (by show ints (b0 :: B) ++ [.int .i64 ((i : Nat) : Int)] = _; simp [ints]), trivial⟩ rfl (by simp [tupA, hpLt, tmLt, AV.lt, AE.lt, AC.lt, LL_cons, LL_nil, idOk, ABlk.lt, ints_LL, GB, tab64_LL, gC, wB, giC, noneB, gst, tC, pC, gN, gR, rC, rB, tvC_LL, rc, rcH]) (by simp [tupA, hpLt, tmLt, AV.lt, AE.lt, AC.lt, LL_cons, LL_nil, idOk, ABlk.lt, ints_LL, GB, tab64_LL, gC, wB, giC, noneB, gst, tC, pC, gN, gR, rC, rB, tvC_LL, rc, rcH])) ⟨by show i + 1 ≤ g.ws.length; omega, by simp only [List.length_cons, List.length_append, List.length_nil] at g2 ⊢; omega, by simp only [List.length_cons, List.length_append, List.length_nil] at g3 ⊢; omega⟩ (by show g.ws.length - (i + 1) < g.ws.length - i; omega)
        · refine Wk.on ?_
          exact Again.mk (i + 1, [], b0 :: B) (Sub.nil ⟨rfl, rfl, (by simp [tab64_LL, gC, wB, giC, noneB, gst, tC, pC, gN, gR, rC, rB, tvC_LL, rc, rcH]), rfl, (by simp [tupA, hpLt, tmLt, AV.lt, AE.lt, AC.lt, LL_cons, LL_nil, idOk, ABlk.lt, ints_LL, GB, tab64_LL, gC, wB, giC, noneB, gst, tC, pC, gN, gR, rC, rB, tvC_LL, rc, rcH]), (by simp [tupA, hpLt, tmLt, AV.lt, AE.lt, AC.lt, LL_cons, LL_nil, idOk, ABlk.lt, ints_LL, GB, tab64_LL, gC, wB, giC, noneB, gst, tC, pC, gN, gR, rC, rB, tvC_LL, rc, rcH])⟩ (by (repeat (first | exact trivial | refine ⟨trivial, ?_⟩ | refine ⟨rfl, ?_⟩))) (by (repeat (first | exact trivial | refine ⟨trivial, ?_⟩ | refine ⟨rfl, ?_⟩)))) ⟨by show i + 1 ≤ g.ws.length; omega, by show List.length ([]) ≤ i + 1; omega, by show List.length (b0 :: B) ≤ i + 1; omega⟩ (by show g.ws.length - (i + 1) < g.ws.length - i; omega)
        · omega
      · rw [decide_eq_false (show ¬ ((i : Nat) : Int) < ((L0.length : Nat) : Int) by omega)]
        refine Wk.on ?_
        exact Again.mk (i + 1, [((i : Nat) : Int)], b0 :: B) (Sub.new [(31, 41)] ⟨rfl, rfl, (by simp [tupA, hpLt, tmLt, AV.lt, AE.lt, AC.lt, LL_cons, LL_nil, idOk, ABlk.lt, ints_LL, GB, tab64_LL, gC, wB, giC, noneB, gst, tC, pC, gN, gR, rC, rB, tvC_LL, rc, rcH])⟩ rfl (by (repeat (first | exact trivial | refine ⟨trivial, ?_⟩ | refine ⟨rfl, ?_⟩))) ⟨rfl, rfl, rfl, rfl, congrArg (fun c => some (ABlk.ro c)) (ints_ren _ _).symm, congrArg (fun c => some (ABlk.ro c)) (ints_ren _ _).symm, congrArg (fun c => some (ABlk.row 60 2 c)) (ints_ren _ _).symm, congrArg (fun c => some (ABlk.row 60 2 c)) (ints_ren _ _).symm, congrArg (fun c => some (ABlk.ro c)) (tab64_ren _).symm, rfl, rowEq rfl, rowEq rfl, trivial⟩ rfl (by simp [tupA, hpLt, tmLt, AV.lt, AE.lt, AC.lt, LL_cons, LL_nil, idOk, ABlk.lt, ints_LL, GB, tab64_LL, gC, wB, giC, noneB, gst, tC, pC, gN, gR, rC, rB, tvC_LL, rc, rcH]) (by simp [tupA, hpLt, tmLt, AV.lt, AE.lt, AC.lt, LL_cons, LL_nil, idOk, ABlk.lt, ints_LL, GB, tab64_LL, gC, wB, giC, noneB, gst, tC, pC, gN, gR, rC, rB, tvC_LL, rc, rcH])) ⟨by show i + 1 ≤ g.ws.length; omega, by simp only [List.length_cons, List.length_append, List.length_nil] at g2 ⊢; omega, by simp only [List.length_cons, List.length_append, List.length_nil] at g3 ⊢; omega⟩ (by show g.ws.length - (i + 1) < g.ws.length - i; omega)
  · rcases B with _ | ⟨b0, B⟩
    · refine Wk.on ?_
      by_cases hi : i < g.ws.length
      rotate_left
      · rw [decide_eq_false (show ¬ ((i : Nat) : Int) < ((g.ws.length : Nat) : Int) by omega)]
        refine Wk.on ?_
        refine ⟨_, ?_, hQ (a0 :: A) ([]) (by simp only [List.length_cons, List.length_nil] at g2 ⊢; omega) (by simp only [List.length_cons, List.length_nil] at g3 ⊢; omega)⟩
        exact Under.trans (Under.empty (j0 := 1) rfl (Nat.le_of_ble_eq_true rfl)) (Under.wk [(32, 40)] ⟨rfl, rfl, Nat.le_of_ble_eq_true rfl, Nat.le_of_ble_eq_true rfl⟩ rfl (by repeat (first | exact trivial | refine ⟨?_, ?_⟩ | exact Or.inl rfl | exact Or.inr ⟨⟨rfl, rfl, rfl⟩, trivial⟩ | exact Or.inr rfl)) (by repeat (first | exact trivial | refine ⟨?_, ?_⟩ | exact Or.inl rfl | exact Or.inl (tab64_ren _).symm | exact Or.inl (congrArg ABlk.ro (tvC_ren _ _).symm) | exact Or.inl (congrArg ABlk.ro (ints_ren _ _).symm) | exact Or.inl (congrArg (ABlk.row 60 2) (ints_ren _ _).symm) | exact Or.inr (Or.inl (Or.inl (ints_ren _ _).symm)) | exact Or.inr (Or.inl (Or.inl (tvC_ren _ _).symm)) | exact Or.inr (Or.inl (Or.inr ⟨⟨⟨rfl, rfl, rfl⟩, trivial⟩, ⟨⟨rfl, rfl, rfl⟩, trivial⟩, trivial⟩)) | exact Or.inr (Or.inl (Or.inr ⟨⟨⟨rfl, rfl, rfl⟩, trivial⟩, rfl, trivial⟩)) | exact Or.inr (Or.inl (Or.inr ⟨rfl, ⟨⟨rfl, rfl, rfl⟩, trivial⟩, trivial⟩)) | exact Or.inr (Or.inl (Or.inr ⟨rfl, rfl, trivial⟩)) | exact Or.inr (Or.inr ⟨rfl, rfl⟩))) rfl (by simp [tupA, hpLt, tmLt, AV.lt, AE.lt, AC.lt, LL_cons, LL_nil, idOk, ABlk.lt, ints_LL, GB, tab64_LL, gC, wB, giC, noneB, gst, tC, pC, gN, gR, rC, rB, tvC_LL, rc, rcH]) (by simp [tupA, hpLt, tmLt, AV.lt, AE.lt, AC.lt, LL_cons, LL_nil, idOk, ABlk.lt, ints_LL, GB, tab64_LL, gC, wB, giC, noneB, gst, tC, pC, gN, gR, rC, rB, tvC_LL, rc, rcH]))
      rw [decide_eq_true (show ((i : Nat) : Int) < ((g.ws.length : Nat) : Int) by omega)]
      refine Wk.on ?_
      by_cases hl : i < L0.length
      · rw [decide_eq_true (show ((i : Nat) : Int) < ((L0.length : Nat) : Int) by omega)]
        refine Wk.on ?_
        refine ⟨by rw [ints_len, Int.toNat_natCast]; omega, ?_⟩
        simp only [ints_getD, Int.toNat_natCast, Nat.zero_add, Nat.mul_one]
        refine Wk.on ?_
        refine ⟨⟨wrap_nn _, by omega⟩, ?_⟩
        rw [show (3 : Int) = ((3 : Nat) : Int) from rfl]
        refine Wk.on ?_
        rw [um_wrap _ (by omega) (by omega)]
        have hk := um_lt (L0.getD i 0) (n := 3) (by omega)
        generalize um (L0.getD i 0) 3 = k at *
        rcases k with _ | _ | _ | k
        · refine Wk.on ?_
          refine ⟨⟨Nat.le_of_ble_eq_true rfl, rfl, rfl, by rw [ints_len]; simp, by show ((A.length + 1 + 1 : Nat) : Int) * 8 ≤ _; simp only [List.length_cons] at g2 g3; omega, by simp only [List.length_cons] at g2 g3; omega⟩, ?_⟩
          refine Wk.on ?_
          exact Again.mk (i + 1, a0 :: (A ++ [((i : Nat) : Int)]), []) (Sub.new [(31, 41)] ⟨rfl, rfl, (by simp [tupA, hpLt, tmLt, AV.lt, AE.lt, AC.lt, LL_cons, LL_nil, idOk, ABlk.lt, ints_LL, GB, tab64_LL, gC, wB, giC, noneB, gst, tC, pC, gN, gR, rC, rB, tvC_LL, rc, rcH])⟩ rfl (by (repeat (first | exact trivial | refine ⟨trivial, ?_⟩ | refine ⟨rfl, ?_⟩))) ⟨congrArg (fun n => some (ABlk.own [AC.row 41 (n + 1), .nils])) (show A.length + 1 = (A ++ [((i : Nat) : Int)]).length by simp), rfl, rfl, rfl, congrArg (fun c => some (ABlk.ro c)) (ints_ren _ _).symm, congrArg (fun c => some (ABlk.ro c)) (ints_ren _ _).symm, congrArg (fun c => some (ABlk.row 60 2 c)) (ints_ren _ _).symm, congrArg (fun c => some (ABlk.row 60 2 c)) (ints_ren _ _).symm, congrArg (fun c => some (ABlk.ro c)) (tab64_ren _).symm, rfl, rowEq (by show ints (a0 :: A) ++ [.int .i64 ((i : Nat) : Int)] = _; simp [ints]), trivial⟩ rfl (by simp [tupA, hpLt, tmLt, AV.lt, AE.lt, AC.lt, LL_cons, LL_nil, idOk, ABlk.lt, ints_LL, GB, tab64_LL, gC, wB, giC, noneB, gst, tC, pC, gN, gR, rC, rB, tvC_LL, rc, rcH]) (by simp [tupA, hpLt, tmLt, AV.lt, AE.lt, AC.lt, LL_cons, LL_nil, idOk, ABlk.lt, ints_LL, GB, tab64_LL, gC, wB, giC, noneB, gst, tC, pC, gN, gR, rC, rB, tvC_LL, rc, rcH])) ⟨by show i + 1 ≤ g.ws.length; omega, by simp only [List.length_cons, List.length_append, List.length_nil] at g2 ⊢; omega, by simp only [List.length_cons, List.length_append, List.length_nil] at g3 ⊢; omega⟩ (by show g.ws.length - (i + 1) < g.ws.length - i; omega)
        · refine Wk.on ?_
          exact Again.mk (i + 1, a0 :: A, [((i : Nat) : Int)]) (Sub.new [(32, 41)] ⟨rfl, rfl, (by simp [tupA, hpLt, tmLt, AV.lt, AE.lt, AC.lt, LL_cons, LL_nil, idOk, ABlk.lt, ints_LL, GB, tab64_LL, gC, wB, giC, noneB, gst, tC, pC, gN, gR, rC, rB, tvC_LL, rc, rcH])⟩ rfl (by (repeat (first | exact trivial | refine ⟨trivial, ?_⟩ | refine ⟨rfl, ?_⟩))) ⟨rfl, rfl, rfl, rfl, congrArg (fun c => some (ABlk.ro c)) (ints_ren _ _).symm, congrArg (fun c => some (ABlk.ro c)) (ints_ren _ _).symm, congrArg (fun c => some (ABlk.row 60 2 c)) (ints_ren _ _).symm, congrArg (fun c => some (ABlk.row 60 2 c)) (ints_ren _ _).symm, congrArg (fun c => some (ABlk.ro c)) (tab64_ren _).symm, rfl, rowEq rfl, rowEq rfl, trivial⟩ rfl (by simp [tupA, hpLt, tmLt, AV.lt, AE.lt, AC.lt, LL_cons, LL_nil, idOk, ABlk.lt, ints_LL, GB, tab64_LL, gC, wB, giC, noneB, gst, tC, pC, gN, gR, rC, rB, tvC_LL, rc, rcH]) (by simp [tupA, hpLt, tmLt, AV.lt, AE.lt, AC.lt, LL_cons, LL_nil, idOk, ABlk.lt, ints_LL, GB, tab64_LL, gC, wB, giC, noneB, gst, tC, pC, gN, gR, rC, rB, tvC_LL, rc, rcH])) ⟨by show i + 1 ≤ g.ws.length; omega, by simp only [List.length_cons, List.length_append, List.length_nil] at g2 ⊢; omega, by simp only [List.length_cons, List.length_append, List.length_nil] at g3 ⊢; omega⟩ (by show g.ws.length - (i + 1) < g.ws.length - i; omega)
        · refine Wk.on ?_
          exact Again.mk (i + 1, a0 :: A, []) (Sub.nil ⟨rfl, rfl, (by simp [tab64_LL, gC, wB, giC, noneB, gst, tC, pC, gN, gR, rC, rB, tvC_LL, rc, rcH]), rfl, (by simp [tupA, hpLt, tmLt, AV.lt, AE.lt, AC.lt, LL_cons, LL_nil, idOk, ABlk.lt, ints_LL, GB, tab64_LL, gC, wB, giC, noneB, gst, tC, pC, gN, gR, rC, rB, tvC_LL, rc, rcH]), (by simp [tupA, hpLt, tmLt, AV.lt, AE.lt, AC.lt, LL_cons, LL_nil, idOk, ABlk.lt, ints_LL, GB, tab64_LL, gC, wB, giC, noneB, gst, tC, pC, gN, gR, rC, rB, tvC_LL, rc, rcH])⟩ (by (repeat (first | exact trivial | refine ⟨trivial, ?_⟩ | refine ⟨rfl, ?_⟩))) (by (repeat (first | exact trivial | refine ⟨trivial, ?_⟩ | refine ⟨rfl, ?_⟩)))) ⟨by show i + 1 ≤ g.ws.length; omega, by show List.length (a0 :: A) ≤ i + 1; omega, by show List.length ([]) ≤ i + 1; omega⟩ (by show g.ws.length - (i + 1) < g.ws.length - i; omega)
        · omega
      · rw [decide_eq_false (show ¬ ((i : Nat) : Int) < ((L0.length : Nat) : Int) by omega)]
        refine Wk.on ?_
        refine ⟨⟨Nat.le_of_ble_eq_true rfl, rfl, rfl, by rw [ints_len]; simp, by show ((A.length + 1 + 1 : Nat) : Int) * 8 ≤ _; simp only [List.length_cons] at g2 g3; omega, by simp only [List.length_cons] at g2 g3; omega⟩, ?_⟩
        refine Wk.on ?_
        exact Again.mk (i + 1, a0 :: (A ++ [((i : Nat) : Int)]), []) (Sub.new [(31, 41)] ⟨rfl, rfl, (by simp [tupA, hpLt, tmLt, AV.lt, AE.lt, AC.lt, LL_cons, LL_nil, idOk, ABlk.lt, ints_LL, GB, tab64_LL, gC, wB, giC, noneB, gst, tC, pC, gN, gR, rC, rB, tvC_LL, rc, rcH])⟩ rfl (by (repeat (first | exact trivial | refine ⟨trivial, ?_⟩ | refine ⟨rfl, ?_⟩))) ⟨congrArg (fun n => some (ABlk.own [AC.row 41 (n + 1), .nils])) (show A.length + 1 = (A ++ [((i : Nat) : Int)]).length by simp), rfl, rfl, rfl, congrArg (fun c => some (ABlk.ro c)) (ints_ren _ _).symm, congrArg (fun c => some (ABlk.ro c)) (ints_ren _ _).symm, congrArg (fun c => some (ABlk.row 60 2 c)) (ints_ren _ _).symm, congrArg (fun c => some (ABlk.row 60 2 c)) (ints_ren _ _).symm, congrArg (fun c => some (ABlk.ro c)) (tab64_ren _).symm, rfl, rowEq (by show ints (a0 :: A) ++ [.int .i64 ((i : Nat) : Int)] = _; simp [ints]), trivial⟩ rfl (by simp [tupA, hpLt, tmLt, AV.lt, AE.lt, AC.lt, LL_cons, LL_nil, idOk, ABlk.lt, ints_LL, GB, tab64_LL, gC, wB, giC, noneB, gst, tC, pC, gN, gR, rC, rB, tvC_LL, rc, rcH]) (by simp [tupA, hpLt, tmLt, AV.lt, AE.lt, AC.lt, LL_cons, LL_nil, idOk, ABlk.lt, ints_LL, GB, tab64_LL, gC, wB, giC, noneB, gst, tC, pC, gN, gR, rC, rB, tvC_LL, rc, rcH])) ⟨by show i + 1 ≤ g.ws.length; omega, by simp only [List.length_cons, List.length_append, List.length_nil] at g2 ⊢; omega, by simp only [List.length_cons, List.length_append, List.length_nil] at g3 ⊢; omega⟩ (by show g.ws.length - (i + 1) < g.ws.length - i; omega)
    · refine Wk.on ?_
      by_cases hi : i < g.ws.length
      rotate_left
      · rw [decide_eq_false (show ¬ ((i : Nat) : Int) < ((g.ws.length : Nat) : Int) by omega)]
        refine Wk.on ?_
        refine ⟨_, ?_, hQ (a0 :: A) (b0 :: B) (by simp only [List.length_cons, List.length_nil] at g2 ⊢; omega) (by simp only [List.length_cons, List.length_nil] at g3 ⊢; omega)⟩
        exact Under.wk [] ⟨rfl, rfl, Nat.le_of_ble_eq_true rfl, Nat.le_of_ble_eq_true rfl⟩ rfl (by repeat (first | exact trivial | refine ⟨?_, ?_⟩ | exact Or.inl rfl | exact Or.inr ⟨⟨rfl, rfl, rfl⟩, trivial⟩ | exact Or.inr rfl)) (by repeat (first | exact trivial | refine ⟨?_, ?_⟩ | exact Or.inl rfl | exact Or.inl (tab64_ren _).symm | exact Or.inl (congrArg ABlk.ro (tvC_ren _ _).symm) | exact Or.inl (congrArg ABlk.ro (ints_ren _ _).symm) | exact Or.inl (congrArg (ABlk.row 60 2) (ints_ren _ _).symm) | exact Or.inr (Or.inl (Or.inl (ints_ren _ _).symm)) | exact Or.inr (Or.inl (Or.inl (tvC_ren _ _).symm)) | exact Or.inr (Or.inl (Or.inr ⟨⟨⟨rfl, rfl, rfl⟩, trivial⟩, ⟨⟨rfl, rfl, rfl⟩, trivial⟩, trivial⟩)) | exact Or.inr (Or.inl (Or.inr ⟨⟨⟨rfl, rfl, rfl⟩, trivial⟩, rfl, trivial⟩)) | exact Or.inr (Or.inl (Or.inr ⟨rfl, ⟨⟨rfl, rfl, rfl⟩, trivial⟩, trivial⟩)) | exact Or.inr (Or.inl (Or.inr ⟨rfl, rfl, trivial⟩)) | exact Or.inr (Or.inr ⟨rfl, rfl⟩))) rfl (by simp [tupA, hpLt, tmLt, AV.lt, AE.lt, AC.lt, LL_cons, LL_nil, idOk, ABlk.lt, ints_LL, GB, tab64_LL, gC, wB, giC, noneB, gst, tC, pC, gN, gR, rC, rB, tvC_LL, rc, rcH]) (by simp [tupA, hpLt, tmLt, AV.lt, AE.lt, AC.lt, LL_cons, LL_nil, idOk, ABlk.lt, ints_LL, GB, tab64_LL, gC, wB, giC, noneB, gst, tC, pC, gN, gR, rC, rB, tvC_LL, rc, rcH])
      rw [decide_eq_true (show ((i : Nat) : Int) < ((g.ws.length : Nat) : Int) by omega)]
      refine Wk.on ?_
      by_cases hl : i < L0.length
      · rw [decide_eq_true (show ((i : Nat) : Int) < ((L0.length : Nat) : Int) by omega)]
        refine Wk.on ?_
        refine ⟨by rw [ints_len, Int.toNat_natCast]; omega, ?_⟩
        simp only [ints_getD, Int.toNat_natCast, Nat.zero_add, Nat.mul_one]
        refine Wk.on ?_
        refine ⟨⟨wrap_nn _, by omega⟩, ?_⟩
        rw [show (3 : Int) = ((3 : Nat) : Int) from rfl]
        refine Wk.on ?_
        rw [um_wrap _ (by omega) (by omega)]
        have hk := um_lt (L0.getD i 0) (n := 3) (by omega)
        generalize um (L0.getD i 0) 3 = k at *
        rcases k with _ | _ | _ | k
        · refine Wk.on ?_
          refine ⟨⟨Nat.le_of_ble_eq_true rfl, rfl, rfl, by rw [ints_len]; simp, by show ((A.length + 1 + 1 : Nat) : Int) * 8 ≤ _; simp only [List.length_cons] at g2 g3; omega, by simp only [List.length_cons] at g2 g3; omega⟩, ?_⟩
          refine Wk.on ?_
          exact Again.mk (i + 1, a0 :: (A ++ [((i : Nat) : Int)]), b0 :: B) (Sub.new [(31, 41)] ⟨rfl, rfl, (by simp [tupA, hpLt, tmLt, AV.lt, AE.lt, AC.lt, LL_cons, LL_nil, idOk, ABlk.lt, ints_LL, GB, tab64_LL, gC, wB, giC, noneB, gst, tC, pC, gN, gR, rC, rB, tvC_LL, rc, rcH])⟩ rfl (by (repeat (first | exact trivial | refine ⟨trivial, ?_⟩ | refine ⟨rfl, ?_⟩))) ⟨congrArg (fun n => some (ABlk.own [AC.row 41 (n + 1), .row 32 (B.length + 1)])) (show A.length + 1 = (A ++ [((i : Nat) : Int)]).length by simp), rfl, rfl, rfl, congrArg (fun c => some (ABlk.ro c)) (ints_ren _ _).symm, congrArg (fun c => some (ABlk.ro c)) (ints_ren _ _).symm, congrArg (fun c => some (ABlk.row 60 2 c)) (ints_ren _ _).symm, congrArg (fun c => some (ABlk.row 60 2 c)) (ints_ren _ _).symm, congrArg (fun c => some (ABlk.ro c)) (tab64_ren _).symm, rfl, rowEq (by show ints (a0 :: A) ++ [.int .i64 ((i : Nat) : Int)] = _; simp [ints]), rowEq rfl, trivial⟩ rfl (by simp [tupA, hpLt, tmLt, AV.lt, AE.lt, AC.lt, LL_cons, LL_nil, idOk, ABlk.lt, ints_LL, GB, tab64_LL, gC, wB, giC, noneB, gst, tC, pC, gN, gR, rC, rB, tvC_LL, rc, rcH]) (by simp [tupA, hpLt, tmLt, AV.lt, AE.lt, AC.lt, LL_cons, LL_nil, idOk, ABlk.lt, ints_LL, GB, tab64_LL, gC, wB, giC, noneB, gst, tC, pC, gN, gR, rC, rB, tvC_LL, rc, rcH])) ⟨by show i + 1 ≤ g.ws.length; omega, by simp only [List.length_cons, List.length_append, List.length_nil] at g2 ⊢; omega, by simp only [List.length_cons, List.length_append, List.length_nil] at g3 ⊢; omega⟩ (by show g.ws.length - (i + 1) < g.ws.length - i; omega)
        · refine Wk.on ?_
          refine ⟨⟨Nat.le_of_ble_eq_true rfl, rfl, rfl, by rw [ints_len]; simp, by show ((B.length + 1 + 1 : Nat) : Int) * 8 ≤ _; simp only [List.length_cons] at g2 g3; omega, by simp only [List.length_cons] at g2 g3; omega⟩, ?_⟩
          refine Wk.on ?_
          exact Again.mk (i + 1, a0 :: A, b0 :: (B ++ [((i : Nat) : Int)])) (Sub.new [(32, 41)] ⟨rfl, rfl, (by simp [tupA, hpLt, tmLt, AV.lt, AE.lt, AC.lt, LL_cons, LL_nil, idOk, ABlk.lt, ints_LL, GB, tab64_LL, gC, wB, giC, noneB, gst, tC, pC, gN, gR, rC, rB, tvC_LL, rc, rcH])⟩ rfl (by (repeat (first | exact trivial | refine ⟨trivial, ?_⟩ | refine ⟨rfl, ?_⟩))) ⟨congrArg (fun n => some (ABlk.own [AC.row 31 (A.length + 1), .row 41 (n + 1)])) (show B.length + 1 = (B ++ [((i : Nat) : Int)]).length by simp), rfl, rfl, rfl, congrArg (fun c => some (ABlk.ro c)) (ints_ren _ _).symm, congrArg (fun c => some (ABlk.ro c)) (ints_ren _ _).symm, congrArg (fun c => some (ABlk.row 60 2 c)) (ints_ren _ _).symm, congrArg (fun c => some (ABlk.row 60 2 c)) (ints_ren _ _).symm, congrArg (fun c => some (ABlk.ro c)) (tab64_ren _).symm, rfl, rowEq rfl, rowEq (by show ints (b0 :: B) ++ [.int .i64 ((i : Nat) : Int)] = _; simp [ints]), trivial⟩ rfl (by simp [tupA, hpLt, tmLt, AV.lt, AE.lt, AC.lt, LL_cons, LL_nil, idOk, ABlk.lt, ints_LL, GB, tab64_LL, gC, wB, giC, noneB, gst, tC, pC, gN, gR, rC, rB, tvC_LL, rc, rcH]) (by simp [tupA, hpLt, tmLt, AV.lt, AE.lt, AC.lt, LL_cons, LL_nil, idOk, ABlk.lt, ints_LL, GB, tab64_LL, gC, wB, giC, noneB, gst, tC, pC, gN, gR, rC, rB, tvC_LL, rc, rcH])) ⟨by show i + 1 ≤ g.ws.length; omega, by simp only [List.length_cons, List.length_append, List.length_nil] at g2 ⊢; omega, by simp only [List.length_cons, List.length_append, List.length_nil] at g3 ⊢; omega⟩ (by show g.ws.length - (i + 1) < g.ws.length - i; omega)
        · refine Wk.on ?_
          exact Again.mk (i + 1, a0 :: A, b0 :: B) (Sub.nil ⟨rfl, rfl, (by simp [tab64_LL, gC, wB, giC, noneB, gst, tC, pC, gN, gR, rC, rB, tvC_LL, rc, rcH]), rfl, (by simp [tupA, hpLt, tmLt, AV.lt, AE.lt, AC.lt, LL_cons, LL_nil, idOk, ABlk.lt, ints_LL, GB, tab64_LL, gC, wB, giC, noneB, gst, tC, pC, gN, gR, rC, rB, tvC_LL, rc, rcH]), (by simp [tupA, hpLt, tmLt, AV.lt, AE.lt, AC.lt, LL_cons, LL_nil, idOk, ABlk.lt, ints_LL, GB, tab64_LL, gC, wB, giC, noneB, gst, tC, pC, gN, gR, rC, rB, tvC_LL, rc, rcH])⟩ (by (repeat (first | exact trivial | refine ⟨trivial, ?_⟩ | refine ⟨rfl, ?_⟩))) (by (repeat (first | exact trivial | refine ⟨trivial, ?_⟩ | refine ⟨rfl, ?_⟩)))) ⟨by show i + 1 ≤ g.ws.length; omega, by show List.length (a0 :: A) ≤ i + 1; omega, by show List.length (b0 :: B) ≤ i + 1; omega⟩ (by show g.ws.length - (i + 1) < g.ws.length - i; omega)
        · omega
      · rw [decide_eq_false (show ¬ ((i : Nat) : Int) < ((L0.length : Nat) : Int) by omega)]
        refine Wk.on ?_
        refine ⟨⟨Nat.le_of_ble_eq_true rfl, rfl, rfl, by rw [ints_len]; simp, by show ((A.length + 1 + 1 : Nat) : Int) * 8 ≤ _; simp only [List.length_cons] at g2 g3; omega, by simp only [List.length_cons] at g2 g3; omega⟩, ?_⟩
        refine Wk.on ?_
        exact Again.mk (i + 1, a0 :: (A ++ [((i : Nat) : Int)]), b0 :: B) (Sub.new [(31, 41)] ⟨rfl, rfl, (by simp [tupA, hpLt, tmLt, AV.lt, AE.lt, AC.lt, LL_cons, LL_nil, idOk, ABlk.lt, ints_LL, GB, tab64_LL, gC, wB, giC, noneB, gst, tC, pC, gN, gR, rC, rB, tvC_LL, rc, rcH])⟩ rfl (by (repeat (first | exact trivial | refine ⟨trivial, ?_⟩ | refine ⟨rfl, ?_⟩))) ⟨congrArg (fun n => some (ABlk.own [AC.row 41 (n + 1), .row 32 (B.length + 1)])) (show A.length + 1 = (A ++ [((i : Nat) : Int)]).length by simp), rfl, rfl, rfl, congrArg (fun c => some (ABlk.ro c)) (ints_ren _ _).symm, congrArg (fun c => some (ABlk.ro c)) (ints_ren _ _).symm, congrArg (fun c => some (ABlk.row 60 2 c)) (ints_ren _ _).symm, congrArg (fun c => some (ABlk.row 60 2 c)) (ints_ren _ _).symm, congrArg (fun c => some (ABlk.ro c)) (tab64_ren _).symm, rfl, rowEq (by show ints (a0 :: A) ++ [.int .i64 ((i : Nat) : Int)] = _; simp [ints]), rowEq rfl, trivial⟩ rfl (by simp [tupA, hpLt, tmLt, AV.lt, AE.lt, AC.lt, LL_cons, LL_nil, idOk, ABlk.lt, ints_LL, GB, tab64_LL, gC, wB, giC, noneB, gst, tC, pC, gN, gR, rC, rB, tvC_LL, rc, rcH]) (by simp [tupA, hpLt, tmLt, AV.lt, AE.lt, AC.lt, LL_cons, LL_nil, idOk, ABlk.lt, ints_LL, GB, tab64_LL, gC, wB, giC, noneB, gst, tC, pC, gN, gR, rC, rB, tvC_LL, rc, rcH])) ⟨by show i + 1 ≤ g.ws.length; omega, by simp only [List.length_cons, List.length_append, List.length_nil] at g2 ⊢; omega, by simp only [List.length_cons, List.length_append, List.length_nil] at g3 ⊢; omega⟩ (by show g.ws.length - (i + 1) < g.ws.length - i; omega)
end Go.Proofs.YtfphkpdobbffeaaDoor

/-
  Wires that join places: what is joined, how many groups there are, forests. (Plain.)
-/
namespace Go.Wire

def lb {α : Type} (e : α → Nat × Nat) : List α → Nat → Nat
  | [], u => u
  | i :: l, u => if lb e l u = max (lb e l (e i).1) (lb e l (e i).2) then min (lb e l (e i).1) (lb e l (e i).2) else lb e l u
def Jn {α : Type} (e : α → Nat × Nat) (l : List α) (u v : Nat) : Prop := lb e l u = lb e l v
variable {α : Type} {e : α → Nat × Nat}
theorem lb_le : ∀ (l : List α) (u : Nat), lb e l u ≤ u
  | [], u => Nat.le_refl u
  | i :: l, u => by
    have h := lb_le l u
    rw [lb]
    split
    · omega
    · exact h
theorem lb_hit {i : α} {l : List α} {u : Nat} (h : lb e l u = max (lb e l (e i).1) (lb e l (e i).2)) : lb e (i :: l) u = min (lb e l (e i).1) (lb e l (e i).2) := by rw [lb, if_pos h]
theorem lb_mis {i : α} {l : List α} {u : Nat} (h : lb e l u ≠ max (lb e l (e i).1) (lb e l (e i).2)) : lb e (i :: l) u = lb e l u := by rw [lb, if_neg h]
theorem lb_lb : ∀ (l : List α) (u : Nat), lb e l (lb e l u) = lb e l u
  | [], u => rfl
  | i :: l, u => by
    have h := lb_lb l u
    have hm : lb e l (min (lb e l (e i).1) (lb e l (e i).2)) = min (lb e l (e i).1) (lb e l (e i).2) := by
      rcases Nat.le_total (lb e l (e i).1) (lb e l (e i).2) with k | k
      · rw [Nat.min_eq_left k]; exact lb_lb l _
      · rw [Nat.min_eq_right k]; exact lb_lb l _
    by_cases c : lb e l u = max (lb e l (e i).1) (lb e l (e i).2)
    · rw [lb_hit c]
      by_cases d : lb e l (min (lb e l (e i).1) (lb e l (e i).2)) = max (lb e l (e i).1) (lb e l (e i).2)
      · exact lb_hit d
      · rw [lb_mis d, hm]
    · rw [lb_mis c, lb_mis (by rw [h]; exact c), h]
theorem jn_cons {i : α} {l : List α} {u v : Nat} : Jn e (i :: l) u v ↔ Jn e l u v ∨ (Jn e l u (e i).1 ∧ Jn e l (e i).2 v) ∨ (Jn e l u (e i).2 ∧ Jn e l (e i).1 v) := by
  unfold Jn
  simp only [lb]
  generalize lb e l u = x
  generalize lb e l v = y
  generalize lb e l (e i).1 = A
  generalize lb e l (e i).2 = B
  split <;> split <;> omega
theorem Jn.refl (l : List α) (u : Nat) : Jn e l u u := rfl
theorem Jn.symm {l : List α} {u v : Nat} (h : Jn e l u v) : Jn e l v u := Eq.symm h
theorem Jn.trans {l : List α} {u v w : Nat} (h : Jn e l u v) (k : Jn e l v w) : Jn e l u w := Eq.trans h k
theorem jn_mem : ∀ {l : List α} {i : α}, i ∈ l → Jn e l (e i).1 (e i).2
  | j :: l, i, h => by
    rw [jn_cons]
    rcases List.mem_cons.1 h with rfl | h
    · exact .inr (.inl ⟨rfl, rfl⟩)
    · exact .inl (jn_mem h)
structure Eqv (R : Nat → Nat → Prop) : Prop where
  refl : ∀ u, R u u
  symm : ∀ {u v}, R u v → R v u
  trans : ∀ {u v w}, R u v → R v w → R u w
theorem Jn.eqv (l : List α) : Eqv (Jn e l) := ⟨fun _ => rfl, Eq.symm, Eq.trans⟩
theorem jn_least {R : Nat → Nat → Prop} (hR : Eqv R) : ∀ {l : List α} {u v : Nat}, (∀ i ∈ l, R (e i).1 (e i).2) → Jn e l u v → R u v
  | [], u, v, _, h => by have : u = v := h; subst this; exact hR.refl u
  | i :: l, u, v, hl, h => by
    have ih : ∀ {x y}, Jn e l x y → R x y := fun h => jn_least hR (fun j hj => hl j (List.mem_cons_of_mem _ hj)) h
    have hi := hl i (List.mem_cons_self ..)
    rcases jn_cons.1 h with h | ⟨h1, h2⟩ | ⟨h1, h2⟩
    · exact ih h
    · exact hR.trans (ih h1) (hR.trans hi (ih h2))
    · exact hR.trans (ih h1) (hR.trans (hR.symm hi) (ih h2))
theorem jn_mono {l l' : List α} {u v : Nat} (hs : ∀ i ∈ l, i ∈ l') (h : Jn e l u v) : Jn e l' u v := jn_least (Jn.eqv l') (fun _ hi => jn_mem (hs _ hi)) h
theorem jn_perm {l l' : List α} {u v : Nat} (hp : l.Perm l') : Jn e l u v ↔ Jn e l' u v := ⟨jn_mono fun _ h => hp.mem_iff.1 h, jn_mono fun _ h => hp.mem_iff.2 h⟩
theorem lb_congr {l l' : List α} (h : ∀ u v, Jn e l u v ↔ Jn e l' u v) (u : Nat) : lb e l u = lb e l' u := by
  have h1 : Jn e l' u (lb e l u) := (h _ _).1 (lb_lb l u).symm
  have h2 : Jn e l u (lb e l' u) := (h _ _).2 (lb_lb l' u).symm
  have h3 : lb e l' u ≤ lb e l u := by rw [show lb e l' u = lb e l' (lb e l u) from h1]; exact lb_le _ _
  have h4 : lb e l u ≤ lb e l' u := by rw [show lb e l u = lb e l (lb e l' u) from h2]; exact lb_le _ _
  omega
def cp {α : Type} (e : α → Nat × Nat) (n : Nat) (l : List α) : Nat := (List.range n).countP fun u => decide (lb e l u = u)
theorem cp_congr {n : Nat} {l l' : List α} (h : ∀ u v, Jn e l u v ↔ Jn e l' u v) : cp e n l = cp e n l' := by
  unfold cp
  refine List.countP_congr fun u _ => ?_
  rw [lb_congr h]
theorem cp_nil (n : Nat) : cp e n [] = n := by
  have : (List.range n).countP (fun u => decide (lb e [] u = u)) = (List.range n).length := List.countP_eq_length.2 fun u _ => decide_eq_true rfl
  rw [cp, this, List.length_range]
theorem cnt_rm (p : Nat → Bool) (M : Nat) (hp : p M = true) : ∀ n, (List.range n).countP (fun u => p u && decide (u ≠ M)) + (if M < n then 1 else 0) = (List.range n).countP p
  | 0 => rfl
  | n + 1 => by
    have ih := cnt_rm p M hp n
    simp only [List.range_succ, List.countP_append, List.countP_cons, List.countP_nil]
    by_cases e : n = M
    · subst e
      simp [hp] at ih ⊢
      omega
    · simp only [show (decide (n ≠ M)) = true by simp [e], Bool.and_true]
      rw [show (if M < n + 1 then 1 else 0) = (if M < n then 1 else 0) from by simp only [show (M < n + 1) ↔ M < n by omega]]
      omega
theorem cp_same {n : Nat} {i : α} {l : List α} (h : Jn e l (e i).1 (e i).2) : cp e n (i :: l) = cp e n l := by
  refine cp_congr fun u v => ⟨fun k => ?_, jn_mono fun j hj => List.mem_cons_of_mem _ hj⟩
  rcases jn_cons.1 k with k | ⟨k1, k2⟩ | ⟨k1, k2⟩
  · exact k
  · exact k1.trans (h.trans k2)
  · exact k1.trans (h.symm.trans k2)
theorem cp_less {n : Nat} {i : α} {l : List α} (h : ¬ Jn e l (e i).1 (e i).2) (ha : (e i).1 < n) (hb : (e i).2 < n) : cp e n (i :: l) + 1 = cp e n l := by
  have hA := lb_lb (e := e) l (e i).1
  have hB := lb_lb (e := e) l (e i).2
  have lA := lb_le (e := e) l (e i).1
  have lB := lb_le (e := e) l (e i).2
  have hne : lb e l (e i).1 ≠ lb e l (e i).2 := h
  have hM : lb e l (max (lb e l (e i).1) (lb e l (e i).2)) = max (lb e l (e i).1) (lb e l (e i).2) := by
    rcases Nat.le_total (lb e l (e i).1) (lb e l (e i).2) with k | k
    · rw [Nat.max_eq_right k]; exact hB
    · rw [Nat.max_eq_left k]; exact hA
  have hm : lb e l (min (lb e l (e i).1) (lb e l (e i).2)) = min (lb e l (e i).1) (lb e l (e i).2) := by
    rcases Nat.le_total (lb e l (e i).1) (lb e l (e i).2) with k | k
    · rw [Nat.min_eq_left k]; exact hA
    · rw [Nat.min_eq_right k]; exact hB
  have := cnt_rm (fun u => decide (lb e l u = u)) (max (lb e l (e i).1) (lb e l (e i).2)) (decide_eq_true hM) n
  rw [if_pos (by omega)] at this
  rw [cp, cp, ← this]
  congr 1
  refine List.countP_congr fun u _ => ?_
  rw [Bool.and_eq_true, decide_eq_true_eq, decide_eq_true_eq, decide_eq_true_eq]
  by_cases c : lb e l u = max (lb e l (e i).1) (lb e l (e i).2)
  · rw [lb_hit c]
    constructor
    · intro k; rw [← k, hm] at c; omega
    · rintro ⟨k1, k2⟩; omega
  · rw [lb_mis c]
    constructor
    · intro k; exact ⟨k, by omega⟩
    · exact fun k => k.1
theorem cp_pos {n : Nat} (hn : 0 < n) (l : List α) : 0 < cp e n l := by
  rw [cp, List.countP_pos_iff]
  exact ⟨0, List.mem_range.2 hn, decide_eq_true (by have := lb_le (e := e) l 0; omega)⟩
def In {α : Type} (e : α → Nat × Nat) (n : Nat) (l : List α) : Prop := ∀ i ∈ l, (e i).1 < n ∧ (e i).2 < n
theorem In.tail {n : Nat} {i : α} {l : List α} (h : In e n (i :: l)) : In e n l := fun j hj => h j (List.mem_cons_of_mem _ hj)
theorem In.sub {n : Nat} {l l' : List α} (h : In e n l) (hs : ∀ i ∈ l', i ∈ l) : In e n l' := fun j hj => h j (hs j hj)
theorem cp_ge {n : Nat} : ∀ {l : List α}, In e n l → n ≤ cp e n l + l.length
  | [], _ => by rw [cp_nil]; exact Nat.le_refl _
  | i :: l, h => by
    have ih := cp_ge h.tail
    have hi := h i (List.mem_cons_self ..)
    rw [List.length_cons]
    by_cases c : Jn e l (e i).1 (e i).2
    · rw [cp_same c]; omega
    · have := cp_less c hi.1 hi.2; omega
def Fo {α : Type} (e : α → Nat × Nat) (n : Nat) (l : List α) : Prop := In e n l ∧ cp e n l + l.length = n
theorem Fo.nil (n : Nat) : Fo e n [] := ⟨fun i hi => absurd hi List.not_mem_nil, by rw [cp_nil]; rfl⟩
theorem fo_cons {n : Nat} {i : α} {l : List α} (hi : (e i).1 < n ∧ (e i).2 < n) : Fo e n (i :: l) ↔ Fo e n l ∧ ¬ Jn e l (e i).1 (e i).2 := by
  constructor
  · rintro ⟨h1, h2⟩
    have := cp_ge h1.tail
    rw [List.length_cons] at h2
    by_cases c : Jn e l (e i).1 (e i).2
    · rw [cp_same c] at h2; omega
    · have h3 := cp_less c hi.1 hi.2
      exact ⟨⟨h1.tail, by omega⟩, c⟩
  · rintro ⟨⟨h1, h2⟩, c⟩
    have h3 := cp_less c hi.1 hi.2
    refine ⟨fun j hj => ?_, by rw [List.length_cons]; omega⟩
    rcases List.mem_cons.1 hj with rfl | hj
    · exact hi
    · exact h1 j hj
theorem Fo.perm {n : Nat} {l l' : List α} (hp : l.Perm l') (h : Fo e n l) : Fo e n l' := by
  refine ⟨h.1.sub fun i hi => hp.mem_iff.2 hi, ?_⟩
  rw [cp_congr (fun u v => (jn_perm hp.symm)), ← hp.length_eq]; exact h.2
theorem Fo.tail {n : Nat} {i : α} {l : List α} (h : Fo e n (i :: l)) : Fo e n l := ((fo_cons (h.1 i (List.mem_cons_self ..))).1 h).1
theorem Fo.head {n : Nat} {i : α} {l : List α} (h : Fo e n (i :: l)) : ¬ Jn e l (e i).1 (e i).2 := ((fo_cons (h.1 i (List.mem_cons_self ..))).1 h).2
theorem Fo.sub {n : Nat} {l l' : List α} (hs : l'.Sublist l) : Fo e n l → Fo e n l' := by
  induction hs with
  | slnil => exact id
  | cons a _ ih => exact fun h => ih h.tail
  | cons_cons a hs ih =>
    intro h
    exact (fo_cons (h.1 _ (List.mem_cons_self ..))).2 ⟨ih h.tail, fun k => h.head (jn_mono (fun j hj => hs.subset hj) k)⟩
theorem Fo.nodup {n : Nat} : ∀ {l : List α}, Fo e n l → l.Nodup
  | [], _ => List.nodup_nil
  | i :: l, h => List.nodup_cons.2 ⟨fun hi => h.head (jn_mem hi), Fo.nodup h.tail⟩
theorem Fo.len {n : Nat} {l : List α} (hn : 0 < n) (h : Fo e n l) : l.length + 1 ≤ n := by
  have := cp_pos (e := e) hn l
  have := h.2
  omega
theorem least_join [DecidableEq α] {x y : Nat} : ∀ (k : Nat) (l : List α), l.length ≤ k → Jn e l x y → ∃ M, M.Sublist l ∧ Jn e M x y ∧ ∀ f ∈ M, ¬ Jn e (M.erase f) x y
  | 0, l, hk, h => ⟨l, List.Sublist.refl l, h, fun f hf => by
      have : l = [] := List.length_eq_zero_iff.1 (by omega)
      rw [this] at hf
      exact absurd hf List.not_mem_nil⟩
  | k + 1, l, hk, h => by
    by_cases c : ∃ f ∈ l, Jn e (l.erase f) x y
    · obtain ⟨f, hf, hj⟩ := c
      obtain ⟨M, h1, h2, h3⟩ := least_join k (l.erase f) (by rw [List.length_erase_of_mem hf]; omega) hj
      exact ⟨M, h1.trans List.erase_sublist, h2, h3⟩
    · exact ⟨l, List.Sublist.refl l, h, fun f hf hj => c ⟨f, hf, hj⟩⟩
theorem Fo.spare [DecidableEq α] {n : Nat} {l M : List α} {x y : Nat} {f : α} (h : Fo e n l) (hM : M.Sublist l) (hf : f ∈ M) (h1 : Jn e M x y) (h2 : ¬ Jn e (M.erase f) x y) : ¬ Jn e (l.erase f) x y := by
  intro k
  have hfl := hM.subset hf
  have h0 : Fo e n (f :: l.erase f) := Fo.perm (List.perm_cons_erase hfl) h
  have hs : ∀ j ∈ M.erase f, j ∈ l.erase f := fun j hj => (hM.erase f).subset hj
  have h3 := (jn_perm (List.perm_cons_erase hf)).1 h1
  rcases jn_cons.1 h3 with h3 | ⟨h3, h4⟩ | ⟨h3, h4⟩
  · exact h2 h3
  · exact h0.head ((jn_mono hs h3).symm.trans (k.trans (jn_mono hs h4).symm))
  · exact h0.head ((jn_mono hs h4).trans (k.symm.trans (jn_mono hs h3)))
theorem Fo.turn [DecidableEq α] {n : Nat} {i f : α} {l : List α} (h : Fo e n l) (hi : (e i).1 < n ∧ (e i).2 < n) (hf : f ∈ l) (hn : ¬ Jn e (l.erase f) (e i).1 (e i).2) : Fo e n (i :: l.erase f) :=
  (fo_cons hi).2 ⟨h.sub List.erase_sublist, hn⟩
end Go.Wire
