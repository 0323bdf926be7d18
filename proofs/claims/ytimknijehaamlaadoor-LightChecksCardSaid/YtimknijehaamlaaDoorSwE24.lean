/-
  Contract: LightChecks.
-/
import Derived.Test.YtimknijehaamlaaDoorSwE23
import Derived.Test.YtimknijehaamlaaDoorSw5
set_option linter.unusedSimpArgs false
set_option linter.unusedVariables false
namespace Go.Proofs.YtimknijehaamlaaDoor
open Go Go.AH Go.Lin
set_option maxRecDepth 100000
set_option maxHeartbeats 1000000

/-- The pairs of the first k, as they are good. -/
def natP (es : List (Int × Int)) (k : Nat) : List (Nat × Nat) := (es.take k).map fun p => (p.1.toNat, p.2.toNat)
theorem natP_len {es : List (Int × Int)} {k : Nat} (hk : k ≤ es.length) : (natP es k).length = k := by simp [natP]; omega
theorem natP_get {es : List (Int × Int)} {k : Nat} (hk : k ≤ es.length) {i : Nat} (hi : i < k) : (natP es k).getD i (0, 0) = ((es.getD i (0, 0)).1.toNat, (es.getD i (0, 0)).2.toNat) := by
  simp [natP, List.getD_eq_getElem?_getD, List.getElem?_map, List.getElem?_take, hi, List.getElem?_eq_getElem (show i < es.length by omega)]
theorem good_nat {n : Int} {es : List (Int × Int)} {i : Nat} (h : badE n es i = false) : 0 ≤ (es.getD i (0, 0)).1 ∧ (es.getD i (0, 0)).1 < (es.getD i (0, 0)).2 ∧ (es.getD i (0, 0)).2 < n ∧ (0 < i → ((es.getD (i - 1) (0, 0)).1 < (es.getD i (0, 0)).1 ∨ (es.getD (i - 1) (0, 0)).1 = (es.getD i (0, 0)).1 ∧ (es.getD (i - 1) (0, 0)).2 < (es.getD i (0, 0)).2)) := by
  unfold badE badP at h
  simp only [Bool.or_eq_false_iff, Bool.and_eq_false_iff, decide_eq_false_iff_not] at h
  obtain ⟨⟨⟨h1, h2⟩, h3⟩, h4⟩ := h
  refine ⟨by omega, by omega, by omega, fun hi => ?_⟩
  omega
theorem natP_good {n : Nat} {es : List (Int × Int)} {k : Nat} (h1 : 1 ≤ n) (h16 : n ≤ 16) (hk : k ≤ es.length) (h : ∀ j, j < k → badE n es j = false) : Gr n (natP es k) ∧ goodTo (natP es k) es := by
  have hl := natP_len hk
  refine ⟨⟨h1, h16, fun i hi => ?_, fun i hi => ?_⟩, fun i hi => ?_⟩
  · rw [natP_get hk (by omega)]
    have := good_nat (h i (by omega))
    dsimp only
    omega
  · rw [natP_get hk (by omega), natP_get hk (by omega)]
    have g0 := good_nat (h i (by omega))
    have g1 := good_nat (h (i + 1) (by omega))
    rw [Nat.add_sub_cancel] at g1
    have := g1.2.2.2 (by omega)
    dsimp only
    omega
  · rw [natP_get hk (by omega)]
    have := good_nat (h i (by omega))
    dsimp only
    generalize es.getD i (0, 0) = p at *
    obtain ⟨a, b⟩ := p
    dsimp only at this ⊢
    rw [Int.toNat_of_nonneg this.1, Int.toNat_of_nonneg (by omega)]
theorem natP_prs {n : Nat} {es : List (Int × Int)} (h : goodTo (natP es es.length) es) : flI es = prs (natP es es.length) := by
  have key : ∀ es : List (Int × Int), (∀ p ∈ es, 0 ≤ p.1 ∧ 0 ≤ p.2) → flI es = prs (es.map fun p => (p.1.toNat, p.2.toNat)) := by
    intro es
    induction es with
    | nil => intro _; rfl
    | cons p es ih =>
      intro h
      have h0 := h p (by simp)
      have := ih fun q hq => h q (by simp [hq])
      simp only [flI, prs, List.flatMap_cons, List.map_cons] at this ⊢
      rw [this]
      obtain ⟨a, b⟩ := p
      dsimp only at h0 ⊢
      rw [Int.toNat_of_nonneg h0.1, Int.toNat_of_nonneg h0.2]
  rw [natP, List.take_length]
  refine key es fun p hp => ?_
  obtain ⟨i, hi, rfl⟩ := List.getElem_of_mem hp
  have := h i (by rw [natP_len (Nat.le_refl _)]; exact hi)
  rw [List.getD_eq_getElem?_getD, List.getElem?_eq_getElem hi, Option.getD_some] at this
  rw [this]
  dsimp only
  omega
theorem chk_zero {n : Int} {es : List (Int × Int)} (h : chkE n es = 0) : ∃ (N : Nat) (ws : List (Nat × Nat)), n = N ∧ Gr N ws ∧ flI es = prs ws ∧ es.length = ws.length := by
  unfold chkE at h
  split at h
  · cases h
  · rename_i hn
    split at h
    · cases h
    · rename_i ha
      obtain ⟨N, rfl⟩ : ∃ N : Nat, n = N := ⟨n.toNat, by omega⟩
      have hall : ∀ j, j < es.length → badE N es j = false := fun j hj => by
        cases e : badE N es j
        · rfl
        · exact absurd (List.any_eq_true.2 ⟨j, List.mem_range.2 hj, e⟩) ha
      obtain ⟨g1, g2⟩ := natP_good (n := N) (by omega) (by omega) (Nat.le_refl _) hall
      exact ⟨N, _, rfl, g1, natP_prs (n := N) g2, (natP_len (Nat.le_refl _)).symm⟩
theorem first_bad {p : Nat → Bool} : ∀ {m : Nat}, (List.range m).any p = true → ∃ k, k < m ∧ p k = true ∧ ∀ j, j < k → p j = false := by
  intro m
  induction m with
  | zero => intro h; cases h
  | succ m ih =>
    intro h
    by_cases e : (List.range m).any p = true
    · obtain ⟨k, h1, h2, h3⟩ := ih e
      exact ⟨k, by omega, h2, h3⟩
    · refine ⟨m, by omega, ?_, fun j hj => ?_⟩
      · rw [List.range_succ, List.any_append] at h
        simp only [Bool.not_eq_true] at e
        rw [e] at h
        simpa using h
      · cases e2 : p j
        · rfl
        · exact absurd (List.any_eq_true.2 ⟨j, List.mem_range.2 hj, e2⟩) e
theorem chk_Bad {n : Int} {es : List (Int × Int)} (hl : es.length ≤ 1000) (h : ¬ chkE n es = 0) (own : Bool) (S : Option (List Int)) (hS : ∀ L, S = some L → L.length ≤ 1000) : Bad n es own S (chkE n es) := by
  unfold chkE at h ⊢
  split
  · rename_i hn
    match S, hS with
    | none, _ => exact open_arg_n hn es own hl
    | some L, hS => exact FDet.wk (open_arg_r hn es own hl L (hS L rfl)) ⟨rfl, rfl, rfl, ⟨rfl, rfl, rfl⟩, trivial⟩ ⟨.inl rfl, .inl rfl, trivial⟩
  · rename_i hn
    rw [if_neg hn] at h
    split at h
    · rename_i ha
      rw [if_pos ha]
      obtain ⟨N, rfl⟩ : ∃ N : Nat, n = N := ⟨n.toNat, by omega⟩
      obtain ⟨k, hk, hb, hj⟩ := first_bad ha
      obtain ⟨g1, g2⟩ := natP_good (n := N) (by omega) (by omega) (by omega : k ≤ es.length) hj
      have hkl := natP_len (by omega : k ≤ es.length)
      match S, hS with
      | none, _ => exact open_bad_n g1 es own hl (by omega) g2 (by rw [hkl]; exact hb)
      | some L, hS => exact FDet.wk (open_bad_r g1 es own hl (by omega) g2 (by rw [hkl]; exact hb) L (hS L rfl)) ⟨rfl, rfl, rfl, ⟨rfl, rfl, rfl⟩, trivial⟩ ⟨.inl rfl, .inl rfl, trivial⟩
    · exact absurd rfl h
theorem chk_Set {n : Int} {es : List (Int × Int)} (hl : es.length ≤ 1000) {N : Nat} {ws : List (Nat × Nat)} (hn : n = N) (hG : Gr N ws) (hf : flI es = prs ws) (hel : es.length = ws.length) (own : Bool) {S : List Int} (hS : S.length ≤ 1000) (hb : S.any (oorB N) = true) : Bad n es own (some S) 1 := by
  subst hn
  show FDet _ _ _ _ _ _ _ _
  rw [hf, hel]
  exact FDet.wk (open_set hG own (by omega) S hS hb) ⟨rfl, rfl, rfl, ⟨rfl, rfl, rfl⟩, trivial⟩ ⟨.inl rfl, .inl rfl, trivial⟩
theorem Check_any (n : Int) (es : List (Int × Int)) (hl : es.length ≤ 1000) : FDet Tryd.prog 25 [.c (.int .i64 n), .c (.rs 0 0 es.length)] [(0, .ro (ints (flI es)))] 1 (.c (.int .i64 (chkE n es))) [] 1 := by
  by_cases h : chkE n es = 0
  · obtain ⟨N, ws, rfl, hG, hf, hel⟩ := chk_zero h
    rw [h, hf, hel]
    exact Check_spec hG (by omega)
  · exact Check_bad n es _ h (chk_Bad hl h false none fun L hL => by cases hL)
theorem checks_n (n : Int) (ws : List (Int × Int)) (x : Int) (h4 : ws.length ≤ 9223372036854775807) (hP : ws = []) : FDet Tryd.prog 16 [.c (.int .i64 n), .c (.rs 0 0 ws.length), .c (.int .i64 x)] [(0, .ro (ints (flI ws))), (100001, .ro tab64)] 1 (.c (.bool true)) [] 1 := by
  obtain ⟨es, hes⟩ : ∃ es, es = ws.take 130 := ⟨_, rfl⟩
  have hel : es.length ≤ 1000 := by rw [hes, List.length_take]; omega
  subst hP
  have hes : es = [] := by rw [hes]; rfl
  have hr := refCheck_spec n es hel
  have hc := Check_any n es hel
  have hz := @chk_zero n es
  have hB := @chk_Bad n es hel
  have hT := @chk_Set n es hel
  generalize chkE n es = v at *
  have pQ := fun h => Quiet_bad n es true v h (hB h true none fun L hL => by cases hL)
  have pR := fun h => Reachable_bad n es true v h (hB h true none fun L hL => by cases hL)
  have pH := fun h => Hardest_bad n es false v h (hB h false none fun L hL => by cases hL)
  have lone : ∀ (y : Int) (L : List Int), some [y] = some L → L.length ≤ 1000 := fun y L hL => by injection hL with hL; subst hL; simp
  have ltwo : ∀ (y z : Int) (L : List Int), some [y, z] = some L → L.length ≤ 1000 := fun y z L hL => by injection hL with hL; subst hL; simp
  have pE := fun h => Effect_bad n es true x v h (hB h true _ (lone x))
  have pS := fun h => Solve_bad n es true x v h (hB h true _ (lone x))
  have pF := fun h => Fewest_bad n es false x v h (hB h false _ (lone x))
  have pT := fun h => Refute_bad n es true x v h (hB h true _ (lone x))
  have pI := fun h => IsRefutation_bad n es true x 0 v h (hB h true _ (ltwo x 0))
  have pJ := fun h => IsRefutation_bad n es true 0 x v h (hB h true _ (ltwo 0 x))
  have qE := fun o (h : Bad n es o (some [x]) 1) => Effect_bad n es o x 1 (by decide) h
  have qS := fun o (h : Bad n es o (some [x]) 1) => Solve_bad n es o x 1 (by decide) h
  have qF := fun o (h : Bad n es o (some [x]) 1) => Fewest_bad n es o x 1 (by decide) h
  have qT := fun o (h : Bad n es o (some [x]) 1) => Refute_bad n es o x 1 (by decide) h
  have qI := fun o (h : Bad n es o (some [x, 0]) 1) => IsRefutation_bad n es o x 0 1 (by decide) h
  have qJ := fun o (h : Bad n es o (some [0, x]) 1) => IsRefutation_bad n es o 0 x 1 (by decide) h
  clear hB
  subst hes
  refine FSpec.body2 tok true Tryd.func16 ?_
  refine Wk.on ?_
  refine CallA.ro2 [0] (.c (.rs 0 0 0)) (oown_ns) ?_
  refine Wk.on ?_
  refine CallA.ro2 [0] (.c (.int .i64 v)) (hr) ?_
  refine Wk.on ?_
  refine CallA.ro2 [0] (.c (.int .i64 v)) (hc) ?_
  refine Wk.on ?_
  rw [decide_eq_false (fun h : v ≠ v => h rfl)]
  refine Wk.on ?_
  intro _
  refine Wk.on ?_
  by_cases hv : v = 0
  · subst hv
    obtain ⟨N, gs, rfl, hG, hf, hel2⟩ := hz rfl
    have hn1 := hG.n1
    have hn16 := hG.n16
    obtain ⟨q, hq⟩ : ∃ q, q = 2 ^ N := ⟨_, rfl⟩
    have hq2 : q ≤ 65536 := by rw [hq]; exact (Nat.pow_le_pow_right (by omega) hn16 : 2 ^ N ≤ 2 ^ 16)
    have hsh : (1 : Int) * 2 ^ (Int.toNat (N : Int)) = (q : Int) := by simp [hq]
    have hbad : oorB N x = true → Bad N [] true (some [x]) 1 ∧ Bad N [] false (some [x]) 1 ∧ Bad N [] true (some [x, 0]) 1 ∧ Bad N [] true (some [0, x]) 1 := fun ho =>
      ⟨hT rfl hG hf hel2 true (by simp) (by simp [ho]), hT rfl hG hf hel2 false (by simp) (by simp [ho]), hT rfl hG hf hel2 true (by simp) (by simp [ho]), hT rfl hG hf hel2 true (by simp) (by simp [ho])⟩
    refine Wk.on ?_
    by_cases c1 : 0 ≤ x
    · rw [decide_eq_true c1]
      refine Wk.on ?_
      rw [hsh]
      refine Wk.on ?_
      by_cases c2 : x < (q : Int)
      · rw [decide_eq_true c2]
        refine Wk.on ?_
        refine CallA.ro2 [] (.c (.bool true)) (awake_spec) ?_
        refine Wk.on ?_
        exact AH.Fin.nil2 ⟨rfl, rfl, rfl⟩
      · rw [decide_eq_false c2]
        refine Wk.on ?_
        obtain ⟨h1, h1f, h2, h3⟩ := hbad (by rw [oorB, ← hq, decide_eq_true (show (q : Int) ≤ x by omega), Bool.or_true])
        refine CallA.ro2 [0] (.t [.c (.int .i64 0), .c (.int .i64 1)]) (qE true h1) ?_
        refine Wk.on ?_
        refine CallA.ro2 [0] (.t [.c (.int .i64 0), .c (.bool false), .c (.int .i64 1)]) (qS true h1) ?_
        refine Wk.on ?_
        refine CallA.ro2 [0] (.t [.c (.int .i64 0), .c (.bool false), .c (.int .i64 1)]) (qF false h1f) ?_
        refine Wk.on ?_
        refine CallA.ro2 [0] (.t [.c (.int .i64 0), .c (.bool false), .c (.int .i64 1)]) (qT true h1) ?_
        refine Wk.on ?_
        refine CallA.ro2 [0] (.t [.c (.bool false), .c (.int .i64 1)]) (qI true h2) ?_
        refine Wk.on ?_
        refine CallA.ro2 [0] (.t [.c (.bool false), .c (.int .i64 1)]) (qJ true h3) ?_
        refine Wk.on ?_
        refine CallA.ro2 [] (.c (.bool true)) (awake_spec) ?_
        refine Wk.on ?_
        exact AH.Fin.nil2 ⟨rfl, rfl, rfl⟩
    · rw [decide_eq_false c1]
      refine Wk.on ?_
      obtain ⟨h1, h1f, h2, h3⟩ := hbad (by rw [oorB, decide_eq_true (show x < 0 by omega), Bool.true_or])
      refine CallA.ro2 [0] (.t [.c (.int .i64 0), .c (.int .i64 1)]) (qE true h1) ?_
      refine Wk.on ?_
      refine CallA.ro2 [0] (.t [.c (.int .i64 0), .c (.bool false), .c (.int .i64 1)]) (qS true h1) ?_
      refine Wk.on ?_
      refine CallA.ro2 [0] (.t [.c (.int .i64 0), .c (.bool false), .c (.int .i64 1)]) (qF false h1f) ?_
      refine Wk.on ?_
      refine CallA.ro2 [0] (.t [.c (.int .i64 0), .c (.bool false), .c (.int .i64 1)]) (qT true h1) ?_
      refine Wk.on ?_
      refine CallA.ro2 [0] (.t [.c (.bool false), .c (.int .i64 1)]) (qI true h2) ?_
      refine Wk.on ?_
      refine CallA.ro2 [0] (.t [.c (.bool false), .c (.int .i64 1)]) (qJ true h3) ?_
      refine Wk.on ?_
      refine CallA.ro2 [] (.c (.bool true)) (awake_spec) ?_
      refine Wk.on ?_
      exact AH.Fin.nil2 ⟨rfl, rfl, rfl⟩
  · rw [decide_eq_false hv]
    refine Wk.on ?_
    refine CallA.ro2 [0] (.t [.c .nils, .c (.int .i64 v)]) (pQ hv) ?_
    refine Wk.on ?_
    refine CallA.ro2 [0] (.t [.c (.int .i64 0), .c (.int .i64 v)]) (pR hv) ?_
    refine Wk.on ?_
    refine CallA.ro2 [0] (.t [.c (.int .i64 0), .c (.int .i64 0), .c (.int .i64 v)]) (pH hv) ?_
    refine Wk.on ?_
    rw [decide_eq_false (fun h : v ≠ v => h rfl)]
    refine Wk.on ?_
    rw [decide_eq_false (fun h : v ≠ v => h rfl)]
    refine Wk.on ?_
    rw [decide_eq_false (fun h : v ≠ v => h rfl)]
    refine Wk.on ?_
    refine CallA.ro2 [0] (.t [.c (.int .i64 0), .c (.int .i64 v)]) (pE hv) ?_
    refine Wk.on ?_
    refine CallA.ro2 [0] (.t [.c (.int .i64 0), .c (.bool false), .c (.int .i64 v)]) (pS hv) ?_
    refine Wk.on ?_
    refine CallA.ro2 [0] (.t [.c (.int .i64 0), .c (.bool false), .c (.int .i64 v)]) (pF hv) ?_
    refine Wk.on ?_
    refine CallA.ro2 [0] (.t [.c (.int .i64 0), .c (.bool false), .c (.int .i64 v)]) (pT hv) ?_
    refine Wk.on ?_
    refine CallA.ro2 [0] (.t [.c (.bool false), .c (.int .i64 v)]) (pI hv) ?_
    refine Wk.on ?_
    refine CallA.ro2 [0] (.t [.c (.bool false), .c (.int .i64 v)]) (pJ hv) ?_
    refine Wk.on ?_
    rw [decide_eq_true (rfl : v = v)]
    refine Wk.on ?_
    rw [decide_eq_true (rfl : v = v)]
    refine Wk.on ?_
    rw [decide_eq_true (rfl : v = v)]
    refine Wk.on ?_
    rw [decide_eq_true (rfl : v = v)]
    refine Wk.on ?_
    rw [decide_eq_true (rfl : v = v)]
    refine Wk.on ?_
    rw [decide_eq_true (rfl : v = v)]
    refine Wk.on ?_
    refine CallA.ro2 [] (.c (.bool true)) (awake_spec) ?_
    refine Wk.on ?_
    exact AH.Fin.nil2 ⟨rfl, rfl, rfl⟩
theorem checks_r (n : Int) (ws : List (Int × Int)) (x : Int) (h4 : ws.length ≤ 9223372036854775807) (hP : ws ≠ []) : FDet Tryd.prog 16 [.c (.int .i64 n), .c (.rs 0 0 ws.length), .c (.int .i64 x)] [(0, .ro (ints (flI ws))), (100001, .ro tab64)] 1 (.c (.bool true)) [] 1 := by
  obtain ⟨es, hes⟩ : ∃ es, es = ws.take 130 := ⟨_, rfl⟩
  have hel : es.length ≤ 1000 := by rw [hes, List.length_take]; omega
  have hw0 : 0 < ws.length := List.length_pos_iff.2 hP
  have ow := oown_rs ws hw0 h4
  rw [← hes] at ow
  have hr := refCheck_spec n es hel
  have hc := Check_any n es hel
  have hz := @chk_zero n es
  have hB := @chk_Bad n es hel
  have hT := @chk_Set n es hel
  generalize chkE n es = v at *
  have pQ := fun h => Quiet_bad n es true v h (hB h true none fun L hL => by cases hL)
  have pR := fun h => Reachable_bad n es true v h (hB h true none fun L hL => by cases hL)
  have pH := fun h => Hardest_bad n es false v h (hB h false none fun L hL => by cases hL)
  have lone : ∀ (y : Int) (L : List Int), some [y] = some L → L.length ≤ 1000 := fun y L hL => by injection hL with hL; subst hL; simp
  have ltwo : ∀ (y z : Int) (L : List Int), some [y, z] = some L → L.length ≤ 1000 := fun y z L hL => by injection hL with hL; subst hL; simp
  have pE := fun h => Effect_bad n es true x v h (hB h true _ (lone x))
  have pS := fun h => Solve_bad n es true x v h (hB h true _ (lone x))
  have pF := fun h => Fewest_bad n es false x v h (hB h false _ (lone x))
  have pT := fun h => Refute_bad n es true x v h (hB h true _ (lone x))
  have pI := fun h => IsRefutation_bad n es true x 0 v h (hB h true _ (ltwo x 0))
  have pJ := fun h => IsRefutation_bad n es true 0 x v h (hB h true _ (ltwo 0 x))
  have qE := fun o (h : Bad n es o (some [x]) 1) => Effect_bad n es o x 1 (by decide) h
  have qS := fun o (h : Bad n es o (some [x]) 1) => Solve_bad n es o x 1 (by decide) h
  have qF := fun o (h : Bad n es o (some [x]) 1) => Fewest_bad n es o x 1 (by decide) h
  have qT := fun o (h : Bad n es o (some [x]) 1) => Refute_bad n es o x 1 (by decide) h
  have qI := fun o (h : Bad n es o (some [x, 0]) 1) => IsRefutation_bad n es o x 0 1 (by decide) h
  have qJ := fun o (h : Bad n es o (some [0, x]) 1) => IsRefutation_bad n es o 0 x 1 (by decide) h
  clear hB
  refine FSpec.body2 tok true Tryd.func16 ?_
  refine Wk.on ?_
  refine CallA.det2 [0] (.c (.rs 1 0 es.length)) ([(0, .ro (ints (flI ws))), (100001, .ro tab64), (1, .row 38 2 (ints (flI es)))]) (ow) ?_
  refine Wk.on ?_
  refine CallA.ro2 [1] (.c (.int .i64 v)) (hr) ?_
  refine Wk.on ?_
  refine CallA.ro2 [1] (.c (.int .i64 v)) (hc) ?_
  refine Wk.on ?_
  rw [decide_eq_false (fun h : v ≠ v => h rfl)]
  refine Wk.on ?_
  intro _
  refine Wk.on ?_
  by_cases hv : v = 0
  · subst hv
    obtain ⟨N, gs, rfl, hG, hf, hel2⟩ := hz rfl
    have hn1 := hG.n1
    have hn16 := hG.n16
    obtain ⟨q, hq⟩ : ∃ q, q = 2 ^ N := ⟨_, rfl⟩
    have hq2 : q ≤ 65536 := by rw [hq]; exact (Nat.pow_le_pow_right (by omega) hn16 : 2 ^ N ≤ 2 ^ 16)
    have hsh : (1 : Int) * 2 ^ (Int.toNat (N : Int)) = (q : Int) := by simp [hq]
    have hbad : oorB N x = true → Bad N es true (some [x]) 1 ∧ Bad N es false (some [x]) 1 ∧ Bad N es true (some [x, 0]) 1 ∧ Bad N es true (some [0, x]) 1 := fun ho =>
      ⟨hT rfl hG hf hel2 true (by simp) (by simp [ho]), hT rfl hG hf hel2 false (by simp) (by simp [ho]), hT rfl hG hf hel2 true (by simp) (by simp [ho]), hT rfl hG hf hel2 true (by simp) (by simp [ho])⟩
    refine Wk.on ?_
    by_cases c1 : 0 ≤ x
    · rw [decide_eq_true c1]
      refine Wk.on ?_
      rw [hsh]
      refine Wk.on ?_
      by_cases c2 : x < (q : Int)
      · rw [decide_eq_true c2]
        refine Wk.on ?_
        refine CallA.ro2 [] (.c (.bool true)) (awake_spec) ?_
        refine Wk.on ?_
        exact AH.Fin.nil2 ⟨rfl, rfl, rfl⟩
      · rw [decide_eq_false c2]
        refine Wk.on ?_
        obtain ⟨h1, h1f, h2, h3⟩ := hbad (by rw [oorB, ← hq, decide_eq_true (show (q : Int) ≤ x by omega), Bool.or_true])
        refine CallA.ro2 [1] (.t [.c (.int .i64 0), .c (.int .i64 1)]) (qE true h1) ?_
        refine Wk.on ?_
        refine CallA.ro2 [1] (.t [.c (.int .i64 0), .c (.bool false), .c (.int .i64 1)]) (qS true h1) ?_
        refine Wk.on ?_
        refine CallA.ro2 [1] (.t [.c (.int .i64 0), .c (.bool false), .c (.int .i64 1)]) (qF false h1f) ?_
        refine Wk.on ?_
        refine CallA.ro2 [1] (.t [.c (.int .i64 0), .c (.bool false), .c (.int .i64 1)]) (qT true h1) ?_
        refine Wk.on ?_
        refine CallA.ro2 [1] (.t [.c (.bool false), .c (.int .i64 1)]) (qI true h2) ?_
        refine Wk.on ?_
        refine CallA.ro2 [1] (.t [.c (.bool false), .c (.int .i64 1)]) (qJ true h3) ?_
        refine Wk.on ?_
        refine CallA.ro2 [] (.c (.bool true)) (awake_spec) ?_
        refine Wk.on ?_
        exact AH.Fin.nil2 ⟨rfl, rfl, rfl⟩
    · rw [decide_eq_false c1]
      refine Wk.on ?_
      obtain ⟨h1, h1f, h2, h3⟩ := hbad (by rw [oorB, decide_eq_true (show x < 0 by omega), Bool.true_or])
      refine CallA.ro2 [1] (.t [.c (.int .i64 0), .c (.int .i64 1)]) (qE true h1) ?_
      refine Wk.on ?_
      refine CallA.ro2 [1] (.t [.c (.int .i64 0), .c (.bool false), .c (.int .i64 1)]) (qS true h1) ?_
      refine Wk.on ?_
      refine CallA.ro2 [1] (.t [.c (.int .i64 0), .c (.bool false), .c (.int .i64 1)]) (qF false h1f) ?_
      refine Wk.on ?_
      refine CallA.ro2 [1] (.t [.c (.int .i64 0), .c (.bool false), .c (.int .i64 1)]) (qT true h1) ?_
      refine Wk.on ?_
      refine CallA.ro2 [1] (.t [.c (.bool false), .c (.int .i64 1)]) (qI true h2) ?_
      refine Wk.on ?_
      refine CallA.ro2 [1] (.t [.c (.bool false), .c (.int .i64 1)]) (qJ true h3) ?_
      refine Wk.on ?_
      refine CallA.ro2 [] (.c (.bool true)) (awake_spec) ?_
      refine Wk.on ?_
      exact AH.Fin.nil2 ⟨rfl, rfl, rfl⟩
  · rw [decide_eq_false hv]
    refine Wk.on ?_
    refine CallA.ro2 [1] (.t [.c .nils, .c (.int .i64 v)]) (pQ hv) ?_
    refine Wk.on ?_
    refine CallA.ro2 [1] (.t [.c (.int .i64 0), .c (.int .i64 v)]) (pR hv) ?_
    refine Wk.on ?_
    refine CallA.ro2 [1] (.t [.c (.int .i64 0), .c (.int .i64 0), .c (.int .i64 v)]) (pH hv) ?_
    refine Wk.on ?_
    rw [decide_eq_false (fun h : v ≠ v => h rfl)]
    refine Wk.on ?_
    rw [decide_eq_false (fun h : v ≠ v => h rfl)]
    refine Wk.on ?_
    rw [decide_eq_false (fun h : v ≠ v => h rfl)]
    refine Wk.on ?_
    refine CallA.ro2 [1] (.t [.c (.int .i64 0), .c (.int .i64 v)]) (pE hv) ?_
    refine Wk.on ?_
    refine CallA.ro2 [1] (.t [.c (.int .i64 0), .c (.bool false), .c (.int .i64 v)]) (pS hv) ?_
    refine Wk.on ?_
    refine CallA.ro2 [1] (.t [.c (.int .i64 0), .c (.bool false), .c (.int .i64 v)]) (pF hv) ?_
    refine Wk.on ?_
    refine CallA.ro2 [1] (.t [.c (.int .i64 0), .c (.bool false), .c (.int .i64 v)]) (pT hv) ?_
    refine Wk.on ?_
    refine CallA.ro2 [1] (.t [.c (.bool false), .c (.int .i64 v)]) (pI hv) ?_
    refine Wk.on ?_
    refine CallA.ro2 [1] (.t [.c (.bool false), .c (.int .i64 v)]) (pJ hv) ?_
    refine Wk.on ?_
    rw [decide_eq_true (rfl : v = v)]
    refine Wk.on ?_
    rw [decide_eq_true (rfl : v = v)]
    refine Wk.on ?_
    rw [decide_eq_true (rfl : v = v)]
    refine Wk.on ?_
    rw [decide_eq_true (rfl : v = v)]
    refine Wk.on ?_
    rw [decide_eq_true (rfl : v = v)]
    refine Wk.on ?_
    rw [decide_eq_true (rfl : v = v)]
    refine Wk.on ?_
    refine CallA.ro2 [] (.c (.bool true)) (awake_spec) ?_
    refine Wk.on ?_
    exact AH.Fin.nil2 ⟨rfl, rfl, rfl⟩
theorem checks_all (n : Int) (ws : List (Int × Int)) (x : Int) (h4 : ws.length ≤ 9223372036854775807) : FDet Tryd.prog 16 [.c (.int .i64 n), .c (.rs 0 0 ws.length), .c (.int .i64 x)] [(0, .ro (ints (flI ws))), (100001, .ro tab64)] 1 (.c (.bool true)) [] 1 := by
  by_cases h : ws = []
  · exact checks_n n ws x h4 h
  · exact checks_r n ws x h4 h
end Go.Proofs.YtimknijehaamlaaDoor
