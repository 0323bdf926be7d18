/-
  Contracts: a position, as sets; read.
-/
import Derived.Test.YtfphkpdobbffeaaDoorSw6
import Derived.Laws.RangeString
import Derived.Test.YtfphkpdobbffeaaDoorSw2
set_option linter.unusedSimpArgs false
set_option linter.unusedVariables false
namespace Go.Proofs.YtfphkpdobbffeaaDoor
open Go Go.AH
set_option maxRecDepth 100000
set_option maxHeartbeats 1000000

end Go.Proofs.YtfphkpdobbffeaaDoor

/-
  Contracts: Position by the reference; the position of any string.
-/
namespace Go.Proofs.YtfphkpdobbffeaaDoor
open Go Go.AH
set_option maxRecDepth 100000
set_option maxHeartbeats 1000000

end Go.Proofs.YtfphkpdobbffeaaDoor

/-
  Contract: the position of any string.
-/
namespace Go.Proofs.YtfphkpdobbffeaaDoor
open Go Go.AH
set_option maxRecDepth 100000
set_option maxHeartbeats 1000000

end Go.Proofs.YtfphkpdobbffeaaDoor

/-
  Contracts: Joined, Wins, Best, of any string.
-/
namespace Go.Proofs.YtfphkpdobbffeaaDoor
open Go Go.AH
set_option maxRecDepth 100000
set_option maxHeartbeats 1000000

end Go.Proofs.YtfphkpdobbffeaaDoor

/-
  Contracts at games without wires; the law SwitchPositions, as a contract.
-/
namespace Go.Proofs.YtfphkpdobbffeaaDoor
open Go Go.AH
set_option maxRecDepth 100000
set_option maxHeartbeats 1000000

theorem nilW {g : Gm} (h : g.ws = []) {fn : FuncId} {args : List AV} {r : AV} {k' : Nat} (h1 : FDet Tryd.prog fn (.g (gC g 0) :: args) [(0, wB g), (100002, .ro tab64)] 1 r [] k')
    (hw : wkVs [(0, .ro []), (100002, .ro tab64)] args args) (ha : ∀ v ∈ args, v.all (· ≠ 0)) (hr : r.all (· ≠ 0)) : FDet Tryd.prog fn (.g (gN g) :: args) [(100002, .ro tab64)] 1 r [] k' := by
  rw [show wB g = .ro [] by rw [wB, h]; rfl] at h1
  refine FDet.nil0 h1 _ 100002 tab64 rfl ⟨.inr ⟨rfl, rfl, rfl, by show g.ws.length = 0; rw [h]; rfl, trivial⟩, hw⟩ ?_ ?_ hr
  · intro v hv
    rcases List.mem_cons.1 hv with rfl | hv
    · exact gN_all g _ _ (by simp)
    · exact ha v hv
  · intro p hp; simp at hp; subst hp; exact ⟨by decide, tab_all _⟩
theorem nilR {g : Gm} (h : g.ws = []) {fn : FuncId} {args : List AV} {r : AV} {k' : Nat} (h1 : FDet Tryd.prog fn (.g (gC g 0) :: args) [(0, wB g)] 1 r [] k')
    (hw : wkVs [(0, wB g), (100002, .ro tab64)] args args) (hw2 : wkVs [(0, .ro []), (100002, .ro tab64)] args args) (ha : ∀ v ∈ args, v.all (· ≠ 0)) (hr : r.all (· ≠ 0)) : FDet Tryd.prog fn (.g (gN g) :: args) [(100002, .ro tab64)] 1 r [] k' :=
  nilW h (FDet.wk h1 (args' := .g (gC g 0) :: args) (hp' := [(0, wB g), (100002, .ro tab64)]) ⟨.inl rfl, hw⟩ ⟨.inl rfl, trivial⟩) hw2 ha hr
end Go.Proofs.YtfphkpdobbffeaaDoor

/-
  Plain law: a tree on some places, by both.
-/
namespace Go.Proofs.YtfphkpdobbffeaaDoor
open Go Go.AH
set_option maxRecDepth 100000
set_option maxHeartbeats 1000000

theorem scan_gen (l : List Int) (pl n : Nat) : ∀ f k (first : Int), f + k = n → 0 ≤ first → (scanF l pl f k first = true ↔ ∀ j, k ≤ j → j < n → pl.testBit j = true → l.getD j 0 = first)
  | 0, k, first, h, _ => by
    simp only [scanF, true_iff]
    exact fun j h1 h2 => by omega
  | f + 1, k, first, h, h0 => by
    have hb := bit_test pl k
    have hb1 := bit_01 pl k
    rw [scanF]
    split
    · rename_i e
      rw [scan_gen l pl n f (k + 1) first (by omega) h0]
      constructor
      · intro h j h1 h2 h3
        by_cases hj : j = k
        · subst hj; rw [hb.2 h3] at e; omega
        · exact h j (by omega) h2 h3
      · exact fun h j h1 h2 => h j (by omega) h2
    · rename_i e
      simp only [if_neg (show ¬ first < 0 by omega)]
      split
      · rename_i e
        rw [scan_gen l pl n f (k + 1) first (by omega) h0]
        constructor
        · intro h j h1 h2 h3
          by_cases hj : j = k
          · rw [hj]; exact e
          · exact h j (by omega) h2 h3
        · exact fun h j h1 h2 => h j (by omega) h2
      · rename_i e2
        simp only [Bool.false_eq_true, false_iff]
        exact fun h => e2 (h k (by omega) (by omega) (hb.1 (by omega)))
theorem scan_start (l : List Int) (pl n : Nat) (hl : ∀ i, i < n → 0 ≤ l.getD i 0) : ∀ f k, f + k = n → (scanF l pl f k (-1) = true ↔ ∀ i j, k ≤ i → i < n → k ≤ j → j < n → pl.testBit i = true → pl.testBit j = true → l.getD i 0 = l.getD j 0)
  | 0, k, h => by
    simp only [scanF, true_iff]
    exact fun i j h1 h2 => by omega
  | f + 1, k, h => by
    have hb := bit_test pl k
    have hb1 := bit_01 pl k
    rw [scanF]
    split
    · rename_i e
      rw [scan_start l pl n hl f (k + 1) (by omega)]
      have ne : ∀ i, pl.testBit i = true → i ≠ k := fun i hi e2 => by subst e2; rw [hb.2 hi] at e; omega
      constructor
      · intro h i j h1 h2 h3 h4 h5 h6
        exact h i j (by have := ne i h5; omega) h2 (by have := ne j h6; omega) h4 h5 h6
      · exact fun h i j h1 h2 h3 h4 => h i j (by omega) h2 (by omega) h4
    · rename_i e
      simp only [show (-1 : Int) < 0 from by decide, if_true]
      rw [scan_gen l pl n f (k + 1) _ (by omega) (hl k (by omega))]
      have hk := hb.1 (by omega)
      constructor
      · intro h i j h1 h2 h3 h4 h5 h6
        have key : ∀ i, k ≤ i → i < n → pl.testBit i = true → l.getD i 0 = l.getD k 0 := fun i h1 h2 h5 => by
          by_cases e : i = k
          · rw [e]
          · exact h i (by omega) h2 h5
        rw [key i h1 h2 h5, key j h3 h4 h6]
      · exact fun h j h1 h2 h3 => h j k (by omega) h2 (by omega) (by omega) h3 hk
theorem countP_split (p q : Nat → Bool) : ∀ l : List Nat, l.countP p = l.countP (fun u => p u && q u) + l.countP (fun u => p u && !q u)
  | [] => rfl
  | a :: l => by
    simp only [List.countP_cons, countP_split p q l]
    cases p a <;> cases q a <;> simp <;> omega
theorem pop_cnt {pl n : Nat} (hn : n ≤ 10) (h : pl < 2 ^ n) : (List.range n).countP pl.testBit = pop pl := by
  rw [pop, memN, range_filter _ 10 hn fun i hi => by
    cases h2 : pl.testBit i with
    | false => rfl
    | true => have := lt_len h h2; omega, List.countP_eq_length_filter]
theorem cnt_is (r : Nat) : ∀ n, (List.range n).countP (fun u => decide (u = r)) = if r < n then 1 else 0
  | 0 => by simp
  | n + 1 => by
    have e1 : [n].countP (fun u => decide (u = r)) = if n = r then 1 else 0 := by simp [List.countP_cons]
    rw [List.range_succ, List.countP_append, cnt_is r n, e1]
    split <;> split <;> split <;> omega
def oneG (xs : List Int) (pl : Nat) : Prop := ∀ u v, pl.testBit u = true → pl.testBit v = true → root xs u = root xs v
def rootsIn (xs : List Int) (pl n : Nat) : Nat := (List.range n).countP fun u => decide (root xs u = u) && pl.testBit u
theorem rootsIn_one {xs : List Int} (h : Grp xs) {pl n : Nat} (hn : n ≤ 8) (hpl : pl < 2 ^ n) (h0 : pl ≠ 0) (hL : ∀ u, u < 8 → pl.testBit u = false → ∀ v, v < 8 → v ≠ u → root xs v ≠ u) : rootsIn xs pl n = 1 ↔ oneG xs pl := by
  have inn : ∀ u, pl.testBit u = true → u < n := fun u hu => lt_len hpl hu
  have rin : ∀ u, pl.testBit u = true → pl.testBit (root xs u) = true := fun u hu => by
    have hu8 := inn u hu
    have hr := root_le h (show u < 8 by omega)
    cases e : pl.testBit (root xs u) with
    | true => rfl
    | false =>
      exact absurd rfl (hL (root xs u) (by omega) e u (by omega) (fun e2 => by rw [← e2, hu] at e; cases e))
  constructor
  · intro hk u v hu hv
    have hu8 := inn u hu
    have hv8 := inn v hv
    have hru := root_le h (show u < 8 by omega)
    have hrv := root_le h (show v < 8 by omega)
    have hm := cnt_rm (fun u => decide (root xs u = u) && pl.testBit u) (root xs u) (by simp [root_root h (show u < 8 by omega), rin u hu]) n
    rw [if_pos (by omega)] at hm
    unfold rootsIn at hk
    have hz : (List.range n).countP (fun w => (decide (root xs w = w) && pl.testBit w) && decide (w ≠ root xs u)) = 0 := by omega
    rw [List.countP_eq_zero] at hz
    have := hz (root xs v) (List.mem_range.2 (by omega))
    rw [root_root h (by omega), rin v hv] at this
    simp at this
    exact this.symm
  · intro ho
    obtain ⟨u0, hu0⟩ : ∃ u0, pl.testBit u0 = true := Nat.exists_testBit_of_ne_zero h0
    have hu8 := inn u0 hu0
    have hr0 := root_le h (show u0 < 8 by omega)
    unfold rootsIn
    rw [List.countP_congr (q := fun u => decide (u = root xs u0)) fun u hu => ?_, cnt_is, if_pos (by omega)]
    simp only [Bool.and_eq_true, decide_eq_true_eq]
    constructor
    · rintro ⟨h1, h2⟩
      rw [← h1]; exact ho u u0 h2 hu0
    · rintro rfl
      exact ⟨root_root h (by omega), rin u0 hu0⟩
theorem tree_pl {g : Gm} (hg : g.ok) {b pl : Nat} (hb : b < 2 ^ g.ws.length) (hpl : pl < 2 ^ g.n) (h2 : 2 ≤ pop pl) : isTreeB g b pl = treeR g b pl := by
  have h8 := hg.n8
  have hl10 := hg.len
  have hG : Grp (keptL g b) := Grp.fold hg (mem b) _ Grp.alone fun y hy => (mem_lt hl10 hb hy).2
  have hac := acy_comps hg (mem b) (aloneSt 8) Grp.alone fun y hy => (mem_lt hl10 hb hy).2
  rw [show (mem b).foldl (joinF g) (aloneSt 8) = keptL g b from rfl, comps_alone h8, show (mem b).length = pop b from by simp [mem, pop]] at hac
  have hlab := labels hg b g.ws.length (Nat.le_refl _)
  rw [← kept_eq hg hb] at hlab
  have hp0 : pl ≠ 0 := fun e => by subst e; revert h2; decide
  have hp2 : 2 ^ g.ws.length ≤ 1024 := Nat.pow_le_pow_right (by omega) hl10
  have hpc := pop_cnt (show g.n ≤ 10 by omega) hpl
  have tch : ∀ u, u < 8 → (mem b).any (endOf g u) = false → root (keptL g b) u = u ∧ ∀ v, v < 8 → v ≠ u → root (keptL g b) v ≠ u := fun u hu hf =>
    lone hg hu (mem b) (aloneSt 8) Grp.alone (fun y hy => (mem_lt hl10 hb hy).2) (fun y hy => by
      cases h : endOf g u y with
      | false => rfl
      | true => rw [List.any_eq_false] at hf; exact absurd h (hf y hy)) (alone_root (by omega)) (fun v hv hne => by rw [alone_root hv]; exact hne)
  have hpb : ∀ u, (placesN g b).testBit u = (mem b).any (endOf g u) := fun u => by rw [placesN, places_bit, Nat.zero_testBit, Bool.false_or]
  -- the groups, counted
  have cnt : (∀ u, u < 8 → pl.testBit u = false → (mem b).any (endOf g u) = false) → comps (keptL g b) g.n + pop pl = rootsIn (keptL g b) pl g.n + g.n := fun H => by
    have e1 := countP_split (fun u => decide (root (keptL g b) u = u)) pl.testBit (List.range g.n)
    have e2 : (List.range g.n).countP (fun u => decide (root (keptL g b) u = u) && !pl.testBit u) = (List.range g.n).countP (fun u => true && !pl.testBit u) := List.countP_congr fun u hu => by
      have hu8 := List.mem_range.1 hu
      cases e : pl.testBit u with
      | true => simp
      | false => simp [(tch u (by omega) (H u (by omega) e)).1]
    have e3 := countP_split (fun _ => true) pl.testBit (List.range g.n)
    have e4 : (List.range g.n).countP (fun u => true && pl.testBit u) = pop pl := by rw [← hpc]; exact List.countP_congr fun u _ => by simp
    have e5 : (List.range g.n).countP (fun _ => true) = g.n := by simp
    unfold comps rootsIn
    rw [e1, e2]
    omega
  have one := fun (H : ∀ u, u < 8 → pl.testBit u = false → (mem b).any (endOf g u) = false) => rootsIn_one hG h8 hpl hp0 (fun u hu hf v hv hne => (tch u hu (H u hu hf)).2 v hv hne)
  have hsc : scanF (grpR g b g.ws.length) pl g.n 0 (-1) = true ↔ oneG (keptL g b) pl := by
    rw [scan_start _ _ g.n (fun i hi => by rw [hlab i hi]; omega) g.n 0 (by omega)]
    constructor
    · intro h u v hu hv
      have hu8 := lt_len hpl hu
      have hv8 := lt_len hpl hv
      have := h u v (by omega) hu8 (by omega) hv8 hu hv
      rw [hlab u hu8, hlab v hv8] at this
      omega
    · intro h i j _ h1 _ h2 h3 h4
      rw [hlab i h1, hlab j h2, h i j h3 h4]
  have wok : (∀ i, i < g.ws.length → wOk g b pl i = true) ↔ ∀ u, (mem b).any (endOf g u) = true → pl.testBit u = true := by
    constructor
    · intro h u hu
      obtain ⟨y, hy, he⟩ := List.any_eq_true.1 hu
      obtain ⟨i, rfl, hi⟩ := (mem_iff (by omega)).1 hy
      have hil := lt_len hb hi
      have := h i hil
      rw [wOk, (bit_test b i).2 hi] at this
      simp only [endOf, Int.toNat_natCast, Bool.or_eq_true, decide_eq_true_eq] at he
      obtain ⟨w1, hw1⟩ : ∃ w, w = (g.ws.getD i (0, 0)).1 := ⟨_, rfl⟩
      obtain ⟨w2, hw2⟩ : ∃ w, w = (g.ws.getD i (0, 0)).2 := ⟨_, rfl⟩
      rw [← hw1, ← hw2] at this he
      simp at this
      have b1 := bit_01 pl w1
      have b2 := bit_01 pl w2
      rcases he with rfl | rfl
      · exact (bit_test _ _).1 (by omega)
      · exact (bit_test _ _).1 (by omega)
    · intro h i hi
      rw [wOk]
      cases hbi : b.testBit i with
      | false =>
        have : ¬ bit b i = 1 := fun e => by rw [(bit_test b i).1 e] at hbi; cases hbi
        rw [decide_eq_false this]; rfl
      | true =>
        have hm : (i : Int) ∈ mem b := (mem_iff (by omega)).2 ⟨i, rfl, hbi⟩
        have k1 := h (g.ws.getD i (0, 0)).1 (List.any_eq_true.2 ⟨_, hm, by simp [endOf]⟩)
        have k2 := h (g.ws.getD i (0, 0)).2 (List.any_eq_true.2 ⟨_, hm, by simp [endOf]⟩)
        rw [← bit_test] at k1 k2
        rw [k1, k2]; simp
  rw [Bool.eq_iff_iff]
  simp only [isTreeB, treeR, Bool.and_eq_true, decide_eq_true_eq, hac.2, hsc, wok]
  constructor
  · rintro ⟨⟨h3, h4⟩, h5⟩
    have H : ∀ u, u < 8 → pl.testBit u = false → (mem b).any (endOf g u) = false := fun u _ hu => by rw [← hpb, h3]; exact hu
    have hc := cnt H
    exact ⟨⟨fun u hu => by rw [← hpb, h3] at hu; exact hu, (one H).1 (by omega)⟩, h4⟩
  · rintro ⟨⟨h3, h4⟩, h5⟩
    have H : ∀ u, u < 8 → pl.testBit u = false → (mem b).any (endOf g u) = false := fun u _ hu => by
      cases e : (mem b).any (endOf g u) with
      | false => rfl
      | true => rw [h3 u e] at hu; cases hu
    have hc := cnt H
    have hk := (one H).2 h4
    refine ⟨⟨Nat.eq_of_testBit_eq fun u => ?_, h5⟩, by omega⟩
    rw [hpb]
    cases e : pl.testBit u with
    | false =>
      cases e2 : (mem b).any (endOf g u) with
      | false => rfl
      | true => rw [h3 u e2] at e; cases e
    | true =>
      cases e2 : (mem b).any (endOf g u) with
      | true => rfl
      | false =>
        exfalso
        have hu8 := lt_len hpl e
        obtain ⟨t1, t2⟩ := tch u (by omega) e2
        obtain ⟨v, hv, hvu⟩ : ∃ v, pl.testBit v = true ∧ v ≠ u := by
          refine Classical.byContradiction fun hno => ?_
          have hle : (List.range g.n).countP pl.testBit ≤ (List.range g.n).countP (fun v => decide (v = u)) := List.countP_mono_left fun v _ hv => by
            refine decide_eq_true (Classical.byContradiction fun hne => hno ⟨v, hv, hne⟩)
          rw [cnt_is, if_pos hu8, hpc] at hle
          omega
        have hv8 := lt_len hpl hv
        exact t2 v (by omega) hvu (by rw [h4 v u hv e, t1])
end Go.Proofs.YtfphkpdobbffeaaDoor

/-
  Plain law: a cut tree is mended by a wire of the other one.
-/
namespace Go.Proofs.YtfphkpdobbffeaaDoor
open Go Go.AH
set_option maxRecDepth 100000
set_option maxHeartbeats 1000000

theorem or_bit (a w i : Nat) : (a ||| 2 ^ w).testBit i = (a.testBit i || decide (i = w)) := by
  rw [Nat.testBit_or, Nat.testBit_two_pow]
  congr 1
  exact decide_eq_decide.2 ⟨Eq.symm, Eq.symm⟩
theorem places_any {g : Gm} (b u : Nat) : (placesN g b).testBit u = (mem b).any (endOf g u) := by rw [placesN, places_bit, Nat.zero_testBit, Bool.false_or]
theorem places_ltn {g : Gm} (hg : g.ok) {a : Nat} (ha : a < 2 ^ g.ws.length) : placesN g a < 2 ^ g.n := by
  have hp2 : 2 ^ g.ws.length ≤ 1024 := Nat.pow_le_pow_right (by omega) hg.len
  refine Nat.lt_of_not_le fun h => ?_
  obtain ⟨i, hi, hb⟩ := Nat.exists_ge_and_testBit_of_ge_two_pow h
  rw [places_any] at hb
  obtain ⟨y, hy, he⟩ := List.any_eq_true.1 hb
  obtain ⟨j, rfl, hj⟩ := (mem_iff (by omega)).1 hy
  have := hg.ends j (lt_len ha hj)
  simp only [endOf, Int.toNat_natCast, Bool.or_eq_true, decide_eq_true_eq] at he
  omega
theorem pop_two {pl s t : Nat} (hpl : pl < 256) (hst : s ≠ t) (hs : pl.testBit s = true) (ht : pl.testBit t = true) : 2 ≤ pop pl := by
  have : ∀ pl, pl < 256 → ∀ s, s < 8 → ∀ t, t < 8 → s = t ∨ pl.testBit s = false ∨ pl.testBit t = false ∨ 2 ≤ pop pl := by decide +kernel
  rcases this pl hpl s (lt_len (k := 8) hpl hs) t (lt_len (k := 8) hpl ht) with h | h | h | h
  · exact absurd h hst
  · rw [hs] at h; cases h
  · rw [ht] at h; cases h
  · exact h
theorem ends_iff {pl s t : Nat} : pl &&& (2 ^ s ||| 2 ^ t) = 2 ^ s ||| 2 ^ t ↔ pl.testBit s = true ∧ pl.testBit t = true := by
  constructor
  · intro h
    have k : ∀ i, (2 ^ s ||| 2 ^ t).testBit i = true → pl.testBit i = true := fun i hi => by
      rw [← h, Nat.testBit_and, Bool.and_eq_true] at hi; exact hi.1
    exact ⟨k s (by simp [Nat.testBit_or, Nat.testBit_two_pow]), k t (by simp [Nat.testBit_or, Nat.testBit_two_pow])⟩
  · rintro ⟨h1, h2⟩
    refine Nat.eq_of_testBit_eq fun i => ?_
    rw [Nat.testBit_and, Nat.testBit_or, Nat.testBit_two_pow, Nat.testBit_two_pow]
    by_cases e1 : s = i
    · subst e1; simp [h1]
    · by_cases e2 : t = i
      · subst e2; simp [h2]
      · simp [e1, e2]
end Go.Proofs.YtfphkpdobbffeaaDoor

/-
  Wires that join places: what is joined, how many groups there are, forests. (Plain.)
-/
namespace Go.Wire

def lb {α : Type} (e : α → Nat × Nat) : List α → Nat → Nat
  | [], u => u
  | i :: l, u => if lb e l u = max (lb e l (e i).1) (lb e l (e i).2) then min (lb e l (e i).1) (lb e l (e i).2) else lb e l u
def Jn {α : Type} (e : α → Nat × Nat) (l : List α) (u v : Nat) : Prop := lb e l u = lb e l v
variable {α : Type} {e : α → Nat × Nat}
theorem lb_le : ∀ (l : List α) (u : Nat), lb e l u ≤ u
  | [], u => Nat.le_refl u
  | i :: l, u => by
    have h := lb_le l u
    rw [lb]
    split
    · omega
    · exact h
theorem lb_hit {i : α} {l : List α} {u : Nat} (h : lb e l u = max (lb e l (e i).1) (lb e l (e i).2)) : lb e (i :: l) u = min (lb e l (e i).1) (lb e l (e i).2) := by rw [lb, if_pos h]
theorem lb_mis {i : α} {l : List α} {u : Nat} (h : lb e l u ≠ max (lb e l (e i).1) (lb e l (e i).2)) : lb e (i :: l) u = lb e l u := by rw [lb, if_neg h]
theorem lb_lb : ∀ (l : List α) (u : Nat), lb e l (lb e l u) = lb e l u
  | [], u => rfl
  | i :: l, u => by
    have h := lb_lb l u
    have hm : lb e l (min (lb e l (e i).1) (lb e l (e i).2)) = min (lb e l (e i).1) (lb e l (e i).2) := by
      rcases Nat.le_total (lb e l (e i).1) (lb e l (e i).2) with k | k
      · rw [Nat.min_eq_left k]; exact lb_lb l _
      · rw [Nat.min_eq_right k]; exact lb_lb l _
    by_cases c : lb e l u = max (lb e l (e i).1) (lb e l (e i).2)
    · rw [lb_hit c]
      by_cases d : lb e l (min (lb e l (e i).1) (lb e l (e i).2)) = max (lb e l (e i).1) (lb e l (e i).2)
      · exact lb_hit d
      · rw [lb_mis d, hm]
    · rw [lb_mis c, lb_mis (by rw [h]; exact c), h]
theorem jn_cons {i : α} {l : List α} {u v : Nat} : Jn e (i :: l) u v ↔ Jn e l u v ∨ (Jn e l u (e i).1 ∧ Jn e l (e i).2 v) ∨ (Jn e l u (e i).2 ∧ Jn e l (e i).1 v) := by
  unfold Jn
  simp only [lb]
  generalize lb e l u = x
  generalize lb e l v = y
  generalize lb e l (e i).1 = A
  generalize lb e l (e i).2 = B
  split <;> split <;> omega
theorem Jn.refl (l : List α) (u : Nat) : Jn e l u u := rfl
theorem Jn.symm {l : List α} {u v : Nat} (h : Jn e l u v) : Jn e l v u := Eq.symm h
theorem Jn.trans {l : List α} {u v w : Nat} (h : Jn e l u v) (k : Jn e l v w) : Jn e l u w := Eq.trans h k
theorem jn_mem : ∀ {l : List α} {i : α}, i ∈ l → Jn e l (e i).1 (e i).2
  | j :: l, i, h => by
    rw [jn_cons]
    rcases List.mem_cons.1 h with rfl | h
    · exact .inr (.inl ⟨rfl, rfl⟩)
    · exact .inl (jn_mem h)
structure Eqv (R : Nat → Nat → Prop) : Prop where
  refl : ∀ u, R u u
  symm : ∀ {u v}, R u v → R v u
  trans : ∀ {u v w}, R u v → R v w → R u w
theorem Jn.eqv (l : List α) : Eqv (Jn e l) := ⟨fun _ => rfl, Eq.symm, Eq.trans⟩
theorem jn_least {R : Nat → Nat → Prop} (hR : Eqv R) : ∀ {l : List α} {u v : Nat}, (∀ i ∈ l, R (e i).1 (e i).2) → Jn e l u v → R u v
  | [], u, v, _, h => by have : u = v := h; subst this; exact hR.refl u
  | i :: l, u, v, hl, h => by
    have ih : ∀ {x y}, Jn e l x y → R x y := fun h => jn_least hR (fun j hj => hl j (List.mem_cons_of_mem _ hj)) h
    have hi := hl i (List.mem_cons_self ..)
    rcases jn_cons.1 h with h | ⟨h1, h2⟩ | ⟨h1, h2⟩
    · exact ih h
    · exact hR.trans (ih h1) (hR.trans hi (ih h2))
    · exact hR.trans (ih h1) (hR.trans (hR.symm hi) (ih h2))
theorem jn_mono {l l' : List α} {u v : Nat} (hs : ∀ i ∈ l, i ∈ l') (h : Jn e l u v) : Jn e l' u v := jn_least (Jn.eqv l') (fun _ hi => jn_mem (hs _ hi)) h
theorem jn_perm {l l' : List α} {u v : Nat} (hp : l.Perm l') : Jn e l u v ↔ Jn e l' u v := ⟨jn_mono fun _ h => hp.mem_iff.1 h, jn_mono fun _ h => hp.mem_iff.2 h⟩
theorem lb_congr {l l' : List α} (h : ∀ u v, Jn e l u v ↔ Jn e l' u v) (u : Nat) : lb e l u = lb e l' u := by
  have h1 : Jn e l' u (lb e l u) := (h _ _).1 (lb_lb l u).symm
  have h2 : Jn e l u (lb e l' u) := (h _ _).2 (lb_lb l' u).symm
  have h3 : lb e l' u ≤ lb e l u := by rw [show lb e l' u = lb e l' (lb e l u) from h1]; exact lb_le _ _
  have h4 : lb e l u ≤ lb e l' u := by rw [show lb e l u = lb e l (lb e l' u) from h2]; exact lb_le _ _
  omega
def cp {α : Type} (e : α → Nat × Nat) (n : Nat) (l : List α) : Nat := (List.range n).countP fun u => decide (lb e l u = u)
theorem cp_congr {n : Nat} {l l' : List α} (h : ∀ u v, Jn e l u v ↔ Jn e l' u v) : cp e n l = cp e n l' := by
  unfold cp
  refine List.countP_congr fun u _ => ?_
  rw [lb_congr h]
theorem cp_nil (n : Nat) : cp e n [] = n := by
  have : (List.range n).countP (fun u => decide (lb e [] u = u)) = (List.range n).length := List.countP_eq_length.2 fun u _ => decide_eq_true rfl
  rw [cp, this, List.length_range]
theorem cnt_rm (p : Nat → Bool) (M : Nat) (hp : p M = true) : ∀ n, (List.range n).countP (fun u => p u && decide (u ≠ M)) + (if M < n then 1 else 0) = (List.range n).countP p
  | 0 => rfl
  | n + 1 => by
    have ih := cnt_rm p M hp n
    simp only [List.range_succ, List.countP_append, List.countP_cons, List.countP_nil]
    by_cases e : n = M
    · subst e
      simp [hp] at ih ⊢
      omega
    · simp only [show (decide (n ≠ M)) = true by simp [e], Bool.and_true]
      rw [show (if M < n + 1 then 1 else 0) = (if M < n then 1 else 0) from by simp only [show (M < n + 1) ↔ M < n by omega]]
      omega
theorem cp_same {n : Nat} {i : α} {l : List α} (h : Jn e l (e i).1 (e i).2) : cp e n (i :: l) = cp e n l := by
  refine cp_congr fun u v => ⟨fun k => ?_, jn_mono fun j hj => List.mem_cons_of_mem _ hj⟩
  rcases jn_cons.1 k with k | ⟨k1, k2⟩ | ⟨k1, k2⟩
  · exact k
  · exact k1.trans (h.trans k2)
  · exact k1.trans (h.symm.trans k2)
theorem cp_less {n : Nat} {i : α} {l : List α} (h : ¬ Jn e l (e i).1 (e i).2) (ha : (e i).1 < n) (hb : (e i).2 < n) : cp e n (i :: l) + 1 = cp e n l := by
  have hA := lb_lb (e := e) l (e i).1
  have hB := lb_lb (e := e) l (e i).2
  have lA := lb_le (e := e) l (e i).1
  have lB := lb_le (e := e) l (e i).2
  have hne : lb e l (e i).1 ≠ lb e l (e i).2 := h
  have hM : lb e l (max (lb e l (e i).1) (lb e l (e i).2)) = max (lb e l (e i).1) (lb e l (e i).2) := by
    rcases Nat.le_total (lb e l (e i).1) (lb e l (e i).2) with k | k
    · rw [Nat.max_eq_right k]; exact hB
    · rw [Nat.max_eq_left k]; exact hA
  have hm : lb e l (min (lb e l (e i).1) (lb e l (e i).2)) = min (lb e l (e i).1) (lb e l (e i).2) := by
    rcases Nat.le_total (lb e l (e i).1) (lb e l (e i).2) with k | k
    · rw [Nat.min_eq_left k]; exact hA
    · rw [Nat.min_eq_right k]; exact hB
  have := cnt_rm (fun u => decide (lb e l u = u)) (max (lb e l (e i).1) (lb e l (e i).2)) (decide_eq_true hM) n
  rw [if_pos (by omega)] at this
  rw [cp, cp, ← this]
  congr 1
  refine List.countP_congr fun u _ => ?_
  rw [Bool.and_eq_true, decide_eq_true_eq, decide_eq_true_eq, decide_eq_true_eq]
  by_cases c : lb e l u = max (lb e l (e i).1) (lb e l (e i).2)
  · rw [lb_hit c]
    constructor
    · intro k; rw [← k, hm] at c; omega
    · rintro ⟨k1, k2⟩; omega
  · rw [lb_mis c]
    constructor
    · intro k; exact ⟨k, by omega⟩
    · exact fun k => k.1
theorem cp_pos {n : Nat} (hn : 0 < n) (l : List α) : 0 < cp e n l := by
  rw [cp, List.countP_pos_iff]
  exact ⟨0, List.mem_range.2 hn, decide_eq_true (by have := lb_le (e := e) l 0; omega)⟩
def In {α : Type} (e : α → Nat × Nat) (n : Nat) (l : List α) : Prop := ∀ i ∈ l, (e i).1 < n ∧ (e i).2 < n
theorem In.tail {n : Nat} {i : α} {l : List α} (h : In e n (i :: l)) : In e n l := fun j hj => h j (List.mem_cons_of_mem _ hj)
theorem In.sub {n : Nat} {l l' : List α} (h : In e n l) (hs : ∀ i ∈ l', i ∈ l) : In e n l' := fun j hj => h j (hs j hj)
theorem cp_ge {n : Nat} : ∀ {l : List α}, In e n l → n ≤ cp e n l + l.length
  | [], _ => by rw [cp_nil]; exact Nat.le_refl _
  | i :: l, h => by
    have ih := cp_ge h.tail
    have hi := h i (List.mem_cons_self ..)
    rw [List.length_cons]
    by_cases c : Jn e l (e i).1 (e i).2
    · rw [cp_same c]; omega
    · have := cp_less c hi.1 hi.2; omega
def Fo {α : Type} (e : α → Nat × Nat) (n : Nat) (l : List α) : Prop := In e n l ∧ cp e n l + l.length = n
theorem Fo.nil (n : Nat) : Fo e n [] := ⟨fun i hi => absurd hi List.not_mem_nil, by rw [cp_nil]; rfl⟩
theorem fo_cons {n : Nat} {i : α} {l : List α} (hi : (e i).1 < n ∧ (e i).2 < n) : Fo e n (i :: l) ↔ Fo e n l ∧ ¬ Jn e l (e i).1 (e i).2 := by
  constructor
  · rintro ⟨h1, h2⟩
    have := cp_ge h1.tail
    rw [List.length_cons] at h2
    by_cases c : Jn e l (e i).1 (e i).2
    · rw [cp_same c] at h2; omega
    · have h3 := cp_less c hi.1 hi.2
      exact ⟨⟨h1.tail, by omega⟩, c⟩
  · rintro ⟨⟨h1, h2⟩, c⟩
    have h3 := cp_less c hi.1 hi.2
    refine ⟨fun j hj => ?_, by rw [List.length_cons]; omega⟩
    rcases List.mem_cons.1 hj with rfl | hj
    · exact hi
    · exact h1 j hj
theorem Fo.perm {n : Nat} {l l' : List α} (hp : l.Perm l') (h : Fo e n l) : Fo e n l' := by
  refine ⟨h.1.sub fun i hi => hp.mem_iff.2 hi, ?_⟩
  rw [cp_congr (fun u v => (jn_perm hp.symm)), ← hp.length_eq]; exact h.2
theorem Fo.tail {n : Nat} {i : α} {l : List α} (h : Fo e n (i :: l)) : Fo e n l := ((fo_cons (h.1 i (List.mem_cons_self ..))).1 h).1
theorem Fo.head {n : Nat} {i : α} {l : List α} (h : Fo e n (i :: l)) : ¬ Jn e l (e i).1 (e i).2 := ((fo_cons (h.1 i (List.mem_cons_self ..))).1 h).2
theorem Fo.sub {n : Nat} {l l' : List α} (hs : l'.Sublist l) : Fo e n l → Fo e n l' := by
  induction hs with
  | slnil => exact id
  | cons a _ ih => exact fun h => ih h.tail
  | cons_cons a hs ih =>
    intro h
    exact (fo_cons (h.1 _ (List.mem_cons_self ..))).2 ⟨ih h.tail, fun k => h.head (jn_mono (fun j hj => hs.subset hj) k)⟩
theorem Fo.nodup {n : Nat} : ∀ {l : List α}, Fo e n l → l.Nodup
  | [], _ => List.nodup_nil
  | i :: l, h => List.nodup_cons.2 ⟨fun hi => h.head (jn_mem hi), Fo.nodup h.tail⟩
theorem Fo.len {n : Nat} {l : List α} (hn : 0 < n) (h : Fo e n l) : l.length + 1 ≤ n := by
  have := cp_pos (e := e) hn l
  have := h.2
  omega
theorem least_join [DecidableEq α] {x y : Nat} : ∀ (k : Nat) (l : List α), l.length ≤ k → Jn e l x y → ∃ M, M.Sublist l ∧ Jn e M x y ∧ ∀ f ∈ M, ¬ Jn e (M.erase f) x y
  | 0, l, hk, h => ⟨l, List.Sublist.refl l, h, fun f hf => by
      have : l = [] := List.length_eq_zero_iff.1 (by omega)
      rw [this] at hf
      exact absurd hf List.not_mem_nil⟩
  | k + 1, l, hk, h => by
    by_cases c : ∃ f ∈ l, Jn e (l.erase f) x y
    · obtain ⟨f, hf, hj⟩ := c
      obtain ⟨M, h1, h2, h3⟩ := least_join k (l.erase f) (by rw [List.length_erase_of_mem hf]; omega) hj
      exact ⟨M, h1.trans List.erase_sublist, h2, h3⟩
    · exact ⟨l, List.Sublist.refl l, h, fun f hf hj => c ⟨f, hf, hj⟩⟩
theorem Fo.spare [DecidableEq α] {n : Nat} {l M : List α} {x y : Nat} {f : α} (h : Fo e n l) (hM : M.Sublist l) (hf : f ∈ M) (h1 : Jn e M x y) (h2 : ¬ Jn e (M.erase f) x y) : ¬ Jn e (l.erase f) x y := by
  intro k
  have hfl := hM.subset hf
  have h0 : Fo e n (f :: l.erase f) := Fo.perm (List.perm_cons_erase hfl) h
  have hs : ∀ j ∈ M.erase f, j ∈ l.erase f := fun j hj => (hM.erase f).subset hj
  have h3 := (jn_perm (List.perm_cons_erase hf)).1 h1
  rcases jn_cons.1 h3 with h3 | ⟨h3, h4⟩ | ⟨h3, h4⟩
  · exact h2 h3
  · exact h0.head ((jn_mono hs h3).symm.trans (k.trans (jn_mono hs h4).symm))
  · exact h0.head ((jn_mono hs h4).trans (k.symm.trans (jn_mono hs h3)))
theorem Fo.turn [DecidableEq α] {n : Nat} {i f : α} {l : List α} (h : Fo e n l) (hi : (e i).1 < n ∧ (e i).2 < n) (hf : f ∈ l) (hn : ¬ Jn e (l.erase f) (e i).1 (e i).2) : Fo e n (i :: l.erase f) :=
  (fo_cons hi).2 ⟨h.sub List.erase_sublist, hn⟩
theorem len_le_of_sub [DecidableEq α] : ∀ {l l' : List α}, l.Nodup → (∀ i ∈ l, i ∈ l') → l.length ≤ l'.length
  | [], l', _, _ => Nat.zero_le _
  | i :: l, l', hn, hs => by
    have hi := hs i (List.mem_cons_self ..)
    have hn := List.nodup_cons.1 hn
    have := len_le_of_sub (l' := l'.erase i) hn.2 fun j hj => (List.mem_erase_of_ne (fun he : j = i => hn.1 (he ▸ hj))).2 (hs j (List.mem_cons_of_mem _ hj))
    rw [List.length_erase_of_mem hi] at this
    have := List.length_pos_of_mem hi
    rw [List.length_cons]; omega
end Go.Wire

/-
  Two trees on all places, or a way to divide the places that too few wires cross. (Plain.)
-/
namespace Go.Wire
variable {e : Nat → Nat × Nat} {n m : Nat}

structure Pk (e : Nat → Nat × Nat) (n m : Nat) (P : Bool → List Nat) : Prop where
  fo : ∀ b, Fo e n (P b)
  lt : ∀ b, ∀ i ∈ P b, i < m
  dj : ∀ b, ∀ i ∈ P b, i ∉ P (!b)
def szP (P : Bool → List Nat) : Nat := (P true).length + (P false).length
def upd (P : Bool → List Nat) (b : Bool) (l : List Nat) : Bool → List Nat := fun c => if c = b then l else P c
theorem upd_eq (P : Bool → List Nat) (b : Bool) (l : List Nat) : upd P b l b = l := if_pos rfl
theorem upd_ne (P : Bool → List Nat) (b : Bool) (l : List Nat) : upd P b l (!b) = P (!b) := by cases b <;> rfl
theorem szP_b (P : Bool → List Nat) (b : Bool) : szP P = (P b).length + (P (!b)).length := by
  cases b
  · exact Nat.add_comm _ _
  · rfl
structure Opt (e : Nat → Nat × Nat) (n m : Nat) (P : Bool → List Nat) : Prop extends Pk e n m P where
  most : ∀ Q, Pk e n m Q → szP Q ≤ szP P
theorem most_ex {α : Type} {p : α → Prop} {f : α → Nat} {B : Nat} (h : ∀ x, p x → f x ≤ B) (x : α) (hx : p x) : ∃ y, p y ∧ ∀ z, p z → f z ≤ f y := by
  have key : ∀ k x, p x → B - f x ≤ k → ∃ y, p y ∧ ∀ z, p z → f z ≤ f y := by
    intro k
    induction k with
    | zero => exact fun x hx hk => ⟨x, hx, fun z hz => by have := h z hz; have := h x hx; omega⟩
    | succ k ih =>
      intro x hx hk
      by_cases c : ∃ z, p z ∧ f x < f z
      · obtain ⟨z, hz, hlt⟩ := c
        have := h z hz
        exact ih z hz (by omega)
      · exact ⟨x, hx, fun z hz => Nat.le_of_not_lt fun hlt => c ⟨z, hz, hlt⟩⟩
  exact key _ x hx (Nat.le_refl _)
theorem opt_ex (e : Nat → Nat × Nat) (n m : Nat) : ∃ P, Opt e n m P := by
  obtain ⟨P, h1, h2⟩ := most_ex (p := Pk e n m) (f := szP) (B := n + n) (fun P h => by
    have h1 := (h.fo true).2
    have h2 := (h.fo false).2
    unfold szP; omega) (fun _ => []) ⟨fun _ => Fo.nil n, fun _ i hi => absurd hi List.not_mem_nil, fun _ i hi => absurd hi List.not_mem_nil⟩
  exact ⟨P, ⟨h1, h2⟩⟩
theorem Pk.put {P : Bool → List Nat} {b : Bool} {l : List Nat} (h : Pk e n m P) (hl : Fo e n l) (hm : ∀ i ∈ l, i < m) (hd : ∀ i ∈ l, i ∉ P (!b)) : Pk e n m (upd P b l) := by
  refine ⟨fun c => ?_, fun c i hi => ?_, fun c i hi => ?_⟩
  · by_cases k : c = b
    · subst k; rw [upd_eq]; exact hl
    · have k : c = !b := by revert k; cases c <;> cases b <;> simp
      subst k; rw [upd_ne]; exact h.fo _
  · by_cases k : c = b
    · subst k; rw [upd_eq] at hi; exact hm i hi
    · have k : c = !b := by revert k; cases c <;> cases b <;> simp
      subst k; rw [upd_ne] at hi; exact h.lt _ i hi
  · by_cases k : c = b
    · subst k; rw [upd_eq] at hi; rw [upd_ne]; exact hd i hi
    · have k : c = !b := by revert k; cases c <;> cases b <;> simp
      subst k; rw [upd_ne] at hi; rw [Bool.not_not, upd_eq]; exact fun hi2 => hd i hi2 hi
def turnP (P : Bool → List Nat) (b : Bool) (i f : Nat) : Bool → List Nat := upd P b (i :: (P b).erase f)
inductive Rc (e : Nat → Nat × Nat) (n m : Nat) (P : Bool → List Nat) : (Bool → List Nat) → Prop
  | base : Rc e n m P P
  | turn {Q : Bool → List Nat} {b : Bool} {i f : Nat} : Rc e n m P Q → i < m → (∀ c, i ∉ Q c) → f ∈ Q b → Fo e n (i :: (Q b).erase f) → Rc e n m P (turnP Q b i f)
def Ends (e : Nat → Nat × Nat) (n m : Nat) : Prop := ∀ i, i < m → (e i).1 < n ∧ (e i).2 < n
theorem Opt.turn {Q : Bool → List Nat} {b : Bool} {i f : Nat} (h : Opt e n m Q) (hi : i < m) (hn : ∀ c, i ∉ Q c) (hf : f ∈ Q b) (hfo : Fo e n (i :: (Q b).erase f)) : Opt e n m (turnP Q b i f) ∧ ∀ c, f ∉ turnP Q b i f c := by
  have hfi : f ≠ i := fun k => hn b (k ▸ hf)
  have hnd := (h.fo b).nodup
  refine ⟨⟨h.put hfo (fun j hj => ?_) (fun j hj => ?_), fun Z hZ => ?_⟩, fun c => ?_⟩
  · rcases List.mem_cons.1 hj with rfl | hj
    · exact hi
    · exact h.lt b j (List.mem_of_mem_erase hj)
  · rcases List.mem_cons.1 hj with rfl | hj
    · exact hn _
    · exact h.dj b j (List.mem_of_mem_erase hj)
  · refine Nat.le_trans (h.most Z hZ) ?_
    rw [szP_b Q b, szP_b (turnP Q b i f) b]
    unfold turnP
    rw [upd_eq, upd_ne, List.length_cons, List.length_erase_of_mem hf]
    have := List.length_pos_of_mem hf
    omega
  · unfold turnP
    by_cases k : c = b
    · subst k
      rw [upd_eq]
      intro hc
      rcases List.mem_cons.1 hc with hc | hc
      · exact hfi hc
      · exact (List.Nodup.not_mem_erase hnd) hc
    · have k : c = !b := by revert k; cases c <;> cases b <;> simp
      subst k; rw [upd_ne]; exact h.dj b f hf
theorem Rc.opt {P Q : Bool → List Nat} (hP : Opt e n m P) (h : Rc e n m P Q) : Opt e n m Q := by
  induction h with
  | base => exact hP
  | turn _ hi hn hf hfo ih => exact (ih.turn hi hn hf hfo).1
def Lo (e : Nat → Nat × Nat) (n m : Nat) (P : Bool → List Nat) (i : Nat) : Prop := ∃ Q, Rc e n m P Q ∧ i < m ∧ ∀ c, i ∉ Q c
theorem Opt.joined {Q : Bool → List Nat} (he : Ends e n m) (h : Opt e n m Q) {i : Nat} (hi : i < m) (hn : ∀ c, i ∉ Q c) (b : Bool) : Jn e (Q b) (e i).1 (e i).2 := by
  apply Classical.byContradiction
  intro k
  have hfo := (fo_cons (he i hi)).2 ⟨h.fo b, k⟩
  have h2 := h.most _ (h.toPk.put (b := b) hfo (fun j hj => by
    rcases List.mem_cons.1 hj with rfl | hj
    · exact hi
    · exact h.lt b j hj) (fun j hj => by
    rcases List.mem_cons.1 hj with rfl | hj
    · exact hn _
    · exact h.dj b j hj))
  rw [szP_b Q b, szP_b (upd Q b (i :: Q b)) b, upd_eq, upd_ne, List.length_cons] at h2
  omega
theorem loose_way {P Q : Bool → List Nat} (he : Ends e n m) (hP : Opt e n m P) (hQ : Rc e n m P Q) {i : Nat} (hi : i < m) (hn : ∀ c, i ∉ Q c) (b : Bool) : ∃ M : List Nat, (∀ f ∈ M, f ∈ Q b ∧ Lo e n m P f) ∧ Jn e M (e i).1 (e i).2 := by
  have hO := hQ.opt hP
  obtain ⟨M, h1, h2, h3⟩ := least_join _ (Q b) (Nat.le_refl _) (hO.joined he hi hn b)
  refine ⟨M, fun f hf => ⟨h1.subset hf, ?_⟩, h2⟩
  have hfo := (hO.fo b).turn (he i hi) (h1.subset hf) ((hO.fo b).spare h1 hf h2 (h3 f hf))
  exact ⟨_, .turn hQ hi hn (h1.subset hf) hfo, hO.lt b f (h1.subset hf), (hO.turn hi hn (h1.subset hf) hfo).2⟩
def Jl (e : Nat → Nat × Nat) (n m : Nat) (P Q : Bool → List Nat) (b : Bool) (u v : Nat) : Prop := ∃ M : List Nat, (∀ f ∈ M, f ∈ Q b ∧ Lo e n m P f) ∧ Jn e M u v
theorem Jl.eqv (e : Nat → Nat × Nat) (n m : Nat) (P Q : Bool → List Nat) (b : Bool) : Eqv (Jl e n m P Q b) where
  refl u := ⟨[], fun f hf => absurd hf List.not_mem_nil, rfl⟩
  symm := fun ⟨M, h1, h2⟩ => ⟨M, h1, h2.symm⟩
  trans := fun ⟨M, h1, h2⟩ ⟨N, k1, k2⟩ => ⟨M ++ N, fun f hf => (List.mem_append.1 hf).elim (h1 f) (k1 f), (jn_mono (fun _ hj => List.mem_append_left _ hj) h2).trans (jn_mono (fun _ hj => List.mem_append_right _ hj) k2)⟩
theorem Jl.one {P Q : Bool → List Nat} {b : Bool} {f : Nat} (h1 : f ∈ Q b) (h2 : Lo e n m P f) : Jl e n m P Q b (e f).1 (e f).2 := ⟨[f], fun g hg => by rw [List.mem_singleton.1 hg]; exact ⟨h1, h2⟩, jn_mem (List.mem_singleton.2 rfl)⟩
theorem Jl.turn {P Q : Bool → List Nat} {b : Bool} {i f : Nat} (he : Ends e n m) (hP : Opt e n m P) (hQ : Rc e n m P Q) (hi : i < m) (hn : ∀ c, i ∉ Q c) (hf : f ∈ Q b) (hfo : Fo e n (i :: (Q b).erase f)) (c : Bool) (u v : Nat) : Jl e n m P (turnP Q b i f) c u v ↔ Jl e n m P Q c u v := by
  have hO := hQ.opt hP
  have hR : Rc e n m P (turnP Q b i f) := .turn hQ hi hn hf hfo
  have hfn := (hO.turn hi hn hf hfo).2
  have hfm := hO.lt b f hf
  have hLi : Lo e n m P i := ⟨Q, hQ, hi, hn⟩
  by_cases k : c = b
  · subst k
    constructor
    · rintro ⟨M, h1, h2⟩
      refine jn_least (Jl.eqv e n m P Q c) (fun j hj => ?_) h2
      obtain ⟨h3, h4⟩ := h1 j hj
      unfold turnP at h3
      rw [upd_eq] at h3
      rcases List.mem_cons.1 h3 with rfl | h3
      · exact loose_way he hP hQ hi hn c
      · exact Jl.one (List.mem_of_mem_erase h3) h4
    · rintro ⟨M, h1, h2⟩
      refine jn_least (Jl.eqv e n m P (turnP Q c i f) c) (fun j hj => ?_) h2
      obtain ⟨h3, h4⟩ := h1 j hj
      by_cases hjf : j = f
      · subst hjf
        exact loose_way he hP hR hfm hfn c
      · refine Jl.one ?_ h4
        unfold turnP
        rw [upd_eq]
        exact List.mem_cons_of_mem _ ((List.mem_erase_of_ne hjf).2 h3)
  · have k : c = !b := by revert k; cases c <;> cases b <;> simp
    subst k
    unfold Jl turnP
    rw [upd_ne]
theorem Jl.same {P Q : Bool → List Nat} (he : Ends e n m) (hP : Opt e n m P) (hQ : Rc e n m P Q) : ∀ (c : Bool) (u v : Nat), Jl e n m P Q c u v ↔ Jl e n m P P c u v := by
  induction hQ with
  | base => exact fun c u v => Iff.rfl
  | turn hQ hi hn hf hfo ih => exact fun c u v => (Jl.turn he hP hQ hi hn hf hfo c u v).trans (ih c u v)
theorem Jl.lo {P : Bool → List Nat} (he : Ends e n m) (hP : Opt e n m P) {i : Nat} (h : Lo e n m P i) (c : Bool) : Jl e n m P P c (e i).1 (e i).2 := by
  obtain ⟨Q, hQ, hi, hn⟩ := h
  exact (Jl.same he hP hQ c _ _).1 (loose_way he hP hQ hi hn c)
theorem loose_list {P : Bool → List Nat} (he : Ends e n m) (hP : Opt e n m P) : ∃ K : Bool → List Nat, (∀ b, (K b).Sublist (P b)) ∧ (∀ b, ∀ i ∈ K b, Lo e n m P i) ∧ (∀ i, Lo e n m P i → ∀ b, Jn e (K b) (e i).1 (e i).2) ∧ ∀ u v, Jn e (K true) u v ↔ Jn e (K false) u v := by
  obtain ⟨d, hd⟩ : ∃ d : Nat → Bool, ∀ i, d i = true ↔ Lo e n m P i := ⟨fun i => @decide _ (Classical.propDecidable (Lo e n m P i)), fun i => by simp⟩
  refine ⟨fun b => (P b).filter d, fun b => List.filter_sublist, fun b i hi => (hd i).1 (List.mem_filter.1 hi).2, ?_, ?_⟩
  · intro i hi b
    obtain ⟨M, h1, h2⟩ := Jl.lo he hP hi b
    exact jn_mono (fun j hj => List.mem_filter.2 ⟨(h1 j hj).1, (hd j).2 (h1 j hj).2⟩) h2
  · have key : ∀ b c : Bool, ∀ u v, Jn e ((P b).filter d) u v → Jn e ((P c).filter d) u v := fun b c u v h => by
      refine jn_least (Jn.eqv _) (fun i hi => ?_) h
      obtain ⟨M, h1, h2⟩ := Jl.lo he hP ((hd i).1 (List.mem_filter.1 hi).2) c
      exact jn_mono (fun j hj => List.mem_filter.2 ⟨(h1 j hj).1, (hd j).2 (h1 j hj).2⟩) h2
    exact fun u v => ⟨key true false u v, key false true u v⟩
def crs (e : Nat → Nat × Nat) (m : Nat) (q : Nat → Nat) : Nat := (List.range m).countP fun i => decide (q (e i).1 ≠ q (e i).2)
theorem cross_part {K l : List Nat} {q : Nat → Nat} (hl : Fo e n l) (hs : ∀ i ∈ K, i ∈ l) (hq : ∀ u v, Jn e K u v ↔ q u = q v) : (l.filter fun i => decide (q (e i).1 ≠ q (e i).2)).length + n ≤ l.length + cp e n K := by
  have h1 : (l.filter fun i => decide (q (e i).1 ≠ q (e i).2)).length + (l.filter fun i => decide (q (e i).1 = q (e i).2)).length = l.length := by
    have := List.length_eq_countP_add_countP (l := l) (fun i => decide (q (e i).1 ≠ q (e i).2))
    rw [List.countP_eq_length_filter, List.countP_eq_length_filter] at this
    rw [this]
    congr 2
    refine List.filter_congr fun i _ => ?_
    simp
  have h2 := cp_ge (n := n) (hl.1.sub (l' := l.filter fun i => decide (q (e i).1 = q (e i).2)) fun i hi => (List.mem_filter.1 hi).1)
  have h3 : cp e n (l.filter fun i => decide (q (e i).1 = q (e i).2)) = cp e n K := by
    refine cp_congr fun u v => ⟨fun h => ?_, fun h => ?_⟩
    · refine jn_least (Jn.eqv K) (fun i hi => ?_) h
      exact (hq _ _).2 (of_decide_eq_true (List.mem_filter.1 hi).2)
    · refine jn_mono (fun i hi => List.mem_filter.2 ⟨hs i hi, decide_eq_true ?_⟩) h
      exact (hq _ _).1 (jn_mem hi)
  omega
theorem trees_or (he : Ends e n m) (hn : 0 < n) : (∃ P, Pk e n m P ∧ ∀ b, cp e n (P b) = 1) ∨ ∃ K : List Nat, (∀ i ∈ K, i < m) ∧ crs e m (lb e K) + 2 < 2 * cp e n K := by
  obtain ⟨P, hP⟩ := opt_ex e n m
  by_cases c : ∀ b, cp e n (P b) = 1
  · exact .inl ⟨P, hP.toPk, c⟩
  · refine .inr ?_
    obtain ⟨K, k1, k2, k3, k4⟩ := loose_list he hP
    refine ⟨K true, fun i hi => hP.lt true i ((k1 true).subset hi), ?_⟩
    have hq : ∀ b u v, Jn e (K b) u v ↔ lb e (K true) u = lb e (K true) v := fun b u v => by
      cases b
      · exact (k4 u v).symm
      · exact Iff.rfl
    have c1 := cross_part (hP.fo true) (fun i hi => (k1 true).subset hi) (hq true)
    have c2 := cross_part (hP.fo false) (fun i hi => (k1 false).subset hi) (hq false)
    have c3 : cp e n (K false) = cp e n (K true) := cp_congr fun u v => (k4 u v).symm
    have hle : crs e m (lb e (K true)) ≤ ((P true).filter fun i => decide (lb e (K true) (e i).1 ≠ lb e (K true) (e i).2)).length + ((P false).filter fun i => decide (lb e (K true) (e i).1 ≠ lb e (K true) (e i).2)).length := by
      rw [crs, List.countP_eq_length_filter, ← List.length_append]
      refine len_le_of_sub (List.Nodup.sublist List.filter_sublist List.nodup_range) fun i hi => ?_
      obtain ⟨h1, h2⟩ := List.mem_filter.1 hi
      have h1 := List.mem_range.1 h1
      have hnot : ¬ ∀ b, i ∉ P b := fun hno => of_decide_eq_true h2 (k3 i ⟨P, .base, h1, hno⟩ true)
      by_cases d : i ∈ P true
      · exact List.mem_append_left _ (List.mem_filter.2 ⟨d, h2⟩)
      · refine List.mem_append_right _ (List.mem_filter.2 ⟨?_, h2⟩)
        apply Classical.byContradiction
        intro d2
        exact hnot fun b => by cases b <;> assumption
    have f1 := (hP.fo true).2
    have f2 := (hP.fo false).2
    have p1 := cp_pos (e := e) hn (P true)
    have p2 := cp_pos (e := e) hn (P false)
    have hs : cp e n (P true) + cp e n (P false) ≠ 2 := fun hs => c fun b => by cases b <;> omega
    omega
theorem tree_cross {l : List Nat} {q : Nat → Nat} {k : Nat} (hl : Fo e n l) (hc : cp e n l = 1) (hk : ∀ x, x < k → ∃ u, u < n ∧ q u = x) : k ≤ (l.filter fun i => decide (q (e i).1 ≠ q (e i).2)).length + 1 := by
  obtain ⟨N, hN⟩ : ∃ N, N = l.filter fun i => decide (q (e i).1 = q (e i).2) := ⟨_, rfl⟩
  obtain ⟨X, hX⟩ : ∃ X, X = l.filter fun i => decide (q (e i).1 ≠ q (e i).2) := ⟨_, rfl⟩
  have hlen : X.length + N.length = l.length := by
    have := List.length_eq_countP_add_countP (l := l) (fun i => decide (q (e i).1 ≠ q (e i).2))
    rw [List.countP_eq_length_filter, List.countP_eq_length_filter] at this
    rw [this, hX, hN]
    congr 2
    refine List.filter_congr fun i _ => ?_
    simp
  have hNf : Fo e n N := hl.sub (hN ▸ List.filter_sublist)
  have hNq : ∀ u v, Jn e N u v → q u = q v := fun u v h => jn_least (R := fun u v => q u = q v) ⟨fun _ => rfl, Eq.symm, Eq.trans⟩ (fun i hi => by
    rw [hN] at hi
    exact of_decide_eq_true (List.mem_filter.1 hi).2) h
  have hcp : k ≤ cp e n N := by
    have h1 : (List.range k).length ≤ (((List.range n).filter fun u => decide (lb e N u = u)).map q).length := len_le_of_sub List.nodup_range fun x hx => by
      obtain ⟨u, hu, rfl⟩ := hk x (List.mem_range.1 hx)
      refine List.mem_map.2 ⟨lb e N u, List.mem_filter.2 ⟨List.mem_range.2 (Nat.lt_of_le_of_lt (lb_le N u) hu), decide_eq_true (lb_lb N u)⟩, (hNq _ _ (lb_lb N u))⟩
    rw [List.length_range, List.length_map, ← List.countP_eq_length_filter] at h1
    exact h1
  have h1 := hNf.2
  have h2 := hl.2
  rw [← hX]
  omega
theorem no_barrier {P : Bool → List Nat} (hP : Pk e n m P) (hc : ∀ b, cp e n (P b) = 1) {q : Nat → Nat} {k : Nat} (hk : ∀ x, x < k → ∃ u, u < n ∧ q u = x) : 2 * k ≤ crs e m q + 2 := by
  have h1 := tree_cross (hP.fo true) (hc true) hk
  have h2 := tree_cross (hP.fo false) (hc false) hk
  have h3 : ((P true).filter fun i => decide (q (e i).1 ≠ q (e i).2)).length + ((P false).filter fun i => decide (q (e i).1 ≠ q (e i).2)).length ≤ crs e m q := by
    rw [crs, List.countP_eq_length_filter, ← List.length_append]
    refine len_le_of_sub (List.nodup_append.2 ⟨List.Nodup.sublist List.filter_sublist (hP.fo true).nodup, List.Nodup.sublist List.filter_sublist (hP.fo false).nodup, fun i hi j hj hij => ?_⟩) fun i hi => ?_
    · subst hij
      exact hP.dj true i (List.mem_filter.1 hi).1 (List.mem_filter.1 hj).1
    · rcases List.mem_append.1 hi with hi | hi
      · have := List.mem_filter.1 hi
        exact List.mem_filter.2 ⟨List.mem_range.2 (hP.lt true i this.1), this.2⟩
      · have := List.mem_filter.1 hi
        exact List.mem_filter.2 ⟨List.mem_range.2 (hP.lt false i this.1), this.2⟩
  omega
end Go.Wire

/-
  The switching game: more never harms; two trees win; who wins moving second has two trees. (Plain.)
-/
namespace Go.Wire
variable {e : Nat → Nat × Nat} {n m s t : Nat}

def Sw (e : Nat → Nat × Nat) (s t : Nat) : Nat → List Nat → List Nat → Bool → Prop
  | 0, _, K, _ => Jn e K s t
  | n + 1, F, K, true => ∀ i ∈ F, Sw e s t n (F.erase i) K false
  | n + 1, F, K, false => ∃ i ∈ F, Sw e s t n (F.erase i) (i :: K) true
theorem Sw.kept : ∀ {n : Nat} {F K K' : List Nat} {c : Bool}, (∀ i ∈ K, i ∈ K') → Sw e s t n F K c → Sw e s t n F K' c
  | 0, F, K, K', c, hs, h => jn_mono hs h
  | n + 1, F, K, K', true, hs, h => fun i hi => Sw.kept hs (h i hi)
  | n + 1, F, K, K', false, hs, ⟨i, hi, h⟩ => ⟨i, hi, Sw.kept (fun j hj => by
      rcases List.mem_cons.1 hj with rfl | hj
      · exact List.mem_cons_self ..
      · exact List.mem_cons_of_mem _ (hs j hj)) h⟩
theorem Sw.swap {n : Nat} {F K : List Nat} {i j : Nat} {c : Bool} (h : Sw e s t n F (i :: j :: K) c) : Sw e s t n F (j :: i :: K) c := Sw.kept (fun x hx => by
  simp only [List.mem_cons] at hx ⊢
  rcases hx with h | h | h
  · exact .inr (.inl h)
  · exact .inl h
  · exact .inr (.inr h)) h
structure More (e : Nat → Nat × Nat) (s t n : Nat) : Prop where
  to : ∀ {F K : List Nat}, F.length = n → Sw e s t n F K true → Sw e s t n F K false
  keep : ∀ {F K : List Nat} {w : Nat} {c : Bool}, F.length = n + 1 → w ∈ F → Sw e s t (n + 1) F K c → Sw e s t n (F.erase w) (w :: K) c
  cut : ∀ {F K : List Nat} {w : Nat} {c : Bool}, F.length = n + 1 → w ∈ F → Sw e s t n (F.erase w) K c → Sw e s t (n + 1) F K c
theorem one_mem {F : List Nat} {w i : Nat} (h : F.length = 1) (hw : w ∈ F) (hi : i ∈ F) : i = w := by
  obtain ⟨x, rfl⟩ := List.length_eq_one_iff.1 h
  rw [List.mem_singleton.1 hw, List.mem_singleton.1 hi]
theorem erase_in {F : List Nat} {w i : Nat} (hw : w ∈ F) (hi : i ∈ F.erase w) : w ∈ F.erase i := by
  by_cases h : w = i
  · subst h; exact hi
  · exact (List.mem_erase_of_ne h).2 hw
theorem Sw.more (e : Nat → Nat × Nat) (s t : Nat) : ∀ n, More e s t n
  | 0 => by
    have to : ∀ {F K : List Nat}, F.length = 0 → Sw e s t 0 F K true → Sw e s t 0 F K false := fun _ h => h
    refine ⟨to, fun {F K w c} hl hw h => ?_, fun {F K w c} hl hw h => ?_⟩
    · cases c
      · obtain ⟨i, hi, h⟩ := h
        obtain rfl := one_mem hl hw hi
        exact h
      · exact jn_mono (fun j hj => List.mem_cons_of_mem _ hj) (h w hw)
    · cases c
      · exact ⟨w, hw, jn_mono (fun j hj => List.mem_cons_of_mem _ hj) h⟩
      · intro i hi
        exact h
  | n + 1 => by
    have ih := Sw.more e s t n
    have to : ∀ {F K : List Nat}, F.length = n + 1 → Sw e s t (n + 1) F K true → Sw e s t (n + 1) F K false := fun {F K} hl h => by
      cases F with
      | nil => cases hl
      | cons i F => exact ⟨i, List.mem_cons_self .., ih.keep hl (List.mem_cons_self ..) h⟩
    refine ⟨to, fun {F K w c} hl hw h => ?_, fun {F K w c} hl hw h => ?_⟩
    · have hle : (F.erase w).length = n + 1 := by rw [List.length_erase_of_mem hw, hl]; rfl
      cases c
      · obtain ⟨i, hi, h⟩ := h
        by_cases k : i = w
        · subst k; exact to hle h
        · have hiw : i ∈ F.erase w := (List.mem_erase_of_ne k).2 hi
          have hle2 : (F.erase i).length = n + 1 := by rw [List.length_erase_of_mem hi, hl]; rfl
          refine ⟨i, hiw, ?_⟩
          rw [List.erase_comm]
          exact Sw.swap (ih.keep hle2 (erase_in hw hiw) h)
      · intro i hi
        have hiF := List.mem_of_mem_erase hi
        have hle2 : (F.erase i).length = n + 1 := by rw [List.length_erase_of_mem hiF, hl]; rfl
        rw [List.erase_comm]
        exact ih.keep hle2 (erase_in hw hi) (h i hiF)
    · have hle : (F.erase w).length = n + 1 := by rw [List.length_erase_of_mem hw, hl]; rfl
      cases c
      · obtain ⟨i, hi, h⟩ := h
        have hiF := List.mem_of_mem_erase hi
        have hle2 : (F.erase i).length = n + 1 := by rw [List.length_erase_of_mem hiF, hl]; rfl
        refine ⟨i, hiF, ?_⟩
        rw [List.erase_comm] at h
        exact ih.cut hle2 (erase_in hw hi) h
      · intro i hi
        have hle2 : (F.erase i).length = n + 1 := by rw [List.length_erase_of_mem hi, hl]; rfl
        by_cases k : i = w
        · subst k; exact to hle h
        · have hiw : i ∈ F.erase w := (List.mem_erase_of_ne k).2 hi
          have h := h i hiw
          rw [List.erase_comm] at h
          exact ih.cut hle2 (erase_in hw hiw) h
theorem exch {f b : Nat} {l : List Nat} (h : Jn e (f :: l) (e b).1 (e b).2) (hn : ¬ Jn e l (e b).1 (e b).2) : Jn e (b :: l) (e f).1 (e f).2 := by
  have up : ∀ {x y}, Jn e l x y → Jn e (b :: l) x y := fun h => jn_mono (fun j hj => List.mem_cons_of_mem _ hj) h
  have hb : Jn e (b :: l) (e b).1 (e b).2 := jn_mem (List.mem_cons_self ..)
  rcases jn_cons.1 h with h | ⟨h1, h2⟩ | ⟨h1, h2⟩
  · exact absurd h hn
  · exact (up h1).symm.trans (hb.trans (up h2).symm)
  · exact (up h2).trans (hb.symm.trans (up h1))
structure SI (e : Nat → Nat × Nat) (X : Nat → Prop) (F K A B : List Nat) : Prop where
  a : ∀ i ∈ A, i ∈ F
  b : ∀ i ∈ B, i ∈ F
  dj : ∀ i ∈ A, i ∉ B
  ae : ∀ i ∈ A, X (e i).1 ∧ X (e i).2
  be : ∀ i ∈ B, X (e i).1 ∧ X (e i).2
  aj : ∀ {u v}, X u → X v → Jn e (K ++ A) u v
  bj : ∀ {u v}, X u → X v → Jn e (K ++ B) u v
theorem SI.swap {X : Nat → Prop} {F K A B : List Nat} (h : SI e X F K A B) : SI e X F K B A := ⟨h.b, h.a, fun i hb ha => h.dj i ha hb, h.be, h.ae, h.bj, h.aj⟩
theorem SI.pass {X : Nat → Prop} {F K A B : List Nat} (h : SI e X F K A B) {b : Nat} : SI e X (F.erase b) (b :: K) (A.filter fun j => decide (j ≠ b)) (B.filter fun j => decide (j ≠ b)) := by
  have key : ∀ {C : List Nat} {u v : Nat}, Jn e (K ++ C) u v → Jn e ((b :: K) ++ C.filter fun j => decide (j ≠ b)) u v := fun {C u v} hj => jn_mono (fun j hj => by
    by_cases k : j = b
    · subst k; exact List.mem_append_left _ (List.mem_cons_self ..)
    · rcases List.mem_append.1 hj with hj | hj
      · exact List.mem_append_left _ (List.mem_cons_of_mem _ hj)
      · exact List.mem_append_right _ (List.mem_filter.2 ⟨hj, decide_eq_true k⟩)) hj
  exact ⟨fun i hi => (List.mem_erase_of_ne (of_decide_eq_true (List.mem_filter.1 hi).2)).2 (h.a i (List.mem_filter.1 hi).1), fun i hi => (List.mem_erase_of_ne (of_decide_eq_true (List.mem_filter.1 hi).2)).2 (h.b i (List.mem_filter.1 hi).1), fun i hi hb => h.dj i (List.mem_filter.1 hi).1 (List.mem_filter.1 hb).1, fun i hi => h.ae i (List.mem_filter.1 hi).1, fun i hi => h.be i (List.mem_filter.1 hi).1, fun hu hv => key (h.aj hu hv), fun hu hv => key (h.bj hu hv)⟩
theorem SI.reply {X : Nat → Prop} {F K A B : List Nat} (h : SI e X F K A B) {c : Nat} (hc : c ∈ A) (hn : ¬ Jn e (K ++ A.filter fun j => decide (j ≠ c)) (e c).1 (e c).2) : ∃ b ∈ B, b ≠ c ∧ SI e X ((F.erase c).erase b) (b :: K) (A.filter fun j => decide (j ≠ c)) (B.filter fun j => decide (j ≠ b)) := by
  obtain ⟨xc1, xc2⟩ := h.ae c hc
  obtain ⟨A', hA'⟩ : ∃ A', A' = A.filter fun j => decide (j ≠ c) := ⟨_, rfl⟩
  rw [← hA'] at hn ⊢
  have hex : ∃ b ∈ B, ¬ Jn e (K ++ A') (e b).1 (e b).2 := by
    apply Classical.byContradiction
    intro hno
    refine hn (jn_least (Jn.eqv _) (fun i hi => ?_) (h.bj xc1 xc2))
    rcases List.mem_append.1 hi with hi | hi
    · exact jn_mem (List.mem_append_left _ hi)
    · exact Classical.byContradiction fun k => hno ⟨i, hi, k⟩
  obtain ⟨b, hb, hbn⟩ := hex
  have hbc : b ≠ c := fun k => h.dj c hc (k ▸ hb)
  have hcA : ∀ {u v}, Jn e (K ++ A) u v → Jn e (c :: (K ++ A')) u v := fun hj => jn_mono (fun j hj => by
    by_cases k : j = c
    · exact k ▸ List.mem_cons_self ..
    · refine List.mem_cons_of_mem _ ?_
      rcases List.mem_append.1 hj with hj | hj
      · exact List.mem_append_left _ hj
      · exact List.mem_append_right _ (hA' ▸ List.mem_filter.2 ⟨hj, decide_eq_true k⟩)) hj
  obtain ⟨xb1, xb2⟩ := h.be b hb
  have hx := exch (hcA (h.aj xb1 xb2)) hbn
  refine ⟨b, hb, hbc, fun i hi => ?_, fun i hi => ?_, fun i hi hi2 => ?_, fun i hi => ?_, fun i hi => h.be i (List.mem_filter.1 hi).1, fun hu hv => ?_, fun hu hv => ?_⟩
  · rw [hA'] at hi
    obtain ⟨h1, h2⟩ := List.mem_filter.1 hi
    exact (List.mem_erase_of_ne (fun k : i = b => h.dj i h1 (k ▸ hb))).2 ((List.mem_erase_of_ne (of_decide_eq_true h2)).2 (h.a i h1))
  · obtain ⟨h1, h2⟩ := List.mem_filter.1 hi
    exact (List.mem_erase_of_ne (of_decide_eq_true h2)).2 ((List.mem_erase_of_ne (fun k : i = c => h.dj c hc (k ▸ h1))).2 (h.b i h1))
  · rw [hA'] at hi
    exact h.dj i (List.mem_filter.1 hi).1 (List.mem_filter.1 hi2).1
  · rw [hA'] at hi
    exact h.ae i (List.mem_filter.1 hi).1
  · refine jn_least (Jn.eqv _) (fun i hi => ?_) (hcA (h.aj hu hv))
    rcases List.mem_cons.1 hi with rfl | hi
    · exact jn_mono (fun j hj => hj) hx
    · exact jn_mem (List.mem_cons_of_mem _ hi)
  · refine jn_mono (fun j hj => ?_) (h.bj hu hv)
    by_cases k : j = b
    · exact k ▸ List.mem_append_left _ (List.mem_cons_self ..)
    · rcases List.mem_append.1 hj with hj | hj
      · exact List.mem_append_left _ (List.mem_cons_of_mem _ hj)
      · exact List.mem_append_right _ (List.mem_filter.2 ⟨hj, decide_eq_true k⟩)
theorem SI.cutA {X : Nat → Prop} {F K A B : List Nat} (h : SI e X F K A B) {c : Nat} (hc : c ∈ A) (hj : Jn e (K ++ A.filter fun j => decide (j ≠ c)) (e c).1 (e c).2) : SI e X (F.erase c) K (A.filter fun j => decide (j ≠ c)) B := by
  refine ⟨fun i hi => ?_, fun i hi => (List.mem_erase_of_ne (fun k : i = c => h.dj c hc (k ▸ hi))).2 (h.b i hi), fun i hi => h.dj i (List.mem_filter.1 hi).1, fun i hi => h.ae i (List.mem_filter.1 hi).1, h.be, fun hu hv => ?_, h.bj⟩
  · obtain ⟨h1, h2⟩ := List.mem_filter.1 hi
    exact (List.mem_erase_of_ne (of_decide_eq_true h2)).2 (h.a i h1)
  · refine jn_least (Jn.eqv _) (fun i hi => ?_) (h.aj hu hv)
    by_cases k : i = c
    · exact k ▸ hj
    · rcases List.mem_append.1 hi with hi | hi
      · exact jn_mem (List.mem_append_left _ hi)
      · exact jn_mem (List.mem_append_right _ (List.mem_filter.2 ⟨hi, decide_eq_true k⟩))
theorem SI.cutN {X : Nat → Prop} {F K A B : List Nat} (h : SI e X F K A B) {c : Nat} (ha : c ∉ A) (hb : c ∉ B) : SI e X (F.erase c) K A B :=
  ⟨fun i hi => (List.mem_erase_of_ne (fun k : i = c => ha (k ▸ hi))).2 (h.a i hi), fun i hi => (List.mem_erase_of_ne (fun k : i = c => hb (k ▸ hi))).2 (h.b i hi), h.dj, h.ae, h.be, h.aj, h.bj⟩
theorem SI.joined {X : Nat → Prop} {K A B : List Nat} (h : SI e X [] K A B) {u v : Nat} (hu : X u) (hv : X v) : Jn e K u v :=
  jn_mono (fun i hi => by
    rcases List.mem_append.1 hi with hi | hi
    · exact hi
    · exact absurd (h.a i hi) List.not_mem_nil) (h.aj hu hv)
theorem SI.wins {X : Nat → Prop} (hs : X s) (ht : X t) : ∀ (k n : Nat) {F K A B : List Nat}, n ≤ k → F.length = n → SI e X F K A B → Sw e s t n F K true
  | k, 0, F, K, A, B, _, hl, h => by
    obtain rfl := List.length_eq_zero_iff.1 hl
    exact h.joined hs ht
  | 0, n + 1, F, K, A, B, hk, hl, h => by omega
  | k + 1, n + 1, F, K, A, B, hk, hl, h => by
    intro c hc
    have hlc : (F.erase c).length = n := by rw [List.length_erase_of_mem hc, hl]; rfl
    cases n with
    | zero =>
      show Jn e K s t
      have h0 : F = [c] := by
        obtain ⟨x, rfl⟩ := List.length_eq_one_iff.1 hl
        rw [List.mem_singleton.1 hc]
      subst h0
      by_cases hca : c ∈ A
      · refine jn_mono (fun i hi => ?_) (h.bj hs ht)
        rcases List.mem_append.1 hi with hi | hi
        · exact hi
        · have := List.mem_singleton.1 (h.b i hi)
          exact absurd (this ▸ hi) (h.dj c hca)
      · refine jn_mono (fun i hi => ?_) (h.aj hs ht)
        rcases List.mem_append.1 hi with hi | hi
        · exact hi
        · have := List.mem_singleton.1 (h.a i hi)
          exact absurd (this ▸ hi) hca
    | succ n =>
      have go : ∀ {A B : List Nat}, SI e X (F.erase c) K A B → Sw e s t (n + 1) (F.erase c) K false := fun {A B} h2 => by
        cases hF : F.erase c with
        | nil => rw [hF] at hlc; cases hlc
        | cons b G =>
          rw [hF] at h2
          refine ⟨b, List.mem_cons_self .., SI.wins hs ht k n (by omega) ?_ (h2.pass (b := b))⟩
          rw [List.length_erase_of_mem (List.mem_cons_self ..), ← hF, hlc]; rfl
      have two : ∀ {A B : List Nat}, SI e X F K A B → c ∈ A → Sw e s t (n + 1) (F.erase c) K false := fun {A B} h2 hca => by
        by_cases hj : Jn e (K ++ A.filter fun j => decide (j ≠ c)) (e c).1 (e c).2
        · exact go (h2.cutA hca hj)
        · obtain ⟨b, hb, hbc, h3⟩ := h2.reply hca hj
          have hbF : b ∈ F.erase c := (List.mem_erase_of_ne hbc).2 (h2.b b hb)
          exact ⟨b, hbF, SI.wins hs ht k n (by omega) (by rw [List.length_erase_of_mem hbF, hlc]; rfl) h3⟩
      by_cases hca : c ∈ A
      · exact two h hca
      · by_cases hcb : c ∈ B
        · exact two h.swap hcb
        · exact go (h.cutN hca hcb)
end Go.Wire

/-
  Lehman's theorem: who wins moving second has two trees. (Plain.)
-/
namespace Go.Wire
variable {e : Nat → Nat × Nat} {n m s t z : Nat}

structure CS (e : Nat → Nat × Nat) (n z : Nat) (F K A B L : List Nat) : Prop where
  k : ∀ i ∈ K, Jn e L (e i).1 (e i).2
  f : ∀ i ∈ F, i ∈ A ∨ i ∈ B ∨ Jn e L (e i).1 (e i).2
  a : Fo e n (z :: (A ++ L))
  b : Fo e n (z :: (B ++ L))
structure CC (e : Nat → Nat × Nat) (n z : Nat) (F K A B L : List Nat) : Prop where
  k : ∀ i ∈ K, Jn e L (e i).1 (e i).2
  f : ∀ i ∈ F, i ∈ A ∨ i ∈ B ∨ Jn e L (e i).1 (e i).2
  a : Fo e n (z :: (A ++ L))
  b : Fo e n (z :: (B ++ L)) ∨ ∃ b ∈ B, Fo e n (z :: (B.erase b ++ L))
theorem CS.swap {F K A B L : List Nat} (h : CS e n z F K A B L) : CS e n z F K B A L := ⟨h.k, fun i hi => by
  rcases h.f i hi with h | h | h
  · exact .inr (.inl h)
  · exact .inl h
  · exact .inr (.inr h), h.b, h.a⟩
structure Pair (e : Nat → Nat × Nat) (n m s t : Nat) (A B : List Nat) : Prop where
  fa : Fo e n A
  fb : Fo e n B
  la : ∀ i ∈ A, i < m
  lb : ∀ i ∈ B, i < m
  dj : ∀ i ∈ A, i ∉ B
  same : ∀ u v, Jn e A u v ↔ Jn e B u v
  st : Jn e A s t
theorem Fo.same {A B C : List Nat} (hA : Fo e n (C ++ A)) (hB : Fo e n B) (h : ∀ u v, Jn e A u v ↔ Jn e B u v) : Fo e n (C ++ B) := by
  have hin : In e n (C ++ B) := fun i hi => by
    rcases List.mem_append.1 hi with hi | hi
    · exact hA.1 i (List.mem_append_left _ hi)
    · exact hB.1 i hi
  have hA0 : Fo e n A := hA.sub (List.sublist_append_right ..)
  have key : ∀ {A B : List Nat}, (∀ u v, Jn e A u v ↔ Jn e B u v) → ∀ {u v}, Jn e (C ++ A) u v → Jn e (C ++ B) u v := fun {A B} h {u v} hj => jn_least (Jn.eqv _) (fun i hi => by
    rcases List.mem_append.1 hi with hi | hi
    · exact jn_mem (List.mem_append_left _ hi)
    · exact jn_mono (fun j hj => List.mem_append_right _ hj) ((h _ _).1 (jn_mem hi))) hj
  have h1 : cp e n (C ++ A) = cp e n (C ++ B) := cp_congr fun u v => ⟨key h, key fun u v => (h u v).symm⟩
  have h2 : cp e n A = cp e n B := cp_congr h
  have h3 := hA.2
  have h4 := hA0.2
  have h5 := hB.2
  rw [List.length_append] at h3
  exact ⟨hin, by rw [← h1, List.length_append]; omega⟩
end Go.Wire

/-
  Wires as pairs of places: what one made short does to them. (Plain.)
-/
namespace Go.Wire

abbrev Wr := Nat × Nat

def plc (a b x : Nat) : Nat := if x = b then a else if b < x then x - 1 else x
def cw (a b : Nat) (w : Wr) : Wr := (min (plc a b w.1) (plc a b w.2), max (plc a b w.1) (plc a b w.2))

def shW (a b : Nat) (W : List Wr) : List Wr := (W.filter fun w => decide (plc a b w.1 ≠ plc a b w.2)).map (cw a b)
end Go.Wire

/-
  Wires as pairs of places: a wire made short; trees with and without a wire; two trees as lists of wires. (Plain.)
-/
namespace Go.Wire

theorem plc_eq {a b u v : Nat} (hab : a < b) : plc a b u = plc a b v ↔ u = v ∨ (u = a ∧ v = b) ∨ (u = b ∧ v = a) := by
  unfold plc
  split <;> split <;> (try split) <;> (try split) <;> omega
theorem plc_sur {a b : Nat} (hab : a < b) (y : Nat) : ∃ u, plc a b u = y := by
  by_cases h : y < b
  · exact ⟨y, by unfold plc; rw [if_neg (by omega), if_neg (by omega)]⟩
  · exact ⟨y + 1, by unfold plc; rw [if_neg (by omega), if_pos (by omega)]; omega⟩
theorem plc_lt {a b n x : Nat} (hab : a < b) (hb : b < n) (hx : x < n) : plc a b x < n - 1 := by
  unfold plc
  split
  · omega
  · split <;> omega
theorem cw_lt {a b n : Nat} {w : Wr} (hab : a < b) (hb : b < n) (h : w.1 < n ∧ w.2 < n) : (cw a b w).1 < n - 1 ∧ (cw a b w).2 < n - 1 := by
  have h1 := plc_lt hab hb h.1
  have h2 := plc_lt hab hb h.2
  unfold cw
  exact ⟨by show min _ _ < _; omega, by show max _ _ < _; omega⟩
theorem jn_ends {l : List Wr} {a b : Nat} (w : Wr) : Jn id l (cw a b w).1 (cw a b w).2 ↔ Jn id l (plc a b w.1) (plc a b w.2) := by
  show Jn id l (min (plc a b w.1) (plc a b w.2)) (max (plc a b w.1) (plc a b w.2)) ↔ _
  rcases Nat.le_total (plc a b w.1) (plc a b w.2) with h | h
  · rw [Nat.min_eq_left h, Nat.max_eq_right h]
  · rw [Nat.min_eq_right h, Nat.max_eq_left h]
    exact ⟨Jn.symm, Jn.symm⟩
theorem jn_short {a b : Nat} (hab : a < b) {L : List Wr} {u v : Nat} : Jn id (L.map (cw a b)) (plc a b u) (plc a b v) ↔ Jn id (L ++ [(a, b)]) u v := by
  have hw : Jn (id : Wr → Wr) (L ++ [(a, b)]) a b := jn_mem (e := (id : Wr → Wr)) (i := (a, b)) (by simp)
  have hsame : ∀ {u v}, plc a b u = plc a b v → Jn (id : Wr → Wr) (L ++ [(a, b)]) u v := fun {u v} h => by
    rcases (plc_eq hab).1 h with rfl | ⟨rfl, rfl⟩ | ⟨rfl, rfl⟩
    · exact Jn.refl _ _
    · exact hw
    · exact hw.symm
  constructor
  · intro h
    refine jn_least (R := fun x y => ∀ u v, plc a b u = x → plc a b v = y → Jn (id : Wr → Wr) (L ++ [(a, b)]) u v) ⟨fun x u v hu hv => hsame (hu.trans hv.symm), fun h u v hu hv => (h v u hv hu).symm, fun {x y z} h1 h2 u v hu hv => ?_⟩ (fun w hw => ?_) h u v rfl rfl
    · obtain ⟨q, hq⟩ := plc_sur hab y
      exact (h1 u q hu hq).trans (h2 q v hq hv)
    · obtain ⟨x, hx, rfl⟩ := List.mem_map.1 hw
      have hj : Jn (id : Wr → Wr) (L ++ [(a, b)]) x.1 x.2 := jn_mem (e := (id : Wr → Wr)) (List.mem_append_left _ hx)
      show ∀ u v, plc a b u = min (plc a b x.1) (plc a b x.2) → plc a b v = max (plc a b x.1) (plc a b x.2) → _
      intro u v hu hv
      rcases Nat.le_total (plc a b x.1) (plc a b x.2) with h | h
      · rw [Nat.min_eq_left h] at hu
        rw [Nat.max_eq_right h] at hv
        exact (hsame hu).trans (hj.trans (hsame hv).symm)
      · rw [Nat.min_eq_right h] at hu
        rw [Nat.max_eq_left h] at hv
        exact (hsame hu).trans (hj.symm.trans (hsame hv).symm)
  · refine jn_least (R := fun u v => Jn id (L.map (cw a b)) (plc a b u) (plc a b v)) ⟨fun _ => rfl, Eq.symm, Eq.trans⟩ (fun w hw => ?_)
    rcases List.mem_append.1 hw with hw | hw
    · exact (jn_ends w).1 (jn_mem (e := (id : Wr → Wr)) (List.mem_map.2 ⟨w, hw, rfl⟩))
    · rw [List.mem_singleton.1 hw]
      show Jn id _ (plc a b a) (plc a b b)
      rw [(plc_eq hab).2 (.inr (.inl ⟨rfl, rfl⟩))]; rfl
theorem fo_short {a b n : Nat} (hab : a < b) (hb : b < n) : ∀ {L : List Wr}, In (id : Wr → Wr) n L → (Fo id (n - 1) (L.map (cw a b)) ↔ Fo id n (L ++ [(a, b)]))
  | [], _ => by
    refine ⟨fun _ => (fo_cons (e := (id : Wr → Wr)) (i := (a, b)) ⟨by show a < n; omega, hb⟩).2 ⟨Fo.nil n, fun h => ?_⟩, fun _ => Fo.nil _⟩
    have : a = b := h
    omega
  | w :: L, h => by
    have ih := fo_short hab hb h.tail
    have hw := h w (List.mem_cons_self ..)
    show Fo id (n - 1) (cw a b w :: L.map (cw a b)) ↔ Fo id n (w :: (L ++ [(a, b)]))
    refine (fo_cons (e := (id : Wr → Wr)) (i := cw a b w) (cw_lt hab hb hw)).trans (Iff.trans ?_ (fo_cons (e := (id : Wr → Wr)) hw).symm)
    refine and_congr ih (not_congr ?_)
    exact (jn_ends w).trans (jn_short hab)

structure PairL (n s t : Nat) (W A B C : List Wr) : Prop where
  sub : (A ++ (B ++ C)).Perm W
  fa : Fo (id : Wr → Wr) n A
  fb : Fo (id : Wr → Wr) n B
  same : ∀ u v, Jn (id : Wr → Wr) A u v ↔ Jn (id : Wr → Wr) B u v
  st : Jn (id : Wr → Wr) A s t
theorem PairL.perm {n s t : Nat} {W W' A B C : List Wr} (h : PairL n s t W A B C) (hp : W.Perm W') : PairL n s t W' A B C := ⟨h.sub.trans hp, h.fa, h.fb, h.same, h.st⟩
theorem PairL.short {n s t a b : Nat} {W A B C : List Wr} (hab : a < b) (hb : b < n) (hn : In (id : Wr → Wr) n C) (sub : (A ++ (B ++ C)).Perm W) (fa : Fo (id : Wr → Wr) n (A ++ [(a, b)])) (fb : Fo (id : Wr → Wr) n (B ++ [(a, b)])) (same : ∀ u v, Jn (id : Wr → Wr) (A ++ [(a, b)]) u v ↔ Jn (id : Wr → Wr) (B ++ [(a, b)]) u v) (st : Jn (id : Wr → Wr) (A ++ [(a, b)]) s t) : PairL (n - 1) (plc a b s) (plc a b t) (shW a b W) (A.map (cw a b)) (B.map (cw a b)) (shW a b C) := by
  have key : ∀ {A : List Wr}, Fo (id : Wr → Wr) n (A ++ [(a, b)]) → A.filter (fun w => decide (plc a b w.1 ≠ plc a b w.2)) = A := fun {A} h => by
    refine List.filter_eq_self.2 fun w hw => decide_eq_true fun k => ?_
    have hp : (A ++ [(a, b)]).Perm (w :: (A.erase w ++ [(a, b)])) := (List.perm_cons_erase hw).append_right _
    refine (h.perm hp).head ((jn_short (L := A.erase w) hab).1 ?_)
    show Jn id _ (plc a b w.1) (plc a b w.2)
    rw [k]; rfl
  refine ⟨?_, (fo_short hab hb (fun w hw => fa.1 w (List.mem_append_left _ hw))).2 fa, (fo_short hab hb (fun w hw => fb.1 w (List.mem_append_left _ hw))).2 fb, fun x y => ?_, (jn_short hab).2 st⟩
  · have := (sub.filter fun w => decide (plc a b w.1 ≠ plc a b w.2)).map (cw a b)
    rw [List.filter_append, List.filter_append, key fa, key fb, List.map_append, List.map_append] at this
    exact this
  · obtain ⟨u, rfl⟩ := plc_sur hab x
    obtain ⟨v, rfl⟩ := plc_sur hab y
    rw [jn_short hab, jn_short hab]
    exact same u v
end Go.Wire

/-
  Plain: the games' wires as wires that join places; the number of trees as choices; two trees; who wins.
-/
namespace Go.Proofs.YtfphkpdobbffeaaDoor
open Go Go.AH Go.Wire
set_option maxRecDepth 100000
set_option maxHeartbeats 1000000

def eg (g : Gm) (i : Nat) : Nat × Nat := g.ws.getD i (0, 0)
theorem eg_ends {g : Gm} (hg : g.ok) : Wire.Ends (eg g) g.n g.ws.length := fun i hi => by
  have := hg.ends i hi
  exact ⟨by show (g.ws.getD i (0, 0)).1 < _; omega, this.2⟩
theorem eg_map (g : Gm) : (List.range g.ws.length).map (eg g) = g.ws := by
  refine List.ext_getElem (by simp) fun i h1 h2 => ?_
  rw [List.getElem_map, List.getElem_range, eg, List.getD_eq_getElem?_getD, List.getElem?_eq_getElem h2]; rfl
theorem root_fold {g : Gm} (hg : g.ok) : ∀ (l : List Nat), (∀ i ∈ l, i < g.ws.length) → ∀ u, u < 8 → root (((l.reverse).map Int.ofNat).foldl (joinF g) (aloneSt 8)) u = Wire.lb (eg g) l u
  | [], _, u, hu => alone_root hu
  | i :: l, h, u, hu => by
    have he := hg.ends i (h i (List.mem_cons_self ..))
    have h8 := hg.n8
    have ih := root_fold hg l fun j hj => h j (List.mem_cons_of_mem _ hj)
    have hG : Grp (((l.reverse).map Int.ofNat).foldl (joinF g) (aloneSt 8)) := Grp.fold hg _ _ Grp.alone fun y hy => by
      obtain ⟨j, hj, rfl⟩ := List.mem_map.1 hy
      exact h j (List.mem_cons_of_mem _ (List.mem_reverse.1 hj))
    rw [List.reverse_cons, List.map_append, List.foldl_append]
    show root (joinL _ (g.ws.getD i (0, 0)).1 (g.ws.getD i (0, 0)).2) u = _
    rw [root_joinL hG (by omega) (by omega) u hu, ih u hu, ih _ (show (g.ws.getD i (0, 0)).1 < 8 by omega), ih _ (show (g.ws.getD i (0, 0)).2 < 8 by omega)]
    rfl
theorem memN_lt {k n : Nat} (hk : k ≤ 10) (hn : n < 2 ^ k) {i : Nat} (hi : i ∈ memN n) : i < k := lt_len hn (List.mem_filter.1 hi).2
theorem memN_mem {n i : Nat} (hn : n < 1024) : i ∈ memN n ↔ n.testBit i = true := by
  rw [memN, List.mem_filter, List.mem_range]
  exact ⟨fun h => h.2, fun h => ⟨lt_len (k := 10) hn h, h⟩⟩
theorem memN_nodup (n : Nat) : (memN n).Nodup := List.Nodup.sublist List.filter_sublist List.nodup_range
theorem ws1024 {g : Gm} (hg : g.ok) : 2 ^ g.ws.length ≤ 1024 := Nat.pow_le_pow_right (by omega) hg.len
theorem root_lb {g : Gm} (hg : g.ok) {a : Nat} (ha : a < 2 ^ g.ws.length) {u : Nat} (hu : u < 8) : root (keptL g a) u = Wire.lb (eg g) (memN a).reverse u := by
  rw [← root_fold hg (memN a).reverse (fun i hi => memN_lt hg.len ha (List.mem_reverse.1 hi)) u hu, List.reverse_reverse]; rfl
theorem comps_cp {g : Gm} (hg : g.ok) {a : Nat} (ha : a < 2 ^ g.ws.length) : comps (keptL g a) g.n = cp (eg g) g.n (memN a) := by
  rw [← cp_congr (l := (memN a).reverse) (fun u v => jn_perm (List.reverse_perm _))]
  have h8 := hg.n8
  refine List.countP_congr fun u hu => ?_
  have := List.mem_range.1 hu
  rw [root_lb hg ha (by omega)]
theorem eg_in {g : Gm} (hg : g.ok) {a : Nat} (ha : a < 2 ^ g.ws.length) : In (eg g) g.n (memN a) := fun i hi => eg_ends hg i (memN_lt hg.len ha hi)
theorem acy_fo {g : Gm} (hg : g.ok) {a : Nat} (ha : a < 2 ^ g.ws.length) : acyF g (aloneSt 8) (mem a) = true ↔ Fo (eg g) g.n (memN a) := by
  have h := (acy_comps hg (mem a) (aloneSt 8) Grp.alone fun y hy => (mem_lt hg.len ha hy).2).2
  rw [show (mem a).foldl (joinF g) (aloneSt 8) = keptL g a from rfl, comps_alone hg.n8, comps_cp hg ha, show (mem a).length = (memN a).length by simp [mem]] at h
  rw [h]
  exact ⟨fun k => ⟨eg_in hg ha, k⟩, fun k => k.2⟩
theorem tree_full {g : Gm} (hg : g.ok) {a : Nat} (ha : a < 2 ^ g.ws.length) : isTreeB g a (2 ^ g.n - 1) = true ↔ Fo (eg g) g.n (memN a) ∧ (memN a).length + 1 = g.n := by
  have h2 := hg.n2
  have hpf := pop_full g.n hg.n8
  have hG : Grp (keptL g a) := Grp.fold hg (mem a) _ Grp.alone fun y hy => (mem_lt hg.len ha hy).2
  have hco := comps_one hG (n := g.n) (by omega) hg.n8
  rw [isTreeB, Bool.and_eq_true, Bool.and_eq_true, decide_eq_true_eq, decide_eq_true_eq, acy_fo hg ha, hpf]
  constructor
  · rintro ⟨⟨h3, h4⟩, h5⟩
    exact ⟨h5, by show pop a + 1 = _; omega⟩
  · rintro ⟨h5, h6⟩
    have h7 : pop a + 1 = g.n := h6
    have h8 := h5.2
    refine ⟨⟨places_all hg ha (hco.1 ?_), by omega⟩, h5⟩
    rw [comps_cp hg ha]; omega
/-! Two trees. -/
def bm : List Nat → Nat
  | [] => 0
  | i :: l => bm l ||| 2 ^ i
theorem bm_bit (j : Nat) : ∀ l : List Nat, (bm l).testBit j = decide (j ∈ l)
  | [] => by simp [bm]
  | i :: l => by
    rw [bm, or_bit, bm_bit j l, Bool.eq_iff_iff]
    simp only [Bool.or_eq_true, decide_eq_true_eq, List.mem_cons]
    exact Or.comm
theorem bm_lt {m : Nat} : ∀ {l : List Nat}, (∀ i ∈ l, i < m) → bm l < 2 ^ m
  | [], _ => Nat.pow_pos (by omega)
  | i :: l, h => or_lt (bm_lt fun j hj => h j (List.mem_cons_of_mem _ hj)) ((Nat.pow_lt_pow_iff_right (by omega)).2 (h i (List.mem_cons_self ..)))
theorem bm_perm {l : List Nat} (hn : l.Nodup) (h : ∀ i ∈ l, i < 10) : (memN (bm l)).Perm l := by
  refine (List.perm_ext_iff_of_nodup (memN_nodup _) hn).2 fun i => ?_
  rw [memN_mem (bm_lt (m := 10) h), bm_bit, decide_eq_true_eq]
/-! Lehman. -/
end Go.Proofs.YtfphkpdobbffeaaDoor

/-
  Contract: IsBarrier.
-/
namespace Go.Proofs.YtfphkpdobbffeaaDoor
open Go Go.AH
set_option maxRecDepth 100000
set_option maxHeartbeats 4000000

end Go.Proofs.YtfphkpdobbffeaaDoor

/-
  Contract: the reference's HasBarrier.
-/
namespace Go.Proofs.YtfphkpdobbffeaaDoor
open Go Go.AH
set_option maxRecDepth 100000
set_option maxHeartbeats 4000000

end Go.Proofs.YtfphkpdobbffeaaDoor

/-
  Contract: the reference's IsBarrier.
-/
namespace Go.Proofs.YtfphkpdobbffeaaDoor
open Go Go.AH
set_option maxRecDepth 100000
set_option maxHeartbeats 4000000

end Go.Proofs.YtfphkpdobbffeaaDoor

/-
  Plain: two trees on all places, or a barrier: never both, and always one.
-/
namespace Go.Proofs.YtfphkpdobbffeaaDoor
open Go Go.AH Go.Wire
set_option maxRecDepth 100000
set_option maxHeartbeats 1000000

theorem crs_crN (g : Gm) (q : Nat → Nat) : Wire.crs (eg g) g.ws.length q = crN q g.ws := by
  unfold crN
  rw [← eg_map g, List.countP_map, eg_map g]
  rfl
/-! Two trees on all places. -/
theorem span_of {g : Gm} (hg : g.ok) {P : Bool → List Nat} (hP : Pk (eg g) g.n g.ws.length P) (hc : ∀ b, cp (eg g) g.n (P b) = 1) : treesF g (alS g) ≠ none := by
  have hp := ws1024 hg
  have h10 := hg.len
  have h2 := hg.n2
  have hlt : ∀ b, bm (P b) < 2 ^ g.ws.length := fun b => bm_lt (hP.lt b)
  have hpm : ∀ b, (memN (bm (P b))).Perm (P b) := fun b => bm_perm (hP.fo b).nodup (fun i hi => by have := hP.lt b i hi; omega)
  have ht : ∀ b, isTreeB g (bm (P b)) (2 ^ g.n - 1) = true := fun b => by
    rw [tree_full hg (hlt b)]
    refine ⟨(hP.fo b).perm (hpm b).symm, ?_⟩
    rw [(hpm b).length_eq]
    have := (hP.fo b).2
    rw [hc b] at this; omega
  have hpl : ∀ b, placesN g (bm (P b)) = 2 ^ g.n - 1 := fun b => by
    have := ht b
    rw [isTreeB, Bool.and_eq_true, Bool.and_eq_true, decide_eq_true_eq] at this
    exact this.1.1
  have hdj : ∀ b, bm (P b) &&& bm (P (!b)) = 0 := fun b => Nat.eq_of_testBit_eq fun i => by
    rw [Nat.testBit_and, Nat.zero_testBit, bm_bit, bm_bit]
    by_cases h : i ∈ P b
    · rw [decide_eq_false (hP.dj b i h), Bool.and_false]
    · rw [decide_eq_false h, Bool.false_and]
  have hne : ∀ b, bm (P b) ≠ 0 := fun b k => by
    have h1 := (hpm b).length_eq
    rw [k, memN_zero] at h1
    have := (hP.fo b).2
    rw [hc b, ← h1] at this
    simp at this; omega
  have go : ∀ b, bm (P b) < bm (P (!b)) → treesF g (alS g) ≠ none := fun b hlt2 hn => by
    have h1 := firstFrom_none hn (bm (P b)) (Nat.zero_le _) (by have := hlt b; omega)
    rw [okA, if_neg (by rw [hpl b, ht b, alS]; simp [hne b])] at h1
    have h3 := firstFrom_none h1 (bm (P (!b))) hlt2 (by have := hlt (!b); omega)
    rw [okB, if_pos ⟨hdj b, by rw [hpl b]; exact ht (!b)⟩] at h3
    cases h3
  rcases Nat.lt_trichotomy (bm (P true)) (bm (P false)) with k | k | k
  · exact go true k
  · have := hdj true
    rw [show (!true) = false from rfl, ← k, Nat.and_self] at this
    exact absurd this (hne true)
  · exact go false k
theorem of_span {g : Gm} (hg : g.ok) {a b : Nat} (h : treesF g (alS g) = some (a, b)) : ∃ P, Pk (eg g) g.n g.ws.length P ∧ ∀ b, cp (eg g) g.n (P b) = 1 := by
  have hp := ws1024 hg
  obtain ⟨h1, h2, h3, h4, h5, h6, h7⟩ := treesF_lt hg.len h
  have ha : a < 2 ^ g.ws.length := by omega
  rw [alS, decide_eq_true_eq] at h4
  rw [h4] at h5 h7
  rw [tree_full hg ha] at h5
  rw [tree_full hg h3] at h7
  refine ⟨fun c => if c then memN a else memN b, ⟨fun c => by cases c; exact h7.1; exact h5.1, fun c i hi => ?_, fun c i hi => ?_⟩, fun c => ?_⟩
  · cases c
    · exact memN_lt hg.len h3 hi
    · exact memN_lt hg.len ha hi
  · have hno : ¬ (a.testBit i = true ∧ b.testBit i = true) := fun ⟨x, y⟩ => by
      have := congrArg (fun z => z.testBit i) h6
      simp [x, y] at this
    cases c
    · intro h8
      exact hno ⟨(memN_mem (by omega)).1 h8, (memN_mem (by omega)).1 hi⟩
    · intro h8
      exact hno ⟨(memN_mem (by omega)).1 hi, (memN_mem (by omega)).1 h8⟩
  · cases c
    · have := h7.1.2; show cp (eg g) g.n (memN b) = 1; omega
    · have := h5.1.2; show cp (eg g) g.n (memN a) = 1; omega
/-! A division that groups make, told by restricted growth. -/
def rk (e : Nat → Nat × Nat) (K : List Nat) (r : Nat) : Nat := (List.range r).countP fun x => decide (Wire.lb e K x = x)
theorem rk_succ (e : Nat → Nat × Nat) (K : List Nat) (r : Nat) : rk e K (r + 1) = rk e K r + if Wire.lb e K r = r then 1 else 0 := by
  unfold rk
  rw [List.range_succ, List.countP_append, List.countP_singleton]
  congr 1
  simp
theorem rk_mono (e : Nat → Nat × Nat) (K : List Nat) {r : Nat} : ∀ s, r ≤ s → rk e K r ≤ rk e K s
  | 0, h => by rw [show r = 0 by omega]; exact Nat.le_refl _
  | s + 1, h => by
    rcases Nat.lt_or_ge r (s + 1) with h2 | h2
    · have := rk_mono e K (r := r) s (by omega)
      rw [rk_succ]; omega
    · rw [show r = s + 1 by omega]; exact Nat.le_refl _
def uKl (e : Nat → Nat × Nat) (K : List Nat) (a : Nat) : Nat := rk e K (Wire.lb e K a)
theorem uKl_mx (e : Nat → Nat × Nat) (K : List Nat) : ∀ j, mx (uKl e K) j = rk e K j
  | 0 => rfl
  | j + 1 => by
    simp only [mx]
    rw [uKl_mx e K j, rk_succ]
    by_cases h : Wire.lb e K j = j
    · rw [if_pos h, uKl, h]; omega
    · rw [if_neg h, uKl]
      have h1 := lb_le (e := e) K j
      have h2 := rk_mono e K (r := Wire.lb e K j + 1) j (by omega)
      rw [rk_succ, if_pos (lb_lb K j)] at h2
      omega
theorem uKl_rg (e : Nat → Nat × Nat) (K : List Nat) (n : Nat) : RG (uKl e K) n := fun j _ => by
  rw [uKl_mx, uKl]
  exact rk_mono e K j (lb_le K j)
theorem uKl_iff (e : Nat → Nat × Nat) (K : List Nat) (a b : Nat) : uKl e K a = uKl e K b ↔ Wire.lb e K a = Wire.lb e K b := by
  refine ⟨fun h => ?_, fun h => by rw [uKl, uKl, h]⟩
  unfold uKl at h
  have key : ∀ x y, rk e K (Wire.lb e K x) = rk e K (Wire.lb e K y) → ¬ Wire.lb e K x < Wire.lb e K y := fun x y h k => by
    have h2 := rk_mono e K (r := Wire.lb e K x + 1) (Wire.lb e K y) (by omega)
    rw [rk_succ, if_pos (lb_lb K x)] at h2
    omega
  have k1 := key a b h
  have k2 := key b a h.symm
  omega
theorem bar_or {g : Gm} (hg : g.ok) : treesF g (alS g) ≠ none ∨ ∃ u, RG u g.n ∧ Bar g u := by
  have h2 := hg.n2
  rcases trees_or (eg_ends hg) (show 0 < g.n by omega) with ⟨P, hP, hc⟩ | ⟨K, _, hK⟩
  · exact .inl (span_of hg hP hc)
  · refine .inr ⟨uKl (eg g) K, uKl_rg _ _ _, ?_⟩
    have e1 : mx (uKl (eg g) K) g.n = cp (eg g) g.n K := uKl_mx _ _ _
    have e2 : crN (uKl (eg g) K) g.ws = Wire.crs (eg g) g.ws.length (Wire.lb (eg g) K) := by
      rw [crs_crN]
      refine List.countP_congr fun p _ => ?_
      have := uKl_iff (eg g) K p.1 p.2
      simp only [ne_eq, decide_not, Bool.not_eq_true', decide_eq_false_iff_not]
      rw [this]
    have := cp_pos (e := eg g) (show 0 < g.n by omega) K
    unfold Bar
    rw [e1, e2]
    omega
theorem bar_not {g : Gm} (hg : g.ok) {u : Nat → Nat} (hu : RG u g.n) (hb : Bar g u) : treesF g (alS g) = none := by
  apply Classical.byContradiction
  intro h
  obtain ⟨p, hp⟩ := Option.ne_none_iff_exists'.1 h
  obtain ⟨a, b⟩ := p
  obtain ⟨P, hP, hc⟩ := of_span hg hp
  have := no_barrier hP hc (q := u) (k := mx u g.n) fun x hx => mx_hit hu hx
  rw [crs_crN] at this
  obtain ⟨b1, b2⟩ := hb
  omega
/-! The reference's search. -/
end Go.Proofs.YtfphkpdobbffeaaDoor

/-
  Contract: Barrier, its lists as they were made.
-/
namespace Go.Proofs.YtfphkpdobbffeaaDoor
open Go Go.AH
set_option maxRecDepth 100000
set_option maxHeartbeats 4000000

def baV (g : Gm) (x : XU) : List (Nat × ABlk) := match x with
  | (false, v, _) => [(4, .own [.fn 66 [] [1, 2, 3, 4]]), (1, .own (gC g 0)), (0, wB g), (3, .own [.nils]), (2, .own (ints (wL v)))]
  | (true, v, V) => [(4, .own [.fn 66 [] [1, 2, 3, 4]]), (1, .own (gC g 0)), (0, wB g), (3, .own [.sl 5 0 V.length (some V.length)]), (2, .own (ints (wL v))), (5, .own (rgC 6 V))] ++ (rg 6 V).reverse
def bwH (V : List (List Int)) : List (Nat × ABlk) := rg 2 V ++ [(1, .own (rgC 2 V))]
theorem qf1 {i : Nat} (h0 : 1 ≤ i) (h : i < 10) : qf 1 [5, 6, 7, 8, 9, 10, 11, 12, 13] i = i + 4 := by
  have : ∀ i, i < 10 → 1 ≤ i → qf 1 [5, 6, 7, 8, 9, 10, 11, 12, 13] i = i + 4 := by decide
  exact this i h h0
theorem rg_at : ∀ {V : List (List Int)} {b c : Nat} {p : Nat × ABlk}, p ∈ rg b V → (c + (p.1 - b), p.2) ∈ rg c V
  | [], b, c, p, h => absurd h List.not_mem_nil
  | a :: V, b, c, p, h => by
    rcases List.mem_cons.1 h with rfl | h
    · rw [rg]; simp
    · have h1 := rg_at (c := c + 1) h
      have h2 := (rg_mem h).1
      rw [rg]
      refine List.mem_cons_of_mem _ ?_
      rw [show c + (p.1 - b) = c + 1 + (p.1 - (b + 1)) by omega]
      exact h1
theorem baV_fin {g : Gm} {v : Nat → Nat} {V : List (List Int)} (h8 : V.length ≤ 8) : hpAll (baV g (true, v, V)) (qf 1 [5, 6, 7, 8, 9, 10, 11, 12, 13]) (bwH V) := by
  refine hpAll_rg V 2 (fun p hp => ?_) ⟨?_, trivial⟩
  · obtain ⟨h1, h2, _⟩ := rg_mem hp
    rw [qf1 (by omega) (by omega)]
    show lk (_ ++ _) _ = _
    rw [lk_append, lk_none_of (by intro q hq e; simp only [List.mem_cons, List.not_mem_nil, or_false] at hq; rcases hq with rfl | rfl | rfl | rfl | rfl | rfl <;> simp at e <;> omega)]
    have := rg_lk (rg_at (c := 6) hp)
    rw [show 6 + (p.1 - 2) = p.1 + 4 by omega] at this
    exact this
  · show some (ABlk.own (rgC 6 V)) = some (ABlk.own ((rgC 2 V).map _))
    rw [rgC_ren V 2 6 fun i h1 h2 => by rw [qf1 (by omega) (by omega)]; omega]
theorem bwH_nodup (V : List (List Int)) : ((bwH V).map Prod.fst).Nodup := by
  unfold bwH
  rw [List.map_append, List.nodup_append]
  refine ⟨rg_nodup V 2, by simp, fun a ha b hb e => ?_⟩
  obtain ⟨p, hp, rfl⟩ := List.mem_map.1 ha
  have := (rg_mem hp).1
  simp at hb
  omega
theorem baV_nod {V : List (List Int)} (h8 : V.length ≤ 8) : (nodB ((bwH V).map fun p => qf 1 [5, 6, 7, 8, 9, 10, 11, 12, 13] p.1) && nodB ((bwH V).map Prod.fst) && Nat.ble (1 + 9) GB) = true := by
  have hk : ((bwH V).map fun p => qf 1 [5, 6, 7, 8, 9, 10, 11, 12, 13] p.1) = ((bwH V).map Prod.fst).map (· + 4) := by
    rw [List.map_map]
    refine List.map_congr_left fun p hp => ?_
    show qf 1 _ p.1 = p.1 + 4
    rcases List.mem_append.1 hp with hp | hp
    · have := rg_mem hp; exact qf1 (by omega) (by omega)
    · simp at hp
      subst hp
      exact qf1 (by omega) (by omega)
  rw [hk, nodB_of (bwH_nodup V), nodB_of (List.Pairwise.map _ (fun a b h e => h (by omega)) (bwH_nodup V))]
  rfl
theorem bwH_lt {V : List (List Int)} (h8 : V.length ≤ 8) : hpLt 10 (bwH V) := rg_lt V 2 (by omega) ⟨.inl (by omega), rgC_LL V 2 (by omega), trivial⟩
theorem Barrier_U {g : Gm} (hg : g.game) : FSpec Tryd.prog 27 [.g (gC g 0)] [(0, wB g)] 1 fun r hq k' => k' = 10 ∧ ((treesF g (alS g) ≠ none ∧ r = .t [.c .nils, .c (.bool false), .c (.int .i64 0)] ∧ hq = []) ∨
    treesF g (alS g) = none ∧ ∃ V : List (List Int), (2 ≤ V.length ∧ V.length ≤ 8 ∧ ∀ a ∈ V, a.length ≤ 8) ∧ r = .t [.c (.sl 1 0 V.length (some V.length)), .c (.bool true), .c (.int .i64 0)] ∧ hq = bwH V) := by
  have hput := bputU_spec hg.ok g.n 0 w0 (by omega) (fun j hj => absurd hj (by omega))
  have h8 := hg.ok.n8
  refine FSpec.of_body tok true Tryd.func27 rfl (by kernel_rfl) (by decide) (by simp [tupA, hpLt, tmLt, AV.lt, AE.lt, AC.lt, LL_cons, LL_nil, idOk, ABlk.lt, ints_LL, GB, tab64_LL, gC, wB, giC, noneB, putB, prU]) (by simp [tupA, hpLt, tmLt, AV.lt, AE.lt, AC.lt, LL_cons, LL_nil, idOk, ABlk.lt, ints_LL, GB, tab64_LL, gC, wB, giC, noneB, putB, prU]) (by show 1 ≤ _; decide) ?_
  refine Wk.on ?_
  refine CallA.ro [0] (.c (.int .i64 0)) (check_ok hg) (by first | rfl | exact congrArg AV.g (ints_ren _ _) | (simp [ints_ren, AV.ren, ABlk.ren, AC.ren, AE.ren, qq]; done)) rfl (by (repeat (first | exact trivial | refine ⟨⟨(by first | exact .inl (by decide) | exact .inr (by decide)), (by first | (refine Or.inl ?_; first | rfl | exact congrArg some (ints_ren _ _).symm | exact congrArg ABlk.own (ints_ren _ _).symm | exact congrArg some (tab64_ren _).symm) | rfl | exact congrArg some (ints_ren _ _).symm | exact congrArg ABlk.own (ints_ren _ _).symm | exact congrArg some (tab64_ren _).symm | exact Or.inr ⟨rfl, rfl⟩)⟩, ?_⟩))) (by first | rfl | exact congrArg AV.g (ints_ren _ _) | (simp [ints_ren, AV.ren, ABlk.ren, AC.ren, AE.ren, qq]; done)) ?_
  refine Wk.on ?_
  have hbeh : ∀ (u : Nat → Nat) (V : List (List Int)), behind [0, 1, 2, 3, 4] 5 (putB g w0) (prU (true, u, V)) (gone [0, 1, 2, 3, 4] 5 (putB g w0) [(4, .own [.fn 66 [] [1, 2, 3, 4]]), (3, .own [.nils]), (2, .own (ints (wL w0))), (1, .own (gC g 0)), (0, wB g)]) = baV g (true, u, V) := fun u V => by
    have hT : behind [0, 1, 2, 3, 4] 5 (putB g w0) (prT u V) (gone [0, 1, 2, 3, 4] 5 (putB g w0) [(4, .own [.fn 66 [] [1, 2, 3, 4]]), (3, .own [.nils]), (2, .own (ints (wL w0))), (1, .own (gC g 0)), (0, wB g)]) = [(4, .own [.fn 66 [] [1, 2, 3, 4]]), (1, .own (gC g 0)), (0, wB g), (3, .own [.sl 5 0 V.length (some V.length)]), (2, .own (ints (wL u))), (5, .own (rgC 6 V))] := by
      have hr6 := rgC_ren (q := qq [0, 1, 2, 3, 4] 5) V 6 6 fun i h1 h2 => by rw [qq5 (by omega)]; omega
      simp only [prT, behind, putB, lk, gone, ABlk.wr, del, up, wB]
      simp [qq5, ABlk.ren, AC.ren, ints_ren, hr6, up, del, qq, GB]
    show behind [0, 1, 2, 3, 4] 5 (putB g w0) (rg 6 V ++ prT u V) _ = _
    rw [behind_rg V 6 6 (fun i h1 h2 => ⟨by rw [qq5 (by omega)]; omega, lk_none_of (by intro q hq e; simp only [putB, List.mem_cons, List.not_mem_nil, or_false] at hq; rcases hq with rfl | rfl | rfl | rfl | rfl <;> simp at e <;> omega)⟩) (by rw [hT]; intro q hq; simp only [List.mem_cons, List.not_mem_nil, or_false] at hq; rcases hq with rfl | rfl | rfl | rfl | rfl | rfl <;> simp), hT]
    rfl
  refine CallA.any (X := XU) (I := PU g w0 0) [0, 1, 2, 3, 4] (r := fun x => .c (.bool x.1)) (hp1 := prU) (k1 := 14) (fun x => .c (.bool x.1)) (baV g) hput (by first | rfl | exact congrArg AV.g (ints_ren _ _) | (simp [ints_ren, AV.ren, ABlk.ren, AC.ren, AE.ren, qq]; done)) rfl (by (repeat (first | exact trivial | refine ⟨⟨(by first | exact .inl (by decide) | exact .inr (by decide)), (by first | (refine Or.inl ?_; first | rfl | exact congrArg some (ints_ren _ _).symm | exact congrArg ABlk.own (ints_ren _ _).symm | exact congrArg some (tab64_ren _).symm) | rfl | exact congrArg some (ints_ren _ _).symm | exact congrArg ABlk.own (ints_ren _ _).symm | exact congrArg some (tab64_ren _).symm | exact Or.inr ⟨rfl, rfl⟩)⟩, ?_⟩))) (fun x => rfl) (fun x => by
    rcases x with ⟨_ | _, u, V⟩
    · simp [behind, gone, lk, up, del, qq, ABlk.wr, GB, baV, prU, putB, wB, gC, ABlk.ren, AC.ren, ints_ren] <;> rfl
    · exact hbeh u V) ?_
  rintro ⟨b, v, V⟩ ⟨p1, p2, p3⟩
  dsimp only at p1 p2 p3 ⊢
  cases b
  · refine Wk.on ?_
    have hno : treesF g (alS g) ≠ none := fun hn => by
      rcases bar_or hg.ok with h1 | ⟨u, h1, h2⟩
      · exact h1 hn
      · exact p3 rfl u (fun j hj => absurd hj (by omega)) h1 h2
    exact AH.Fin.new [5, 6, 7, 8, 9, 10, 11, 12, 13] (.t [.c .nils, .c (.bool false), .c (.int .i64 0)]) [] ⟨rfl, .inl ⟨hno, rfl, rfl⟩⟩ rfl trivial rfl (by simp [tupA, hpLt, tmLt, AV.lt, AE.lt, AC.lt, LL_cons, LL_nil, idOk, ABlk.lt, ints_LL, GB, tab64_LL, gC, wB, giC, noneB, putB, prU]) (by simp [tupA, hpLt, tmLt, AV.lt, AE.lt, AC.lt, LL_cons, LL_nil, idOk, ABlk.lt, ints_LL, GB, tab64_LL, gC, wB, giC, noneB, putB, prU])
  · refine Wk.on ?_
    obtain ⟨s1, s2, s3, s4, s5⟩ := p2 rfl
    exact AH.Fin.new [5, 6, 7, 8, 9, 10, 11, 12, 13] (.t [.c (.sl 1 0 V.length (some V.length)), .c (.bool true), .c (.int .i64 0)]) (bwH V) ⟨rfl, .inr ⟨bar_not hg.ok s1 s2, V, ⟨s4, s5, fun a ha => by rw [s3] at ha; have := LV_mem ha; omega⟩, rfl, rfl⟩⟩ rfl (baV_fin s5) (baV_nod s5) (by simp [tupA, hpLt, tmLt, AV.lt, AE.lt, AC.lt, LL_cons, LL_nil, idOk, ABlk.lt, ints_LL, GB, tab64_LL, gC, wB, giC, noneB, putB, prU]) (bwH_lt s5)
end Go.Proofs.YtfphkpdobbffeaaDoor

/-
  SwitchOwn: the loop that writes into the lists of a barrier.
-/
namespace Go.Proofs.YtfphkpdobbffeaaDoor
open Go Go.AH
set_option maxRecDepth 100000
set_option maxHeartbeats 4000000

noncomputable def loopsC : Code → List Code
  | .seq a b => loopsC a ++ loopsC b
  | .cond _ a b => loopsC a ++ loopsC b
  | .block _ c => loopsC c
  | .loop c => .loop c :: loopsC c
  | .rangeFunc _ _ _ c => loopsC c
  | .scope c => loopsC c
  | _ => []
noncomputable def own2 : Code := ((Tryd.f8.body.map loopsC).getD []).getD 2 .skip
theorem eqH_self : ∀ {front l : List (Nat × ABlk)}, ((front ++ l).map Prod.fst).Nodup → eqH (front ++ l) l
  | _, [], _ => trivial
  | front, (i, b) :: r, h => ⟨by
      rw [lk_mem h (List.mem_append_right _ (List.mem_cons_self ..))], by
      have := eqH_self (front := front ++ [(i, b)]) (l := r) (by rw [List.append_assoc]; exact h)
      rw [List.append_assoc] at this
      exact this⟩
theorem own_back {s : AS} {tm : List (Nat × AV)} {HP : List (Nat × ABlk)} (hn : (HP.map Prod.fst).Nodup) (hl : hpLt 50 HP) (ht : tmLt 50 tm) (hh : s.hp = HP) (htm : eqT s.tm tm) (h1 : s.nt = 150) (h2 : s.k0 = 1) (h3 : 50 ≤ s.nx) : Sub s ⟨tm, HP, 50, 150, 1⟩ [] :=
  Sub.nil ⟨h1.symm, h2.symm, ⟨by show 1 ≤ 50; omega, h3⟩, nodB_of hn, ht, hl⟩ htm (by rw [hh]; exact eqH_self (front := []) hn)
def HP (V : List (List Int)) (fx : List (Nat × ABlk)) : List (Nat × ABlk) := (40, .own (rgC 41 V)) :: (rg 41 V ++ fx)
structure Fx (fx : List (Nat × ABlk)) : Prop where
  n : (fx.map Prod.fst).Nodup
  k : ∀ p ∈ fx, p.1 < 40 ∨ GB ≤ p.1
  l : hpLt 50 fx
theorem HP_n {V : List (List Int)} {fx : List (Nat × ABlk)} (h8 : V.length ≤ 8) (hf : Fx fx) : ((HP V fx).map Prod.fst).Nodup := by
  have hk : ∀ q ∈ fx, q.1 < 40 ∨ 100000 ≤ q.1 := hf.k
  show (40 :: (rg 41 V ++ fx).map Prod.fst).Nodup
  rw [List.nodup_cons, List.map_append, List.nodup_append]
  refine ⟨fun h => ?_, rg_nodup V 41, hf.n, fun a ha b hb e => ?_⟩
  · rcases List.mem_append.1 h with h | h
    · obtain ⟨p, hp, e⟩ := List.mem_map.1 h
      have := rg_mem hp
      omega
    · obtain ⟨p, hp, e⟩ := List.mem_map.1 h
      have := hk p hp
      omega
  · obtain ⟨p, hp, rfl⟩ := List.mem_map.1 ha
    obtain ⟨q, hq, rfl⟩ := List.mem_map.1 hb
    have h1 := rg_mem hp
    have := hk q hq
    omega
theorem HP_l {V : List (List Int)} {fx : List (Nat × ABlk)} (h8 : V.length ≤ 8) (hf : Fx fx) : hpLt 50 (HP V fx) :=
  ⟨.inl (by omega), rgC_LL V 41 (by omega), rg_lt V 41 (by omega) hf.l⟩
structure Vs (vs : List (Nat × AV)) : Prop where
  l : tmLt 50 vs
  t : ∀ p ∈ vs, p.1 = 5 ∨ p.1 = 6 ∨ p.1 = 9 ∨ p.1 = 12 ∨ p.1 = 14 ∨ p.1 = 15
theorem own_l2 {V0 : List (List Int)} (h2 : 2 ≤ V0.length) (h8 : V0.length ≤ 8) (hr : ∀ a ∈ V0, a.length ≤ 8) {fx : List (Nat × ABlk)} (hf : Fx fx) (v5 v6 v9 v12 v14 v15 : AV) (hl : tmLt 50 [(5, v5), (6, v6), (9, v9), (12, v12), (14, v14), (15, v15)]) {Q : Exit → AS → Prop}
    (hQ : ∀ V : List (List Int), V.length = V0.length → Q (.exit 4) ⟨[(79, .c (.bool false)), (78, .c (.int .i64 V0.length)), (77, .c (.sl 40 0 V0.length (some V0.length))), (76, .c (.int .i64 V0.length)), (10, .c (.sl 40 0 V0.length (some V0.length))), (19, .c (.int .i64 V0.length)), (5, v5), (6, v6), (9, v9), (12, v12), (14, v14), (15, v15)], HP V fx, 50, 150, 1⟩) :
    Tr Tryd.prog own2 ⟨[(10, .c (.sl 40 0 V0.length (some V0.length))), (19, .c (.int .i64 0)), (5, v5), (6, v6), (9, v9), (12, v12), (14, v14), (15, v15)], HP V0 fx, 50, 150, 1⟩ Q := by
  refine Tr.loop (md := true) (X := Nat × List (List Int)) (st := fun x => ⟨[(10, .c (.sl 40 0 V0.length (some V0.length))), (19, .c (.int .i64 x.1)), (5, v5), (6, v6), (9, v9), (12, v12), (14, v14), (15, v15)], HP x.2 fx, 50, 150, 1⟩) (inv := fun x => x.1 ≤ V0.length ∧ x.2.length = V0.length ∧ ∀ a ∈ x.2, a.length ≤ 8) (μ := fun x => V0.length - x.1) (x0 := (0, V0)) (l := []) tok ⟨by omega, rfl, hr⟩ ?_ ?_
  · exact own_back (HP_n h8 hf) (HP_l h8 hf) ⟨.inl (by omega), trivial, hl⟩ rfl ⟨rfl, rfl, rfl, rfl, rfl, rfl, rfl, rfl, trivial⟩ rfl rfl (Nat.le_refl 50)
  · rintro ⟨i, V⟩ ⟨g1, g2, g3⟩
    dsimp only at g1 g2 g3 ⊢
    obtain ⟨M, hM⟩ : ∃ M, M = V0.length := ⟨_, rfl⟩
    rw [← hM] at g1 g2 h2 h8 hQ ⊢
    by_cases hi : i < M
    · skip
      rcases V with _ | ⟨a0, V⟩
      · simp only [List.length_cons, List.length_nil] at g2; omega
      rcases i with _ | i
      · have hal := g3 a0 (by simp)
        refine Wk.on ?_
        rw [decide_eq_true (show ((0 : Nat) : Int) < ((M : Nat) : Int) by omega)]
        refine Wk.on ?_
        refine Tr.loop (md := true) (X := Nat × List Int) (st := fun x => ⟨[(10, .c (.sl 40 0 M (some M))), (19, .c (.int .i64 (0 : Nat))), (20, .c (.int .i64 x.1)), (5, v5), (6, v6), (9, v9), (12, v12), (14, v14), (15, v15)], HP (x.2 :: V) fx, 50, 150, 1⟩) (inv := fun x => x.1 ≤ a0.length ∧ x.2.length = a0.length) (μ := fun x => a0.length - x.1) (x0 := (0, a0)) (l := []) tok ⟨by omega, rfl⟩ ?_ ?_
        · exact own_back (HP_n (by simp only [List.length_cons] at g2 ⊢; omega) hf) (HP_l (by simp only [List.length_cons] at g2 ⊢; omega) hf) ⟨.inl (by omega), trivial, trivial, hl⟩ rfl ⟨rfl, rfl, rfl, rfl, rfl, rfl, rfl, rfl, rfl, trivial⟩ rfl rfl (Nat.le_refl 50)
        · rintro ⟨k, a⟩ ⟨k1, k2⟩
          dsimp only at k1 k2 ⊢
          by_cases hk : k < a.length
          · refine Wk.on ?_
            rw [decide_eq_true (show ((k : Nat) : Int) < ((a.length : Nat) : Int) by omega)]
            refine Wk.on ?_
            refine ⟨⟨rfl, by rw [Int.toNat_natCast, ints_len]; omega⟩, ?_⟩
            refine Wk.on ?_
            have hset : (ints a).set (((k : Nat) : Int).toNat * 1) (.int .i64 (-1)) = ints (a.set k (-1)) := by rw [Int.toNat_natCast, Nat.mul_one]; simp [ints]
            have hle : (a.set k (-1)).length = a.length := List.length_set
            rw [hset]
            refine Again.mk (k + 1, a.set k (-1)) (own_back (HP_n (by simp only [List.length_cons] at g2 ⊢; omega) hf) (HP_l (by simp only [List.length_cons] at g2 ⊢; omega) hf) ⟨.inl (by omega), trivial, trivial, hl⟩ (by simp only [HP, rg, rgC, hle]; rfl) ⟨rfl, rfl, rfl, rfl, rfl, rfl, rfl, rfl, rfl, trivial⟩ rfl rfl (Nat.le_refl 50)) ⟨by show k + 1 ≤ a0.length; omega, by rw [hle]; exact k2⟩ (by show a0.length - (k + 1) < a0.length - k; omega)
          · have hke : k = a.length := by omega
            subst hke
            refine Wk.on ?_
            rw [decide_eq_false (show ¬ ((a.length : Nat) : Int) < ((a.length : Nat) : Int) by omega)]
            refine Wk.on ?_
            intro _
            refine Wk.on ?_
            exact Again.mk (0 + 1, (a :: V)) (own_back (HP_n (by simp only [List.length_cons] at g2 ⊢; omega) hf) (HP_l (by simp only [List.length_cons] at g2 ⊢; omega) hf) ⟨.inl (by omega), trivial, hl⟩ rfl ⟨rfl, rfl, rfl, rfl, rfl, rfl, rfl, rfl, trivial⟩ rfl rfl (Nat.le_refl 50)) ⟨by show 0 + 1 ≤ M; omega, g2, fun b hb => by simp only [List.mem_cons, List.not_mem_nil, or_false] at hb; rcases hb with rfl | hb; exact (by omega); exact g3 _ (List.mem_cons_of_mem _ (hb))⟩ (by show M - (0 + 1) < M - 0; omega)
      rcases V with _ | ⟨a1, V⟩
      · simp only [List.length_cons, List.length_nil] at g2; omega
      rcases i with _ | i
      · have hal := g3 a1 (by simp)
        refine Wk.on ?_
        rw [decide_eq_true (show ((1 : Nat) : Int) < ((M : Nat) : Int) by omega)]
        refine Wk.on ?_
        refine Tr.loop (md := true) (X := Nat × List Int) (st := fun x => ⟨[(10, .c (.sl 40 0 M (some M))), (19, .c (.int .i64 (1 : Nat))), (20, .c (.int .i64 x.1)), (5, v5), (6, v6), (9, v9), (12, v12), (14, v14), (15, v15)], HP (a0 :: x.2 :: V) fx, 50, 150, 1⟩) (inv := fun x => x.1 ≤ a1.length ∧ x.2.length = a1.length) (μ := fun x => a1.length - x.1) (x0 := (0, a1)) (l := []) tok ⟨by omega, rfl⟩ ?_ ?_
        · exact own_back (HP_n (by simp only [List.length_cons] at g2 ⊢; omega) hf) (HP_l (by simp only [List.length_cons] at g2 ⊢; omega) hf) ⟨.inl (by omega), trivial, trivial, hl⟩ rfl ⟨rfl, rfl, rfl, rfl, rfl, rfl, rfl, rfl, rfl, trivial⟩ rfl rfl (Nat.le_refl 50)
        · rintro ⟨k, a⟩ ⟨k1, k2⟩
          dsimp only at k1 k2 ⊢
          by_cases hk : k < a.length
          · refine Wk.on ?_
            rw [decide_eq_true (show ((k : Nat) : Int) < ((a.length : Nat) : Int) by omega)]
            refine Wk.on ?_
            refine ⟨⟨rfl, by rw [Int.toNat_natCast, ints_len]; omega⟩, ?_⟩
            refine Wk.on ?_
            have hset : (ints a).set (((k : Nat) : Int).toNat * 1) (.int .i64 (-1)) = ints (a.set k (-1)) := by rw [Int.toNat_natCast, Nat.mul_one]; simp [ints]
            have hle : (a.set k (-1)).length = a.length := List.length_set
            rw [hset]
            refine Again.mk (k + 1, a.set k (-1)) (own_back (HP_n (by simp only [List.length_cons] at g2 ⊢; omega) hf) (HP_l (by simp only [List.length_cons] at g2 ⊢; omega) hf) ⟨.inl (by omega), trivial, trivial, hl⟩ (by simp only [HP, rg, rgC, hle]; rfl) ⟨rfl, rfl, rfl, rfl, rfl, rfl, rfl, rfl, rfl, trivial⟩ rfl rfl (Nat.le_refl 50)) ⟨by show k + 1 ≤ a1.length; omega, by rw [hle]; exact k2⟩ (by show a1.length - (k + 1) < a1.length - k; omega)
          · have hke : k = a.length := by omega
            subst hke
            refine Wk.on ?_
            rw [decide_eq_false (show ¬ ((a.length : Nat) : Int) < ((a.length : Nat) : Int) by omega)]
            refine Wk.on ?_
            intro _
            refine Wk.on ?_
            exact Again.mk (1 + 1, (a0 :: a :: V)) (own_back (HP_n (by simp only [List.length_cons] at g2 ⊢; omega) hf) (HP_l (by simp only [List.length_cons] at g2 ⊢; omega) hf) ⟨.inl (by omega), trivial, hl⟩ rfl ⟨rfl, rfl, rfl, rfl, rfl, rfl, rfl, rfl, trivial⟩ rfl rfl (Nat.le_refl 50)) ⟨by show 1 + 1 ≤ M; omega, g2, fun b hb => by simp only [List.mem_cons, List.not_mem_nil, or_false] at hb; rcases hb with rfl | rfl | hb; exact g3 _ (List.mem_cons_self ..); exact (by omega); exact g3 _ (List.mem_cons_of_mem _ (List.mem_cons_of_mem _ (hb)))⟩ (by show M - (1 + 1) < M - 1; omega)
      rcases V with _ | ⟨a2, V⟩
      · simp only [List.length_cons, List.length_nil] at g2; omega
      rcases i with _ | i
      · have hal := g3 a2 (by simp)
        refine Wk.on ?_
        rw [decide_eq_true (show ((2 : Nat) : Int) < ((M : Nat) : Int) by omega)]
        refine Wk.on ?_
        refine Tr.loop (md := true) (X := Nat × List Int) (st := fun x => ⟨[(10, .c (.sl 40 0 M (some M))), (19, .c (.int .i64 (2 : Nat))), (20, .c (.int .i64 x.1)), (5, v5), (6, v6), (9, v9), (12, v12), (14, v14), (15, v15)], HP (a0 :: a1 :: x.2 :: V) fx, 50, 150, 1⟩) (inv := fun x => x.1 ≤ a2.length ∧ x.2.length = a2.length) (μ := fun x => a2.length - x.1) (x0 := (0, a2)) (l := []) tok ⟨by omega, rfl⟩ ?_ ?_
        · exact own_back (HP_n (by simp only [List.length_cons] at g2 ⊢; omega) hf) (HP_l (by simp only [List.length_cons] at g2 ⊢; omega) hf) ⟨.inl (by omega), trivial, trivial, hl⟩ rfl ⟨rfl, rfl, rfl, rfl, rfl, rfl, rfl, rfl, rfl, trivial⟩ rfl rfl (Nat.le_refl 50)
        · rintro ⟨k, a⟩ ⟨k1, k2⟩
          dsimp only at k1 k2 ⊢
          by_cases hk : k < a.length
          · refine Wk.on ?_
            rw [decide_eq_true (show ((k : Nat) : Int) < ((a.length : Nat) : Int) by omega)]
            refine Wk.on ?_
            refine ⟨⟨rfl, by rw [Int.toNat_natCast, ints_len]; omega⟩, ?_⟩
            refine Wk.on ?_
            have hset : (ints a).set (((k : Nat) : Int).toNat * 1) (.int .i64 (-1)) = ints (a.set k (-1)) := by rw [Int.toNat_natCast, Nat.mul_one]; simp [ints]
            have hle : (a.set k (-1)).length = a.length := List.length_set
            rw [hset]
            refine Again.mk (k + 1, a.set k (-1)) (own_back (HP_n (by simp only [List.length_cons] at g2 ⊢; omega) hf) (HP_l (by simp only [List.length_cons] at g2 ⊢; omega) hf) ⟨.inl (by omega), trivial, trivial, hl⟩ (by simp only [HP, rg, rgC, hle]; rfl) ⟨rfl, rfl, rfl, rfl, rfl, rfl, rfl, rfl, rfl, trivial⟩ rfl rfl (Nat.le_refl 50)) ⟨by show k + 1 ≤ a2.length; omega, by rw [hle]; exact k2⟩ (by show a2.length - (k + 1) < a2.length - k; omega)
          · have hke : k = a.length := by omega
            subst hke
            refine Wk.on ?_
            rw [decide_eq_false (show ¬ ((a.length : Nat) : Int) < ((a.length : Nat) : Int) by omega)]
            refine Wk.on ?_
            intro _
            refine Wk.on ?_
            exact Again.mk (2 + 1, (a0 :: a1 :: a :: V)) (own_back (HP_n (by simp only [List.length_cons] at g2 ⊢; omega) hf) (HP_l (by simp only [List.length_cons] at g2 ⊢; omega) hf) ⟨.inl (by omega), trivial, hl⟩ rfl ⟨rfl, rfl, rfl, rfl, rfl, rfl, rfl, rfl, trivial⟩ rfl rfl (Nat.le_refl 50)) ⟨by show 2 + 1 ≤ M; omega, g2, fun b hb => by simp only [List.mem_cons, List.not_mem_nil, or_false] at hb; rcases hb with rfl | rfl | rfl | hb; exact g3 _ (List.mem_cons_self ..); exact g3 _ (List.mem_cons_of_mem _ (List.mem_cons_self ..)); exact (by omega); exact g3 _ (List.mem_cons_of_mem _ (List.mem_cons_of_mem _ (List.mem_cons_of_mem _ (hb))))⟩ (by show M - (2 + 1) < M - 2; omega)
      rcases V with _ | ⟨a3, V⟩
      · simp only [List.length_cons, List.length_nil] at g2; omega
      rcases i with _ | i
      · have hal := g3 a3 (by simp)
        refine Wk.on ?_
        rw [decide_eq_true (show ((3 : Nat) : Int) < ((M : Nat) : Int) by omega)]
        refine Wk.on ?_
        refine Tr.loop (md := true) (X := Nat × List Int) (st := fun x => ⟨[(10, .c (.sl 40 0 M (some M))), (19, .c (.int .i64 (3 : Nat))), (20, .c (.int .i64 x.1)), (5, v5), (6, v6), (9, v9), (12, v12), (14, v14), (15, v15)], HP (a0 :: a1 :: a2 :: x.2 :: V) fx, 50, 150, 1⟩) (inv := fun x => x.1 ≤ a3.length ∧ x.2.length = a3.length) (μ := fun x => a3.length - x.1) (x0 := (0, a3)) (l := []) tok ⟨by omega, rfl⟩ ?_ ?_
        · exact own_back (HP_n (by simp only [List.length_cons] at g2 ⊢; omega) hf) (HP_l (by simp only [List.length_cons] at g2 ⊢; omega) hf) ⟨.inl (by omega), trivial, trivial, hl⟩ rfl ⟨rfl, rfl, rfl, rfl, rfl, rfl, rfl, rfl, rfl, trivial⟩ rfl rfl (Nat.le_refl 50)
        · rintro ⟨k, a⟩ ⟨k1, k2⟩
          dsimp only at k1 k2 ⊢
          by_cases hk : k < a.length
          · refine Wk.on ?_
            rw [decide_eq_true (show ((k : Nat) : Int) < ((a.length : Nat) : Int) by omega)]
            refine Wk.on ?_
            refine ⟨⟨rfl, by rw [Int.toNat_natCast, ints_len]; omega⟩, ?_⟩
            refine Wk.on ?_
            have hset : (ints a).set (((k : Nat) : Int).toNat * 1) (.int .i64 (-1)) = ints (a.set k (-1)) := by rw [Int.toNat_natCast, Nat.mul_one]; simp [ints]
            have hle : (a.set k (-1)).length = a.length := List.length_set
            rw [hset]
            refine Again.mk (k + 1, a.set k (-1)) (own_back (HP_n (by simp only [List.length_cons] at g2 ⊢; omega) hf) (HP_l (by simp only [List.length_cons] at g2 ⊢; omega) hf) ⟨.inl (by omega), trivial, trivial, hl⟩ (by simp only [HP, rg, rgC, hle]; rfl) ⟨rfl, rfl, rfl, rfl, rfl, rfl, rfl, rfl, rfl, trivial⟩ rfl rfl (Nat.le_refl 50)) ⟨by show k + 1 ≤ a3.length; omega, by rw [hle]; exact k2⟩ (by show a3.length - (k + 1) < a3.length - k; omega)
          · have hke : k = a.length := by omega
            subst hke
            refine Wk.on ?_
            rw [decide_eq_false (show ¬ ((a.length : Nat) : Int) < ((a.length : Nat) : Int) by omega)]
            refine Wk.on ?_
            intro _
            refine Wk.on ?_
            exact Again.mk (3 + 1, (a0 :: a1 :: a2 :: a :: V)) (own_back (HP_n (by simp only [List.length_cons] at g2 ⊢; omega) hf) (HP_l (by simp only [List.length_cons] at g2 ⊢; omega) hf) ⟨.inl (by omega), trivial, hl⟩ rfl ⟨rfl, rfl, rfl, rfl, rfl, rfl, rfl, rfl, trivial⟩ rfl rfl (Nat.le_refl 50)) ⟨by show 3 + 1 ≤ M; omega, g2, fun b hb => by simp only [List.mem_cons, List.not_mem_nil, or_false] at hb; rcases hb with rfl | rfl | rfl | rfl | hb; exact g3 _ (List.mem_cons_self ..); exact g3 _ (List.mem_cons_of_mem _ (List.mem_cons_self ..)); exact g3 _ (List.mem_cons_of_mem _ (List.mem_cons_of_mem _ (List.mem_cons_self ..))); exact (by omega); exact g3 _ (List.mem_cons_of_mem _ (List.mem_cons_of_mem _ (List.mem_cons_of_mem _ (List.mem_cons_of_mem _ (hb)))))⟩ (by show M - (3 + 1) < M - 3; omega)
      rcases V with _ | ⟨a4, V⟩
      · simp only [List.length_cons, List.length_nil] at g2; omega
      rcases i with _ | i
      · have hal := g3 a4 (by simp)
        refine Wk.on ?_
        rw [decide_eq_true (show ((4 : Nat) : Int) < ((M : Nat) : Int) by omega)]
        refine Wk.on ?_
        refine Tr.loop (md := true) (X := Nat × List Int) (st := fun x => ⟨[(10, .c (.sl 40 0 M (some M))), (19, .c (.int .i64 (4 : Nat))), (20, .c (.int .i64 x.1)), (5, v5), (6, v6), (9, v9), (12, v12), (14, v14), (15, v15)], HP (a0 :: a1 :: a2 :: a3 :: x.2 :: V) fx, 50, 150, 1⟩) (inv := fun x => x.1 ≤ a4.length ∧ x.2.length = a4.length) (μ := fun x => a4.length - x.1) (x0 := (0, a4)) (l := []) tok ⟨by omega, rfl⟩ ?_ ?_
        · exact own_back (HP_n (by simp only [List.length_cons] at g2 ⊢; omega) hf) (HP_l (by simp only [List.length_cons] at g2 ⊢; omega) hf) ⟨.inl (by omega), trivial, trivial, hl⟩ rfl ⟨rfl, rfl, rfl, rfl, rfl, rfl, rfl, rfl, rfl, trivial⟩ rfl rfl (Nat.le_refl 50)
        · rintro ⟨k, a⟩ ⟨k1, k2⟩
          dsimp only at k1 k2 ⊢
          by_cases hk : k < a.length
          · refine Wk.on ?_
            rw [decide_eq_true (show ((k : Nat) : Int) < ((a.length : Nat) : Int) by omega)]
            refine Wk.on ?_
            refine ⟨⟨rfl, by rw [Int.toNat_natCast, ints_len]; omega⟩, ?_⟩
            refine Wk.on ?_
            have hset : (ints a).set (((k : Nat) : Int).toNat * 1) (.int .i64 (-1)) = ints (a.set k (-1)) := by rw [Int.toNat_natCast, Nat.mul_one]; simp [ints]
            have hle : (a.set k (-1)).length = a.length := List.length_set
            rw [hset]
            refine Again.mk (k + 1, a.set k (-1)) (own_back (HP_n (by simp only [List.length_cons] at g2 ⊢; omega) hf) (HP_l (by simp only [List.length_cons] at g2 ⊢; omega) hf) ⟨.inl (by omega), trivial, trivial, hl⟩ (by simp only [HP, rg, rgC, hle]; rfl) ⟨rfl, rfl, rfl, rfl, rfl, rfl, rfl, rfl, rfl, trivial⟩ rfl rfl (Nat.le_refl 50)) ⟨by show k + 1 ≤ a4.length; omega, by rw [hle]; exact k2⟩ (by show a4.length - (k + 1) < a4.length - k; omega)
          · have hke : k = a.length := by omega
            subst hke
            refine Wk.on ?_
            rw [decide_eq_false (show ¬ ((a.length : Nat) : Int) < ((a.length : Nat) : Int) by omega)]
            refine Wk.on ?_
            intro _
            refine Wk.on ?_
            exact Again.mk (4 + 1, (a0 :: a1 :: a2 :: a3 :: a :: V)) (own_back (HP_n (by simp only [List.length_cons] at g2 ⊢; omega) hf) (HP_l (by simp only [List.length_cons] at g2 ⊢; omega) hf) ⟨.inl (by omega), trivial, hl⟩ rfl ⟨rfl, rfl, rfl, rfl, rfl, rfl, rfl, rfl, trivial⟩ rfl rfl (Nat.le_refl 50)) ⟨by show 4 + 1 ≤ M; omega, g2, fun b hb => by simp only [List.mem_cons, List.not_mem_nil, or_false] at hb; rcases hb with rfl | rfl | rfl | rfl | rfl | hb; exact g3 _ (List.mem_cons_self ..); exact g3 _ (List.mem_cons_of_mem _ (List.mem_cons_self ..)); exact g3 _ (List.mem_cons_of_mem _ (List.mem_cons_of_mem _ (List.mem_cons_self ..))); exact g3 _ (List.mem_cons_of_mem _ (List.mem_cons_of_mem _ (List.mem_cons_of_mem _ (List.mem_cons_self ..)))); exact (by omega); exact g3 _ (List.mem_cons_of_mem _ (List.mem_cons_of_mem _ (List.mem_cons_of_mem _ (List.mem_cons_of_mem _ (List.mem_cons_of_mem _ (hb))))))⟩ (by show M - (4 + 1) < M - 4; omega)
      rcases V with _ | ⟨a5, V⟩
      · simp only [List.length_cons, List.length_nil] at g2; omega
      rcases i with _ | i
      · have hal := g3 a5 (by simp)
        refine Wk.on ?_
        rw [decide_eq_true (show ((5 : Nat) : Int) < ((M : Nat) : Int) by omega)]
        refine Wk.on ?_
        refine Tr.loop (md := true) (X := Nat × List Int) (st := fun x => ⟨[(10, .c (.sl 40 0 M (some M))), (19, .c (.int .i64 (5 : Nat))), (20, .c (.int .i64 x.1)), (5, v5), (6, v6), (9, v9), (12, v12), (14, v14), (15, v15)], HP (a0 :: a1 :: a2 :: a3 :: a4 :: x.2 :: V) fx, 50, 150, 1⟩) (inv := fun x => x.1 ≤ a5.length ∧ x.2.length = a5.length) (μ := fun x => a5.length - x.1) (x0 := (0, a5)) (l := []) tok ⟨by omega, rfl⟩ ?_ ?_
        · exact own_back (HP_n (by simp only [List.length_cons] at g2 ⊢; omega) hf) (HP_l (by simp only [List.length_cons] at g2 ⊢; omega) hf) ⟨.inl (by omega), trivial, trivial, hl⟩ rfl ⟨rfl, rfl, rfl, rfl, rfl, rfl, rfl, rfl, rfl, trivial⟩ rfl rfl (Nat.le_refl 50)
        · rintro ⟨k, a⟩ ⟨k1, k2⟩
          dsimp only at k1 k2 ⊢
          by_cases hk : k < a.length
          · refine Wk.on ?_
            rw [decide_eq_true (show ((k : Nat) : Int) < ((a.length : Nat) : Int) by omega)]
            refine Wk.on ?_
            refine ⟨⟨rfl, by rw [Int.toNat_natCast, ints_len]; omega⟩, ?_⟩
            refine Wk.on ?_
            have hset : (ints a).set (((k : Nat) : Int).toNat * 1) (.int .i64 (-1)) = ints (a.set k (-1)) := by rw [Int.toNat_natCast, Nat.mul_one]; simp [ints]
            have hle : (a.set k (-1)).length = a.length := List.length_set
            rw [hset]
            refine Again.mk (k + 1, a.set k (-1)) (own_back (HP_n (by simp only [List.length_cons] at g2 ⊢; omega) hf) (HP_l (by simp only [List.length_cons] at g2 ⊢; omega) hf) ⟨.inl (by omega), trivial, trivial, hl⟩ (by simp only [HP, rg, rgC, hle]; rfl) ⟨rfl, rfl, rfl, rfl, rfl, rfl, rfl, rfl, rfl, trivial⟩ rfl rfl (Nat.le_refl 50)) ⟨by show k + 1 ≤ a5.length; omega, by rw [hle]; exact k2⟩ (by show a5.length - (k + 1) < a5.length - k; omega)
          · have hke : k = a.length := by omega
            subst hke
            refine Wk.on ?_
            rw [decide_eq_false (show ¬ ((a.length : Nat) : Int) < ((a.length : Nat) : Int) by omega)]
            refine Wk.on ?_
            intro _
            refine Wk.on ?_
            exact Again.mk (5 + 1, (a0 :: a1 :: a2 :: a3 :: a4 :: a :: V)) (own_back (HP_n (by simp only [List.length_cons] at g2 ⊢; omega) hf) (HP_l (by simp only [List.length_cons] at g2 ⊢; omega) hf) ⟨.inl (by omega), trivial, hl⟩ rfl ⟨rfl, rfl, rfl, rfl, rfl, rfl, rfl, rfl, trivial⟩ rfl rfl (Nat.le_refl 50)) ⟨by show 5 + 1 ≤ M; omega, g2, fun b hb => by simp only [List.mem_cons, List.not_mem_nil, or_false] at hb; rcases hb with rfl | rfl | rfl | rfl | rfl | rfl | hb; exact g3 _ (List.mem_cons_self ..); exact g3 _ (List.mem_cons_of_mem _ (List.mem_cons_self ..)); exact g3 _ (List.mem_cons_of_mem _ (List.mem_cons_of_mem _ (List.mem_cons_self ..))); exact g3 _ (List.mem_cons_of_mem _ (List.mem_cons_of_mem _ (List.mem_cons_of_mem _ (List.mem_cons_self ..)))); exact g3 _ (List.mem_cons_of_mem _ (List.mem_cons_of_mem _ (List.mem_cons_of_mem _ (List.mem_cons_of_mem _ (List.mem_cons_self ..))))); exact (by omega); exact g3 _ (List.mem_cons_of_mem _ (List.mem_cons_of_mem _ (List.mem_cons_of_mem _ (List.mem_cons_of_mem _ (List.mem_cons_of_mem _ (List.mem_cons_of_mem _ (hb)))))))⟩ (by show M - (5 + 1) < M - 5; omega)
      rcases V with _ | ⟨a6, V⟩
      · simp only [List.length_cons, List.length_nil] at g2; omega
      rcases i with _ | i
      · have hal := g3 a6 (by simp)
        refine Wk.on ?_
        rw [decide_eq_true (show ((6 : Nat) : Int) < ((M : Nat) : Int) by omega)]
        refine Wk.on ?_
        refine Tr.loop (md := true) (X := Nat × List Int) (st := fun x => ⟨[(10, .c (.sl 40 0 M (some M))), (19, .c (.int .i64 (6 : Nat))), (20, .c (.int .i64 x.1)), (5, v5), (6, v6), (9, v9), (12, v12), (14, v14), (15, v15)], HP (a0 :: a1 :: a2 :: a3 :: a4 :: a5 :: x.2 :: V) fx, 50, 150, 1⟩) (inv := fun x => x.1 ≤ a6.length ∧ x.2.length = a6.length) (μ := fun x => a6.length - x.1) (x0 := (0, a6)) (l := []) tok ⟨by omega, rfl⟩ ?_ ?_
        · exact own_back (HP_n (by simp only [List.length_cons] at g2 ⊢; omega) hf) (HP_l (by simp only [List.length_cons] at g2 ⊢; omega) hf) ⟨.inl (by omega), trivial, trivial, hl⟩ rfl ⟨rfl, rfl, rfl, rfl, rfl, rfl, rfl, rfl, rfl, trivial⟩ rfl rfl (Nat.le_refl 50)
        · rintro ⟨k, a⟩ ⟨k1, k2⟩
          dsimp only at k1 k2 ⊢
          by_cases hk : k < a.length
          · refine Wk.on ?_
            rw [decide_eq_true (show ((k : Nat) : Int) < ((a.length : Nat) : Int) by omega)]
            refine Wk.on ?_
            refine ⟨⟨rfl, by rw [Int.toNat_natCast, ints_len]; omega⟩, ?_⟩
            refine Wk.on ?_
            have hset : (ints a).set (((k : Nat) : Int).toNat * 1) (.int .i64 (-1)) = ints (a.set k (-1)) := by rw [Int.toNat_natCast, Nat.mul_one]; simp [ints]
            have hle : (a.set k (-1)).length = a.length := List.length_set
            rw [hset]
            refine Again.mk (k + 1, a.set k (-1)) (own_back (HP_n (by simp only [List.length_cons] at g2 ⊢; omega) hf) (HP_l (by simp only [List.length_cons] at g2 ⊢; omega) hf) ⟨.inl (by omega), trivial, trivial, hl⟩ (by simp only [HP, rg, rgC, hle]; rfl) ⟨rfl, rfl, rfl, rfl, rfl, rfl, rfl, rfl, rfl, trivial⟩ rfl rfl (Nat.le_refl 50)) ⟨by show k + 1 ≤ a6.length; omega, by rw [hle]; exact k2⟩ (by show a6.length - (k + 1) < a6.length - k; omega)
          · have hke : k = a.length := by omega
            subst hke
            refine Wk.on ?_
            rw [decide_eq_false (show ¬ ((a.length : Nat) : Int) < ((a.length : Nat) : Int) by omega)]
            refine Wk.on ?_
            intro _
            refine Wk.on ?_
            exact Again.mk (6 + 1, (a0 :: a1 :: a2 :: a3 :: a4 :: a5 :: a :: V)) (own_back (HP_n (by simp only [List.length_cons] at g2 ⊢; omega) hf) (HP_l (by simp only [List.length_cons] at g2 ⊢; omega) hf) ⟨.inl (by omega), trivial, hl⟩ rfl ⟨rfl, rfl, rfl, rfl, rfl, rfl, rfl, rfl, trivial⟩ rfl rfl (Nat.le_refl 50)) ⟨by show 6 + 1 ≤ M; omega, g2, fun b hb => by simp only [List.mem_cons, List.not_mem_nil, or_false] at hb; rcases hb with rfl | rfl | rfl | rfl | rfl | rfl | rfl | hb; exact g3 _ (List.mem_cons_self ..); exact g3 _ (List.mem_cons_of_mem _ (List.mem_cons_self ..)); exact g3 _ (List.mem_cons_of_mem _ (List.mem_cons_of_mem _ (List.mem_cons_self ..))); exact g3 _ (List.mem_cons_of_mem _ (List.mem_cons_of_mem _ (List.mem_cons_of_mem _ (List.mem_cons_self ..)))); exact g3 _ (List.mem_cons_of_mem _ (List.mem_cons_of_mem _ (List.mem_cons_of_mem _ (List.mem_cons_of_mem _ (List.mem_cons_self ..))))); exact g3 _ (List.mem_cons_of_mem _ (List.mem_cons_of_mem _ (List.mem_cons_of_mem _ (List.mem_cons_of_mem _ (List.mem_cons_of_mem _ (List.mem_cons_self ..)))))); exact (by omega); exact g3 _ (List.mem_cons_of_mem _ (List.mem_cons_of_mem _ (List.mem_cons_of_mem _ (List.mem_cons_of_mem _ (List.mem_cons_of_mem _ (List.mem_cons_of_mem _ (List.mem_cons_of_mem _ (hb))))))))⟩ (by show M - (6 + 1) < M - 6; omega)
      rcases V with _ | ⟨a7, V⟩
      · simp only [List.length_cons, List.length_nil] at g2; omega
      rcases i with _ | i
      · have hal := g3 a7 (by simp)
        refine Wk.on ?_
        rw [decide_eq_true (show ((7 : Nat) : Int) < ((M : Nat) : Int) by omega)]
        refine Wk.on ?_
        refine Tr.loop (md := true) (X := Nat × List Int) (st := fun x => ⟨[(10, .c (.sl 40 0 M (some M))), (19, .c (.int .i64 (7 : Nat))), (20, .c (.int .i64 x.1)), (5, v5), (6, v6), (9, v9), (12, v12), (14, v14), (15, v15)], HP (a0 :: a1 :: a2 :: a3 :: a4 :: a5 :: a6 :: x.2 :: V) fx, 50, 150, 1⟩) (inv := fun x => x.1 ≤ a7.length ∧ x.2.length = a7.length) (μ := fun x => a7.length - x.1) (x0 := (0, a7)) (l := []) tok ⟨by omega, rfl⟩ ?_ ?_
        · exact own_back (HP_n (by simp only [List.length_cons] at g2 ⊢; omega) hf) (HP_l (by simp only [List.length_cons] at g2 ⊢; omega) hf) ⟨.inl (by omega), trivial, trivial, hl⟩ rfl ⟨rfl, rfl, rfl, rfl, rfl, rfl, rfl, rfl, rfl, trivial⟩ rfl rfl (Nat.le_refl 50)
        · rintro ⟨k, a⟩ ⟨k1, k2⟩
          dsimp only at k1 k2 ⊢
          by_cases hk : k < a.length
          · refine Wk.on ?_
            rw [decide_eq_true (show ((k : Nat) : Int) < ((a.length : Nat) : Int) by omega)]
            refine Wk.on ?_
            refine ⟨⟨rfl, by rw [Int.toNat_natCast, ints_len]; omega⟩, ?_⟩
            refine Wk.on ?_
            have hset : (ints a).set (((k : Nat) : Int).toNat * 1) (.int .i64 (-1)) = ints (a.set k (-1)) := by rw [Int.toNat_natCast, Nat.mul_one]; simp [ints]
            have hle : (a.set k (-1)).length = a.length := List.length_set
            rw [hset]
            refine Again.mk (k + 1, a.set k (-1)) (own_back (HP_n (by simp only [List.length_cons] at g2 ⊢; omega) hf) (HP_l (by simp only [List.length_cons] at g2 ⊢; omega) hf) ⟨.inl (by omega), trivial, trivial, hl⟩ (by simp only [HP, rg, rgC, hle]; rfl) ⟨rfl, rfl, rfl, rfl, rfl, rfl, rfl, rfl, rfl, trivial⟩ rfl rfl (Nat.le_refl 50)) ⟨by show k + 1 ≤ a7.length; omega, by rw [hle]; exact k2⟩ (by show a7.length - (k + 1) < a7.length - k; omega)
          · have hke : k = a.length := by omega
            subst hke
            refine Wk.on ?_
            rw [decide_eq_false (show ¬ ((a.length : Nat) : Int) < ((a.length : Nat) : Int) by omega)]
            refine Wk.on ?_
            intro _
            refine Wk.on ?_
            exact Again.mk (7 + 1, (a0 :: a1 :: a2 :: a3 :: a4 :: a5 :: a6 :: a :: V)) (own_back (HP_n (by simp only [List.length_cons] at g2 ⊢; omega) hf) (HP_l (by simp only [List.length_cons] at g2 ⊢; omega) hf) ⟨.inl (by omega), trivial, hl⟩ rfl ⟨rfl, rfl, rfl, rfl, rfl, rfl, rfl, rfl, trivial⟩ rfl rfl (Nat.le_refl 50)) ⟨by show 7 + 1 ≤ M; omega, g2, fun b hb => by simp only [List.mem_cons, List.not_mem_nil, or_false] at hb; rcases hb with rfl | rfl | rfl | rfl | rfl | rfl | rfl | rfl | hb; exact g3 _ (List.mem_cons_self ..); exact g3 _ (List.mem_cons_of_mem _ (List.mem_cons_self ..)); exact g3 _ (List.mem_cons_of_mem _ (List.mem_cons_of_mem _ (List.mem_cons_self ..))); exact g3 _ (List.mem_cons_of_mem _ (List.mem_cons_of_mem _ (List.mem_cons_of_mem _ (List.mem_cons_self ..)))); exact g3 _ (List.mem_cons_of_mem _ (List.mem_cons_of_mem _ (List.mem_cons_of_mem _ (List.mem_cons_of_mem _ (List.mem_cons_self ..))))); exact g3 _ (List.mem_cons_of_mem _ (List.mem_cons_of_mem _ (List.mem_cons_of_mem _ (List.mem_cons_of_mem _ (List.mem_cons_of_mem _ (List.mem_cons_self ..)))))); exact g3 _ (List.mem_cons_of_mem _ (List.mem_cons_of_mem _ (List.mem_cons_of_mem _ (List.mem_cons_of_mem _ (List.mem_cons_of_mem _ (List.mem_cons_of_mem _ (List.mem_cons_self ..))))))); exact (by omega); exact g3 _ (List.mem_cons_of_mem _ (List.mem_cons_of_mem _ (List.mem_cons_of_mem _ (List.mem_cons_of_mem _ (List.mem_cons_of_mem _ (List.mem_cons_of_mem _ (List.mem_cons_of_mem _ (List.mem_cons_of_mem _ (hb)))))))))⟩ (by show M - (7 + 1) < M - 7; omega)
      omega
    · have hie : i = M := by omega
      subst hie
      refine Wk.on ?_
      rw [decide_eq_false (show ¬ ((i : Nat) : Int) < ((i : Nat) : Int) by omega)]
      refine Wk.on ?_
      intro _
      exact hQ V g2
end Go.Proofs.YtfphkpdobbffeaaDoor
