/-
  Plain law: who wins, without shortcuts.
-/
import Derived.Test.YtfphkpdobbffeaaDoorSw5
import Derived.Test.YtfphkpdobbffeaaDoorAh6
import Derived.Laws.RangeString
import Derived.Test.YtfphkpdobbffeaaDoorSw1
import Derived.Test.YtfphkpdobbffeaaDoorSw2
set_option linter.unusedSimpArgs false
set_option linter.unusedVariables false
namespace Go.Proofs.YtfphkpdobbffeaaDoor
open Go Go.AH
set_option maxRecDepth 100000
set_option maxHeartbeats 1000000

theorem mem_iff {n : Nat} (hn : n < 1024) {y : Int} : y ∈ mem n ↔ ∃ i : Nat, y = (i : Int) ∧ n.testBit i = true := by
  constructor
  · intro h
    obtain ⟨i, hi, rfl⟩ := List.mem_map.1 h
    exact ⟨i, rfl, (List.mem_filter.1 hi).2⟩
  · rintro ⟨i, rfl, hi⟩
    exact List.mem_map.2 ⟨i, List.mem_filter.2 ⟨List.mem_range.2 (lt_len (k := 10) (by omega) hi), hi⟩, rfl⟩
end Go.Proofs.YtfphkpdobbffeaaDoor

/-
  Contracts: positions as strings, for the reference.
-/
namespace Go.Proofs.YtfphkpdobbffeaaDoor
open Go Go.AH
set_option maxRecDepth 100000
set_option maxHeartbeats 1000000

def codeN : Nat → Nat → Nat → Nat
  | 0, _, _ => 0
  | n + 1, f, k => 3 * codeN n f k + if f.testBit n then 0 else if k.testBit n then 1 else 2
theorem codeN_lt (f k : Nat) : ∀ n, codeN n f k < 3 ^ n
  | 0 => by simp [codeN]
  | n + 1 => by
    have := codeN_lt f k n
    rw [codeN, Nat.pow_succ]
    split
    · omega
    · split <;> omega
end Go.Proofs.YtfphkpdobbffeaaDoor

/-
  Contracts: the free wires of a position, the reference's Joined, Known, Put.
-/
namespace Go.Proofs.YtfphkpdobbffeaaDoor
open Go Go.AH
set_option maxRecDepth 100000
set_option maxHeartbeats 1000000

end Go.Proofs.YtfphkpdobbffeaaDoor

/-
  Contracts: the room for what is known, the free wires, a wire put.
-/
namespace Go.Proofs.YtfphkpdobbffeaaDoor
open Go Go.AH
set_option maxRecDepth 100000
set_option maxHeartbeats 1000000

end Go.Proofs.YtfphkpdobbffeaaDoor

/-
  Contract: the free wires of a position, for the reference.
-/
namespace Go.Proofs.YtfphkpdobbffeaaDoor
open Go Go.AH
set_option maxRecDepth 100000
set_option maxHeartbeats 1000000

end Go.Proofs.YtfphkpdobbffeaaDoor

/-
  Contract: a wire put into a position, for the reference.
-/
namespace Go.Proofs.YtfphkpdobbffeaaDoor
open Go Go.AH
set_option maxRecDepth 100000
set_option maxHeartbeats 1000000

end Go.Proofs.YtfphkpdobbffeaaDoor

/-
  Plain law: positions with a wire cut or kept; the number of a position tells it.
-/
namespace Go.Proofs.YtfphkpdobbffeaaDoor
open Go Go.AH
set_option maxRecDepth 100000
set_option maxHeartbeats 1000000

theorem codeN_inj {f k f' k' : Nat} : ∀ n, codeN n f k = codeN n f' k' → ∀ i, i < n → f.testBit i = f'.testBit i ∧ (f.testBit i = false → k.testBit i = k'.testBit i)
  | 0, _, i, hi => by omega
  | n + 1, h, i, hi => by
    simp only [codeN] at h
    have hq : codeN n f k = codeN n f' k' ∧ (if f.testBit n then 0 else if k.testBit n then 1 else 2) = (if f'.testBit n then 0 else if k'.testBit n then 1 else 2) := by
      have h1 : (if f.testBit n then 0 else if k.testBit n then 1 else 2) < 3 := by split <;> (try split) <;> omega
      have h2 : (if f'.testBit n then 0 else if k'.testBit n then 1 else 2) < 3 := by split <;> (try split) <;> omega
      omega
    by_cases e : i = n
    · subst e
      have := hq.2
      revert this
      cases f.testBit i <;> cases f'.testBit i <;> cases k.testBit i <;> cases k'.testBit i <;> simp
    · exact codeN_inj n hq.1 i (by omega)
theorem pos_eq {n f k f' k' : Nat} (hf : f < 2 ^ n) (hk : k < 2 ^ n) (hf' : f' < 2 ^ n) (hk' : k' < 2 ^ n) (hd : ∀ i, f.testBit i = true → k.testBit i = false) (hd' : ∀ i, f'.testBit i = true → k'.testBit i = false) (h : codeN n f k = codeN n f' k') : f = f' ∧ k = k' := by
  have hi := codeN_inj n h
  have big : ∀ (a i : Nat), a < 2 ^ n → ¬ i < n → a.testBit i = false := fun a i ha hn => by
    cases h : a.testBit i with
    | false => rfl
    | true => exact absurd (lt_len ha h) hn
  refine ⟨Nat.eq_of_testBit_eq fun i => ?_, Nat.eq_of_testBit_eq fun i => ?_⟩
  · by_cases e : i < n
    · exact (hi i e).1
    · rw [big f i hf e, big f' i hf' e]
  · by_cases e : i < n
    · obtain ⟨a, b⟩ := hi i e
      cases h : f.testBit i with
      | true => rw [hd i h, hd' i (by rw [← a]; exact h)]
      | false => exact b h
    · rw [big k i hk e, big k' i hk' e]
def KI (g : Gm) (L : List Int) : Prop := L.length = 2 * 3 ^ g.ws.length ∧ ∀ f k c, f < 2 ^ g.ws.length → k < 2 ^ g.ws.length → (∀ i, f.testBit i = true → k.testBit i = false) →
  L.getD (2 * codeN g.ws.length f k + c.toNat) 0 = 0 ∨ L.getD (2 * codeN g.ws.length f k + c.toNat) 0 = if W g f k c then 1 else 2
theorem KI.zero (g : Gm) : KI g (List.replicate (2 * 3 ^ g.ws.length) 0) := ⟨by simp, fun f k c _ _ _ => .inl (by
  simp only [List.getD_eq_getElem?_getD, List.getElem?_replicate]
  split <;> rfl)⟩
theorem KI.set {g : Gm} {L : List Int} (h : KI g L) {f k : Nat} {c : Bool} (hf : f < 2 ^ g.ws.length) (hk : k < 2 ^ g.ws.length) (hd : ∀ i, f.testBit i = true → k.testBit i = false) : KI g (L.set (2 * codeN g.ws.length f k + c.toNat) (if W g f k c then 1 else 2)) := by
  refine ⟨by rw [List.length_set]; exact h.1, fun f' k' c' hf' hk' hd' => ?_⟩
  have hl := codeN_lt f k g.ws.length
  have hc : c.toNat < 2 := by cases c <;> decide
  have hc' : c'.toNat < 2 := by cases c' <;> decide
  simp only [List.getD_eq_getElem?_getD, List.getElem?_set]
  by_cases e : 2 * codeN g.ws.length f k + c.toNat = 2 * codeN g.ws.length f' k' + c'.toNat
  · rw [if_pos e, if_pos (by rw [h.1]; omega)]
    obtain ⟨rfl, rfl⟩ := pos_eq hf hk hf' hk' hd hd' (by omega)
    have : c = c' := by
      have : c.toNat = c'.toNat := by omega
      revert this; cases c <;> cases c' <;> simp
    subst this
    exact .inr rfl
  · rw [if_neg e, ← List.getD_eq_getElem?_getD]
    exact h.2 f' k' c' hf' hk' hd'
end Go.Proofs.YtfphkpdobbffeaaDoor

/-
  Contract: who wins, by the reference.
-/
namespace Go.Proofs.YtfphkpdobbffeaaDoor
open Go Go.AH
set_option maxRecDepth 100000
set_option maxHeartbeats 1000000

end Go.Proofs.YtfphkpdobbffeaaDoor

/-
  Contract: the kind of a game, by the reference; the law SwitchKinds, as a contract.
-/
namespace Go.Proofs.YtfphkpdobbffeaaDoor
open Go Go.AH
set_option maxRecDepth 100000
set_option maxHeartbeats 1000000

end Go.Proofs.YtfphkpdobbffeaaDoor

/-
  Contracts: whether a string is a position, by the program.
-/
namespace Go.Proofs.YtfphkpdobbffeaaDoor
open Go Go.AH
set_option maxRecDepth 100000
set_option maxHeartbeats 1000000

def bs (l : List UInt8) : ByteArray := ⟨l.toArray⟩
end Go.Proofs.YtfphkpdobbffeaaDoor

/-
  Contracts: strings.Trim at the three signs; CheckPosition.
-/
namespace Go.Proofs.YtfphkpdobbffeaaDoor
open Go Go.AH
set_option maxRecDepth 100000
set_option maxHeartbeats 1000000

end Go.Proofs.YtfphkpdobbffeaaDoor

/-
  Contracts: a position, as sets; read.
-/
namespace Go.Proofs.YtfphkpdobbffeaaDoor
open Go Go.AH
set_option maxRecDepth 100000
set_option maxHeartbeats 1000000

end Go.Proofs.YtfphkpdobbffeaaDoor

/-
  Contracts: Position by the reference; the position of any string.
-/
namespace Go.Proofs.YtfphkpdobbffeaaDoor
open Go Go.AH
set_option maxRecDepth 100000
set_option maxHeartbeats 1000000

end Go.Proofs.YtfphkpdobbffeaaDoor

/-
  Contract: the position of any string.
-/
namespace Go.Proofs.YtfphkpdobbffeaaDoor
open Go Go.AH
set_option maxRecDepth 100000
set_option maxHeartbeats 1000000

end Go.Proofs.YtfphkpdobbffeaaDoor

/-
  Contracts: Joined, Wins, Best, of any string.
-/
namespace Go.Proofs.YtfphkpdobbffeaaDoor
open Go Go.AH
set_option maxRecDepth 100000
set_option maxHeartbeats 1000000

end Go.Proofs.YtfphkpdobbffeaaDoor

/-
  Contracts at games without wires; the law SwitchPositions, as a contract.
-/
namespace Go.Proofs.YtfphkpdobbffeaaDoor
open Go Go.AH
set_option maxRecDepth 100000
set_option maxHeartbeats 1000000

end Go.Proofs.YtfphkpdobbffeaaDoor

/-
  Plain law: a tree on some places, by both.
-/
namespace Go.Proofs.YtfphkpdobbffeaaDoor
open Go Go.AH
set_option maxRecDepth 100000
set_option maxHeartbeats 1000000

theorem scan_gen (l : List Int) (pl n : Nat) : ∀ f k (first : Int), f + k = n → 0 ≤ first → (scanF l pl f k first = true ↔ ∀ j, k ≤ j → j < n → pl.testBit j = true → l.getD j 0 = first)
  | 0, k, first, h, _ => by
    simp only [scanF, true_iff]
    exact fun j h1 h2 => by omega
  | f + 1, k, first, h, h0 => by
    have hb := bit_test pl k
    have hb1 := bit_01 pl k
    rw [scanF]
    split
    · rename_i e
      rw [scan_gen l pl n f (k + 1) first (by omega) h0]
      constructor
      · intro h j h1 h2 h3
        by_cases hj : j = k
        · subst hj; rw [hb.2 h3] at e; omega
        · exact h j (by omega) h2 h3
      · exact fun h j h1 h2 => h j (by omega) h2
    · rename_i e
      simp only [if_neg (show ¬ first < 0 by omega)]
      split
      · rename_i e
        rw [scan_gen l pl n f (k + 1) first (by omega) h0]
        constructor
        · intro h j h1 h2 h3
          by_cases hj : j = k
          · rw [hj]; exact e
          · exact h j (by omega) h2 h3
        · exact fun h j h1 h2 => h j (by omega) h2
      · rename_i e2
        simp only [Bool.false_eq_true, false_iff]
        exact fun h => e2 (h k (by omega) (by omega) (hb.1 (by omega)))
theorem scan_start (l : List Int) (pl n : Nat) (hl : ∀ i, i < n → 0 ≤ l.getD i 0) : ∀ f k, f + k = n → (scanF l pl f k (-1) = true ↔ ∀ i j, k ≤ i → i < n → k ≤ j → j < n → pl.testBit i = true → pl.testBit j = true → l.getD i 0 = l.getD j 0)
  | 0, k, h => by
    simp only [scanF, true_iff]
    exact fun i j h1 h2 => by omega
  | f + 1, k, h => by
    have hb := bit_test pl k
    have hb1 := bit_01 pl k
    rw [scanF]
    split
    · rename_i e
      rw [scan_start l pl n hl f (k + 1) (by omega)]
      have ne : ∀ i, pl.testBit i = true → i ≠ k := fun i hi e2 => by subst e2; rw [hb.2 hi] at e; omega
      constructor
      · intro h i j h1 h2 h3 h4 h5 h6
        exact h i j (by have := ne i h5; omega) h2 (by have := ne j h6; omega) h4 h5 h6
      · exact fun h i j h1 h2 h3 h4 => h i j (by omega) h2 (by omega) h4
    · rename_i e
      simp only [show (-1 : Int) < 0 from by decide, if_true]
      rw [scan_gen l pl n f (k + 1) _ (by omega) (hl k (by omega))]
      have hk := hb.1 (by omega)
      constructor
      · intro h i j h1 h2 h3 h4 h5 h6
        have key : ∀ i, k ≤ i → i < n → pl.testBit i = true → l.getD i 0 = l.getD k 0 := fun i h1 h2 h5 => by
          by_cases e : i = k
          · rw [e]
          · exact h i (by omega) h2 h5
        rw [key i h1 h2 h5, key j h3 h4 h6]
      · exact fun h j h1 h2 h3 => h j k (by omega) h2 (by omega) (by omega) h3 hk
theorem countP_split (p q : Nat → Bool) : ∀ l : List Nat, l.countP p = l.countP (fun u => p u && q u) + l.countP (fun u => p u && !q u)
  | [] => rfl
  | a :: l => by
    simp only [List.countP_cons, countP_split p q l]
    cases p a <;> cases q a <;> simp <;> omega
theorem pop_cnt {pl n : Nat} (hn : n ≤ 10) (h : pl < 2 ^ n) : (List.range n).countP pl.testBit = pop pl := by
  rw [pop, memN, range_filter _ 10 hn fun i hi => by
    cases h2 : pl.testBit i with
    | false => rfl
    | true => have := lt_len h h2; omega, List.countP_eq_length_filter]
theorem cnt_is (r : Nat) : ∀ n, (List.range n).countP (fun u => decide (u = r)) = if r < n then 1 else 0
  | 0 => by simp
  | n + 1 => by
    have e1 : [n].countP (fun u => decide (u = r)) = if n = r then 1 else 0 := by simp [List.countP_cons]
    rw [List.range_succ, List.countP_append, cnt_is r n, e1]
    split <;> split <;> split <;> omega
def oneG (xs : List Int) (pl : Nat) : Prop := ∀ u v, pl.testBit u = true → pl.testBit v = true → root xs u = root xs v
def rootsIn (xs : List Int) (pl n : Nat) : Nat := (List.range n).countP fun u => decide (root xs u = u) && pl.testBit u
theorem rootsIn_one {xs : List Int} (h : Grp xs) {pl n : Nat} (hn : n ≤ 8) (hpl : pl < 2 ^ n) (h0 : pl ≠ 0) (hL : ∀ u, u < 8 → pl.testBit u = false → ∀ v, v < 8 → v ≠ u → root xs v ≠ u) : rootsIn xs pl n = 1 ↔ oneG xs pl := by
  have inn : ∀ u, pl.testBit u = true → u < n := fun u hu => lt_len hpl hu
  have rin : ∀ u, pl.testBit u = true → pl.testBit (root xs u) = true := fun u hu => by
    have hu8 := inn u hu
    have hr := root_le h (show u < 8 by omega)
    cases e : pl.testBit (root xs u) with
    | true => rfl
    | false =>
      exact absurd rfl (hL (root xs u) (by omega) e u (by omega) (fun e2 => by rw [← e2, hu] at e; cases e))
  constructor
  · intro hk u v hu hv
    have hu8 := inn u hu
    have hv8 := inn v hv
    have hru := root_le h (show u < 8 by omega)
    have hrv := root_le h (show v < 8 by omega)
    have hm := cnt_rm (fun u => decide (root xs u = u) && pl.testBit u) (root xs u) (by simp [root_root h (show u < 8 by omega), rin u hu]) n
    rw [if_pos (by omega)] at hm
    unfold rootsIn at hk
    have hz : (List.range n).countP (fun w => (decide (root xs w = w) && pl.testBit w) && decide (w ≠ root xs u)) = 0 := by omega
    rw [List.countP_eq_zero] at hz
    have := hz (root xs v) (List.mem_range.2 (by omega))
    rw [root_root h (by omega), rin v hv] at this
    simp at this
    exact this.symm
  · intro ho
    obtain ⟨u0, hu0⟩ : ∃ u0, pl.testBit u0 = true := Nat.exists_testBit_of_ne_zero h0
    have hu8 := inn u0 hu0
    have hr0 := root_le h (show u0 < 8 by omega)
    unfold rootsIn
    rw [List.countP_congr (q := fun u => decide (u = root xs u0)) fun u hu => ?_, cnt_is, if_pos (by omega)]
    simp only [Bool.and_eq_true, decide_eq_true_eq]
    constructor
    · rintro ⟨h1, h2⟩
      rw [← h1]; exact ho u u0 h2 hu0
    · rintro rfl
      exact ⟨root_root h (by omega), rin u0 hu0⟩
theorem tree_pl {g : Gm} (hg : g.ok) {b pl : Nat} (hb : b < 2 ^ g.ws.length) (hpl : pl < 2 ^ g.n) (h2 : 2 ≤ pop pl) : isTreeB g b pl = treeR g b pl := by
  have h8 := hg.n8
  have hl10 := hg.len
  have hG : Grp (keptL g b) := Grp.fold hg (mem b) _ Grp.alone fun y hy => (mem_lt hl10 hb hy).2
  have hac := acy_comps hg (mem b) (aloneSt 8) Grp.alone fun y hy => (mem_lt hl10 hb hy).2
  rw [show (mem b).foldl (joinF g) (aloneSt 8) = keptL g b from rfl, comps_alone h8, show (mem b).length = pop b from by simp [mem, pop]] at hac
  have hlab := labels hg b g.ws.length (Nat.le_refl _)
  rw [← kept_eq hg hb] at hlab
  have hp0 : pl ≠ 0 := fun e => by subst e; revert h2; decide
  have hp2 : 2 ^ g.ws.length ≤ 1024 := Nat.pow_le_pow_right (by omega) hl10
  have hpc := pop_cnt (show g.n ≤ 10 by omega) hpl
  have tch : ∀ u, u < 8 → (mem b).any (endOf g u) = false → root (keptL g b) u = u ∧ ∀ v, v < 8 → v ≠ u → root (keptL g b) v ≠ u := fun u hu hf =>
    lone hg hu (mem b) (aloneSt 8) Grp.alone (fun y hy => (mem_lt hl10 hb hy).2) (fun y hy => by
      cases h : endOf g u y with
      | false => rfl
      | true => rw [List.any_eq_false] at hf; exact absurd h (hf y hy)) (alone_root (by omega)) (fun v hv hne => by rw [alone_root hv]; exact hne)
  have hpb : ∀ u, (placesN g b).testBit u = (mem b).any (endOf g u) := fun u => by rw [placesN, places_bit, Nat.zero_testBit, Bool.false_or]
  -- the groups, counted
  have cnt : (∀ u, u < 8 → pl.testBit u = false → (mem b).any (endOf g u) = false) → comps (keptL g b) g.n + pop pl = rootsIn (keptL g b) pl g.n + g.n := fun H => by
    have e1 := countP_split (fun u => decide (root (keptL g b) u = u)) pl.testBit (List.range g.n)
    have e2 : (List.range g.n).countP (fun u => decide (root (keptL g b) u = u) && !pl.testBit u) = (List.range g.n).countP (fun u => true && !pl.testBit u) := List.countP_congr fun u hu => by
      have hu8 := List.mem_range.1 hu
      cases e : pl.testBit u with
      | true => simp
      | false => simp [(tch u (by omega) (H u (by omega) e)).1]
    have e3 := countP_split (fun _ => true) pl.testBit (List.range g.n)
    have e4 : (List.range g.n).countP (fun u => true && pl.testBit u) = pop pl := by rw [← hpc]; exact List.countP_congr fun u _ => by simp
    have e5 : (List.range g.n).countP (fun _ => true) = g.n := by simp
    unfold comps rootsIn
    rw [e1, e2]
    omega
  have one := fun (H : ∀ u, u < 8 → pl.testBit u = false → (mem b).any (endOf g u) = false) => rootsIn_one hG h8 hpl hp0 (fun u hu hf v hv hne => (tch u hu (H u hu hf)).2 v hv hne)
  have hsc : scanF (grpR g b g.ws.length) pl g.n 0 (-1) = true ↔ oneG (keptL g b) pl := by
    rw [scan_start _ _ g.n (fun i hi => by rw [hlab i hi]; omega) g.n 0 (by omega)]
    constructor
    · intro h u v hu hv
      have hu8 := lt_len hpl hu
      have hv8 := lt_len hpl hv
      have := h u v (by omega) hu8 (by omega) hv8 hu hv
      rw [hlab u hu8, hlab v hv8] at this
      omega
    · intro h i j _ h1 _ h2 h3 h4
      rw [hlab i h1, hlab j h2, h i j h3 h4]
  have wok : (∀ i, i < g.ws.length → wOk g b pl i = true) ↔ ∀ u, (mem b).any (endOf g u) = true → pl.testBit u = true := by
    constructor
    · intro h u hu
      obtain ⟨y, hy, he⟩ := List.any_eq_true.1 hu
      obtain ⟨i, rfl, hi⟩ := (mem_iff (by omega)).1 hy
      have hil := lt_len hb hi
      have := h i hil
      rw [wOk, (bit_test b i).2 hi] at this
      simp only [endOf, Int.toNat_natCast, Bool.or_eq_true, decide_eq_true_eq] at he
      obtain ⟨w1, hw1⟩ : ∃ w, w = (g.ws.getD i (0, 0)).1 := ⟨_, rfl⟩
      obtain ⟨w2, hw2⟩ : ∃ w, w = (g.ws.getD i (0, 0)).2 := ⟨_, rfl⟩
      rw [← hw1, ← hw2] at this he
      simp at this
      have b1 := bit_01 pl w1
      have b2 := bit_01 pl w2
      rcases he with rfl | rfl
      · exact (bit_test _ _).1 (by omega)
      · exact (bit_test _ _).1 (by omega)
    · intro h i hi
      rw [wOk]
      cases hbi : b.testBit i with
      | false =>
        have : ¬ bit b i = 1 := fun e => by rw [(bit_test b i).1 e] at hbi; cases hbi
        rw [decide_eq_false this]; rfl
      | true =>
        have hm : (i : Int) ∈ mem b := (mem_iff (by omega)).2 ⟨i, rfl, hbi⟩
        have k1 := h (g.ws.getD i (0, 0)).1 (List.any_eq_true.2 ⟨_, hm, by simp [endOf]⟩)
        have k2 := h (g.ws.getD i (0, 0)).2 (List.any_eq_true.2 ⟨_, hm, by simp [endOf]⟩)
        rw [← bit_test] at k1 k2
        rw [k1, k2]; simp
  rw [Bool.eq_iff_iff]
  simp only [isTreeB, treeR, Bool.and_eq_true, decide_eq_true_eq, hac.2, hsc, wok]
  constructor
  · rintro ⟨⟨h3, h4⟩, h5⟩
    have H : ∀ u, u < 8 → pl.testBit u = false → (mem b).any (endOf g u) = false := fun u _ hu => by rw [← hpb, h3]; exact hu
    have hc := cnt H
    exact ⟨⟨fun u hu => by rw [← hpb, h3] at hu; exact hu, (one H).1 (by omega)⟩, h4⟩
  · rintro ⟨⟨h3, h4⟩, h5⟩
    have H : ∀ u, u < 8 → pl.testBit u = false → (mem b).any (endOf g u) = false := fun u _ hu => by
      cases e : (mem b).any (endOf g u) with
      | false => rfl
      | true => rw [h3 u e] at hu; cases hu
    have hc := cnt H
    have hk := (one H).2 h4
    refine ⟨⟨Nat.eq_of_testBit_eq fun u => ?_, h5⟩, by omega⟩
    rw [hpb]
    cases e : pl.testBit u with
    | false =>
      cases e2 : (mem b).any (endOf g u) with
      | false => rfl
      | true => rw [h3 u e2] at e; cases e
    | true =>
      cases e2 : (mem b).any (endOf g u) with
      | true => rfl
      | false =>
        exfalso
        have hu8 := lt_len hpl e
        obtain ⟨t1, t2⟩ := tch u (by omega) e2
        obtain ⟨v, hv, hvu⟩ : ∃ v, pl.testBit v = true ∧ v ≠ u := by
          refine Classical.byContradiction fun hno => ?_
          have hle : (List.range g.n).countP pl.testBit ≤ (List.range g.n).countP (fun v => decide (v = u)) := List.countP_mono_left fun v _ hv => by
            refine decide_eq_true (Classical.byContradiction fun hne => hno ⟨v, hv, hne⟩)
          rw [cnt_is, if_pos hu8, hpc] at hle
          omega
        have hv8 := lt_len hpl hv
        exact t2 v (by omega) hvu (by rw [h4 v u hv e, t1])
end Go.Proofs.YtfphkpdobbffeaaDoor

/-
  Plain law: a cut tree is mended by a wire of the other one.
-/
namespace Go.Proofs.YtfphkpdobbffeaaDoor
open Go Go.AH
set_option maxRecDepth 100000
set_option maxHeartbeats 1000000

theorem places_any {g : Gm} (b u : Nat) : (placesN g b).testBit u = (mem b).any (endOf g u) := by rw [placesN, places_bit, Nat.zero_testBit, Bool.false_or]
theorem places_ltn {g : Gm} (hg : g.ok) {a : Nat} (ha : a < 2 ^ g.ws.length) : placesN g a < 2 ^ g.n := by
  have hp2 : 2 ^ g.ws.length ≤ 1024 := Nat.pow_le_pow_right (by omega) hg.len
  refine Nat.lt_of_not_le fun h => ?_
  obtain ⟨i, hi, hb⟩ := Nat.exists_ge_and_testBit_of_ge_two_pow h
  rw [places_any] at hb
  obtain ⟨y, hy, he⟩ := List.any_eq_true.1 hb
  obtain ⟨j, rfl, hj⟩ := (mem_iff (by omega)).1 hy
  have := hg.ends j (lt_len ha hj)
  simp only [endOf, Int.toNat_natCast, Bool.or_eq_true, decide_eq_true_eq] at he
  omega
theorem pop_two {pl s t : Nat} (hpl : pl < 256) (hst : s ≠ t) (hs : pl.testBit s = true) (ht : pl.testBit t = true) : 2 ≤ pop pl := by
  have : ∀ pl, pl < 256 → ∀ s, s < 8 → ∀ t, t < 8 → s = t ∨ pl.testBit s = false ∨ pl.testBit t = false ∨ 2 ≤ pop pl := by decide +kernel
  rcases this pl hpl s (lt_len (k := 8) hpl hs) t (lt_len (k := 8) hpl ht) with h | h | h | h
  · exact absurd h hst
  · rw [hs] at h; cases h
  · rw [ht] at h; cases h
  · exact h
theorem ends_iff {pl s t : Nat} : pl &&& (2 ^ s ||| 2 ^ t) = 2 ^ s ||| 2 ^ t ↔ pl.testBit s = true ∧ pl.testBit t = true := by
  constructor
  · intro h
    have k : ∀ i, (2 ^ s ||| 2 ^ t).testBit i = true → pl.testBit i = true := fun i hi => by
      rw [← h, Nat.testBit_and, Bool.and_eq_true] at hi; exact hi.1
    exact ⟨k s (by simp [Nat.testBit_or, Nat.testBit_two_pow]), k t (by simp [Nat.testBit_or, Nat.testBit_two_pow])⟩
  · rintro ⟨h1, h2⟩
    refine Nat.eq_of_testBit_eq fun i => ?_
    rw [Nat.testBit_and, Nat.testBit_or, Nat.testBit_two_pow, Nat.testBit_two_pow]
    by_cases e1 : s = i
    · subst e1; simp [h1]
    · by_cases e2 : t = i
      · subst e2; simp [h2]
      · simp [e1, e2]
end Go.Proofs.YtfphkpdobbffeaaDoor

/-
  Plain: the table of 64 names no block.
-/
namespace Go.Proofs.YtfphkpdobbffeaaDoor
open Go Go.AH
instance : RenC tab64 := ⟨tab64_ren, fun n => by simp [tab64_LL]⟩
end Go.Proofs.YtfphkpdobbffeaaDoor

/-
  The law SwitchPositions, as a contract.
-/
namespace Go.Proofs.YtfphkpdobbffeaaDoor
open Go Go.AH
set_option maxRecDepth 100000
set_option maxHeartbeats 1000000

end Go.Proofs.YtfphkpdobbffeaaDoor

/-
  Contracts: who wins by the reference, with what is known as a law.
-/
namespace Go.Proofs.YtfphkpdobbffeaaDoor
open Go Go.AH
set_option maxRecDepth 100000
set_option maxHeartbeats 1000000

end Go.Proofs.YtfphkpdobbffeaaDoor

/-
  Contracts: a list of wires as a set, by the program and by the reference.
-/
namespace Go.Proofs.YtfphkpdobbffeaaDoor
open Go Go.AH
set_option maxRecDepth 100000
set_option maxHeartbeats 1000000

def risTo (n : Nat) (L : List Int) : Nat → Bool
  | 0 => true
  | i + 1 => risTo n L i && (decide (0 ≤ L.getD i 0) && (decide (L.getD i 0 < n) && (decide (i = 0) || decide (L.getD (i - 1) 0 < L.getD i 0))))
theorem risTo_succ (n : Nat) (L : List Int) (i : Nat) : risTo n L (i + 1) = true ↔ risTo n L i = true ∧ 0 ≤ L.getD i 0 ∧ L.getD i 0 < n ∧ (i = 0 ∨ L.getD (i - 1) 0 < L.getD i 0) := by
  simp [risTo]
theorem risTo_up {n : Nat} {L : List Int} {i : Nat} (h : risTo n L i = false) : ∀ j, i ≤ j → risTo n L j = false := by
  intro j hj
  induction j with
  | zero => obtain rfl : i = 0 := by omega
            exact h
  | succ j ih =>
    by_cases e : i = j + 1
    · exact e ▸ h
    · rw [risTo, ih (by omega)]; rfl
def setToL (L : List Int) : Nat → Nat
  | 0 => 0
  | i + 1 => setToL L i ||| 2 ^ (L.getD i 0).toNat
theorem setToL_lt {n : Nat} {L : List Int} : ∀ i, risTo n L i = true → setToL L i < 2 ^ n
  | 0, _ => Nat.pow_pos (by omega)
  | i + 1, h => by
    obtain ⟨h1, h2, h3, _⟩ := (risTo_succ n L i).1 h
    exact or_lt (setToL_lt i h1) ((Nat.pow_lt_pow_iff_right (by omega)).2 (by omega))
def lastOf (L : List Int) (i : Nat) : Int := if i = 0 then -1 else L.getD (i - 1) 0
theorem set_spec {g : Gm} (hg : g.ok) (L : List Int) (hL : L.length ≤ 1000) : FDet Tryd.prog 97 [.g (gC g 0), .c (.rs 1 0 L.length)] [(0, wB g), (1, .ro (ints L))] 2
    (.t [.c (.int .i64 (cond (risTo g.ws.length L L.length) (setToL L L.length) 0 : Nat)), .c (.bool (risTo g.ws.length L L.length))]) [] 2 := by
  have hgl := hg.len
  refine FSpec.of_body tok true Tryd.func97 rfl (by kernel_rfl) (by decide) (by simp [tupA, hpLt, tmLt, AV.lt, AE.lt, AC.lt, LL_cons, LL_nil, idOk, ABlk.lt, ints_LL, GB, tab64_LL, gC, wB, giC, noneB, gst, tC, pC]) (by simp [tupA, hpLt, tmLt, AV.lt, AE.lt, AC.lt, LL_cons, LL_nil, idOk, ABlk.lt, ints_LL, GB, tab64_LL, gC, wB, giC, noneB, gst, tC, pC]) (by show 2 ≤ _; decide) ?_
  refine Wk.on ?_
  refine Tr.loop (md := true) (X := Nat) (st := fun i => ⟨[(2, .c (.ptr 2 0)), (10, .c (.rs 1 0 L.length)), (11, .c (.int .i64 L.length)), (12, .c (.int .i64 i)), (6, .c (.int .i64 (setToL L i))), (7, .c (.int .i64 (lastOf L i)))], [(2, .own (gC g 0)), (0, wB g), (1, .ro (ints L))], 3, 34, 2⟩) (inv := fun i => i ≤ L.length ∧ risTo g.ws.length L i = true) (μ := fun i => L.length - i) (x0 := 0) (l := []) tok ⟨Nat.zero_le _, rfl⟩ ?_ ?_
  · exact Sub.nil ⟨rfl, rfl, (by simp [tab64_LL, gC, wB, giC, noneB, gst, tC, pC]), rfl, (by simp [tupA, hpLt, tmLt, AV.lt, AE.lt, AC.lt, LL_cons, LL_nil, idOk, ABlk.lt, ints_LL, GB, tab64_LL, gC, wB, giC, noneB, gst, tC, pC]), (by simp [tupA, hpLt, tmLt, AV.lt, AE.lt, AC.lt, LL_cons, LL_nil, idOk, ABlk.lt, ints_LL, GB, tab64_LL, gC, wB, giC, noneB, gst, tC, pC])⟩ (by (repeat (first | exact trivial | refine ⟨trivial, ?_⟩ | refine ⟨rfl, ?_⟩))) (by (repeat (first | exact trivial | refine ⟨trivial, ?_⟩ | refine ⟨rfl, ?_⟩)))
  · rintro i ⟨hi, hr⟩
    have hsl := setToL_lt i hr
    have hlow : -1 ≤ lastOf L i := by
      unfold lastOf
      split
      · omega
      · obtain ⟨j, rfl⟩ : ∃ j, i = j + 1 := ⟨i - 1, by omega⟩
        have := ((risTo_succ _ L j).1 hr).2.1
        rw [Nat.add_sub_cancel]; omega
    by_cases hil : i < L.length
    · have hnx := risTo_succ g.ws.length L i
      have hla : lastOf L (i + 1) = L.getD i 0 := by simp [lastOf]
      have hss : setToL L (i + 1) = setToL L i ||| 2 ^ (L.getD i 0).toNat := rfl
      have hat : (ints L).getD (0 + (i : Int).toNat * 1) (.int .i64 0) = .int .i64 (L.getD i 0) := by rw [ints_getD, Int.toNat_natCast, Nat.mul_one, Nat.zero_add]
      have hfail : ¬ (lastOf L i < L.getD i 0 ∧ L.getD i 0 < g.ws.length) → risTo g.ws.length L L.length = false := fun h => by
        refine risTo_up (i := i + 1) ?_ _ (by omega)
        cases hq : risTo g.ws.length L (i + 1) with
        | false => rfl
        | true =>
          obtain ⟨_, h2, h3, h4⟩ := hnx.1 hq
          refine absurd ⟨?_, h3⟩ h
          unfold lastOf
          split
          · omega
          · rcases h4 with h4 | h4
            · omega
            · exact h4
      have hgo : lastOf L i < L.getD i 0 → L.getD i 0 < g.ws.length → risTo g.ws.length L (i + 1) = true := fun h1 h2 => by
        refine hnx.2 ⟨hr, by omega, h2, ?_⟩
        unfold lastOf at h1
        split at h1
        · exact .inl (by assumption)
        · exact .inr h1
      refine Wk.on ?_
      rw [decide_eq_true (show ((i : Nat) : Int) < ((L.length : Nat) : Int) by omega)]
      refine Wk.on ?_
      refine ⟨by rw [ints_len, Int.toNat_natCast]; omega, ?_⟩
      rw [hat]
      generalize hc : L.getD i 0 = c at *
      refine Wk.on ?_
      by_cases c1 : c ≤ lastOf L i
      · have hf := hfail (by omega)
        rw [hf, decide_eq_true c1]
        refine Wk.on ?_
        exact AH.Fin.nil [] ⟨rfl, rfl, rfl⟩ (by first | exact trivial | (simp [tupA, hpLt, tmLt, AV.lt, AE.lt, AC.lt, LL_cons, LL_nil, idOk, ABlk.lt, ints_LL, GB, tab64_LL, gC, wB, giC, noneB, gst, tC, pC]; done) | (simp [tupA, hpLt, tmLt, AV.lt, AE.lt, AC.lt, LL_cons, LL_nil, idOk, ABlk.lt, ints_LL, GB, tab64_LL, gC, wB, giC, noneB, gst, tC, pC, rdn, wrn]; done)) trivial trivial rfl (by simp [GB])
      rw [decide_eq_false c1]
      refine Wk.on ?_
      by_cases c2 : (g.ws.length : Int) ≤ c
      · have hf := hfail (by omega)
        rw [hf, decide_eq_true c2]
        refine Wk.on ?_
        exact AH.Fin.nil [] ⟨rfl, rfl, rfl⟩ (by first | exact trivial | (simp [tupA, hpLt, tmLt, AV.lt, AE.lt, AC.lt, LL_cons, LL_nil, idOk, ABlk.lt, ints_LL, GB, tab64_LL, gC, wB, giC, noneB, gst, tC, pC]; done) | (simp [tupA, hpLt, tmLt, AV.lt, AE.lt, AC.lt, LL_cons, LL_nil, idOk, ABlk.lt, ints_LL, GB, tab64_LL, gC, wB, giC, noneB, gst, tC, pC, rdn, wrn]; done)) trivial trivial rfl (by simp [GB])
      rw [decide_eq_false c2]
      have hgo2 := hgo (by omega) (by omega)
      obtain ⟨w, rfl⟩ : ∃ w : Nat, c = w := ⟨c.toNat, by omega⟩
      obtain ⟨q, hq⟩ : ∃ q, q = 2 ^ w := ⟨_, rfl⟩
      have hpi : q < 2048 := hq ▸ pow_small (by omega)
      have hp2 : 2 ^ g.ws.length ≤ 1024 := Nat.pow_le_pow_right (by omega) hgl
      rw [Int.toNat_natCast, ← hq] at hss
      refine Wk.on ?_
      rw [wrapU (by omega)]
      refine ⟨⟨by omega, by omega, by rw [shl1 hq]; unfold I64; omega⟩, ?_⟩
      rw [shl1 hq]
      refine Wk.on ?_
      refine Again.mk (i + 1) (Sub.nil ⟨rfl, rfl, (by simp [tab64_LL, gC, wB, giC, noneB, gst, tC, pC]), rfl, (by simp [tupA, hpLt, tmLt, AV.lt, AE.lt, AC.lt, LL_cons, LL_nil, idOk, ABlk.lt, ints_LL, GB, tab64_LL, gC, wB, giC, noneB, gst, tC, pC]), (by simp [tupA, hpLt, tmLt, AV.lt, AE.lt, AC.lt, LL_cons, LL_nil, idOk, ABlk.lt, ints_LL, GB, tab64_LL, gC, wB, giC, noneB, gst, tC, pC])⟩ ⟨rfl, rfl, rfl, rfl, by rw [hss]; rfl, by rw [hla]; rfl, trivial⟩ (by (repeat (first | exact trivial | refine ⟨trivial, ?_⟩ | refine ⟨rfl, ?_⟩)))) ⟨by omega, hgo2⟩ (by omega)
    · obtain rfl : i = L.length := by omega
      rw [hr]
      refine Wk.on ?_
      rw [decide_eq_false (show ¬ ((L.length : Nat) : Int) < ((L.length : Nat) : Int) by omega)]
      intro _
      refine Wk.on ?_
      exact AH.Fin.nil [] ⟨rfl, rfl, rfl⟩ (by first | exact trivial | (simp [tupA, hpLt, tmLt, AV.lt, AE.lt, AC.lt, LL_cons, LL_nil, idOk, ABlk.lt, ints_LL, GB, tab64_LL, gC, wB, giC, noneB, gst, tC, pC]; done) | (simp [tupA, hpLt, tmLt, AV.lt, AE.lt, AC.lt, LL_cons, LL_nil, idOk, ABlk.lt, ints_LL, GB, tab64_LL, gC, wB, giC, noneB, gst, tC, pC, rdn, wrn]; done)) trivial trivial rfl (by simp [GB])
theorem setR_spec {g : Gm} (hg : g.ok) (L : List Int) (hL : L.length ≤ 1000) : FDet Tryd.prog 71 [.g (gC g 0), .c (.rs 1 0 L.length)] [(0, wB g), (1, .ro (ints L))] 2
    (.t [.c (.int .i64 (cond (risTo g.ws.length L L.length) (setToL L L.length) 0 : Nat)), .c (.bool (risTo g.ws.length L L.length))]) [] 2 := by
  have hgl := hg.len
  refine FSpec.of_body tok true Tryd.func71 rfl (by kernel_rfl) (by decide) (by simp [tupA, hpLt, tmLt, AV.lt, AE.lt, AC.lt, LL_cons, LL_nil, idOk, ABlk.lt, ints_LL, GB, tab64_LL, gC, wB, giC, noneB, gst, tC, pC]) (by simp [tupA, hpLt, tmLt, AV.lt, AE.lt, AC.lt, LL_cons, LL_nil, idOk, ABlk.lt, ints_LL, GB, tab64_LL, gC, wB, giC, noneB, gst, tC, pC]) (by show 2 ≤ _; decide) ?_
  refine Wk.on ?_
  refine Tr.loop (md := true) (X := Nat) (st := fun i => ⟨[(1, .c (.rs 1 0 L.length)), (2, .c (.ptr 2 0)), (6, .c (.int .i64 (setToL L i))), (7, .c (.int .i64 i))], [(2, .own (gC g 0)), (0, wB g), (1, .ro (ints L))], 3, 53, 2⟩) (inv := fun i => i ≤ L.length ∧ risTo g.ws.length L i = true) (μ := fun i => L.length - i) (x0 := 0) (l := []) tok ⟨Nat.zero_le _, rfl⟩ ?_ ?_
  · exact Sub.nil ⟨rfl, rfl, (by simp [tab64_LL, gC, wB, giC, noneB, gst, tC, pC]), rfl, (by simp [tupA, hpLt, tmLt, AV.lt, AE.lt, AC.lt, LL_cons, LL_nil, idOk, ABlk.lt, ints_LL, GB, tab64_LL, gC, wB, giC, noneB, gst, tC, pC]), (by simp [tupA, hpLt, tmLt, AV.lt, AE.lt, AC.lt, LL_cons, LL_nil, idOk, ABlk.lt, ints_LL, GB, tab64_LL, gC, wB, giC, noneB, gst, tC, pC])⟩ (by (repeat (first | exact trivial | refine ⟨trivial, ?_⟩ | refine ⟨rfl, ?_⟩))) (by (repeat (first | exact trivial | refine ⟨trivial, ?_⟩ | refine ⟨rfl, ?_⟩)))
  · rintro i ⟨hi, hr⟩
    have hsl := setToL_lt i hr
    by_cases hil : i < L.length
    · have hnx := risTo_succ g.ws.length L i
      have hss : setToL L (i + 1) = setToL L i ||| 2 ^ (L.getD i 0).toNat := rfl
      have hat : (ints L).getD (0 + (i : Int).toNat * 1) (.int .i64 0) = .int .i64 (L.getD i 0) := by rw [ints_getD, Int.toNat_natCast, Nat.mul_one, Nat.zero_add]
      have hfail : ¬ (0 ≤ L.getD i 0 ∧ L.getD i 0 < g.ws.length ∧ (i = 0 ∨ L.getD (i - 1) 0 < L.getD i 0)) → risTo g.ws.length L L.length = false := fun h => by
        refine risTo_up (i := i + 1) ?_ _ (by omega)
        cases hq : risTo g.ws.length L (i + 1) with
        | false => rfl
        | true => exact absurd (hnx.1 hq).2 h
      have hgo : 0 ≤ L.getD i 0 → L.getD i 0 < g.ws.length → (i = 0 ∨ L.getD (i - 1) 0 < L.getD i 0) → risTo g.ws.length L (i + 1) = true := fun h1 h2 h3 => hnx.2 ⟨hr, h1, h2, h3⟩
      have hat2 : 0 < i → (ints L).getD (0 + ((i : Int) - 1).toNat * 1) (.int .i64 0) = .int .i64 (L.getD (i - 1) 0) := fun h => by rw [ints_getD, show ((i : Int) - 1).toNat = i - 1 by omega, Nat.mul_one, Nat.zero_add]
      refine Wk.on ?_
      rw [decide_eq_true (show ((i : Nat) : Int) < ((L.length : Nat) : Int) by omega)]
      refine Wk.on ?_
      refine Tr.draw (md := true) [⟨[], [15], [], [], []⟩, ⟨[], [14], [0], [], []⟩, ⟨[0, 1], [], [], [], []⟩, ⟨[0, 1, 2], [], [], [], []⟩, ⟨[0, 1, 2, 3], [], [], [], []⟩, ⟨[0, 1, 2, 3, 4], [], [], [], []⟩, ⟨[0, 1, 2, 3, 4, 5], [21, 24, 25, 26], [], [], []⟩, ⟨[0, 1, 2, 3, 4, 5], [20, 24, 25, 26], [6], [], []⟩, ⟨[0, 1, 2, 3, 4, 5, 6, 7], [24, 25, 26], [], [], []⟩, ⟨[0, 1, 2, 3, 4, 5, 6, 7, 8], [24, 25, 26], [], [], []⟩, ⟨[0, 1, 2, 3, 4, 5], [20, 21, 22, 23], [6, 7, 8, 9], [], []⟩, ⟨[0, 1, 2, 3, 4, 5, 10], [20, 21, 22, 23], [6, 7, 8, 9], [], []⟩, ⟨[0, 1, 2, 3, 4, 5, 10, 11], [20, 21, 22, 23], [6, 7, 8, 9], [], []⟩, ⟨[0, 1, 2, 3, 4, 5, 6, 7, 8, 9, 10, 11, 12], [], [], [], []⟩, ⟨[0, 1, 2, 3, 4, 5, 6, 7, 8, 9, 10, 11, 12, 13], [], [], [], []⟩, ⟨[0, 1, 2, 3, 4, 5, 6, 7, 8, 9, 10, 11, 12, 13, 14], [], [], [], []⟩, ⟨[0, 1, 2, 3, 4, 5, 6, 7, 8, 9, 10, 11, 12, 13, 14, 15], [], [], [], []⟩, ⟨[0, 1, 2, 3, 4, 5, 6, 7, 8, 9, 10, 11, 12, 13, 14, 15, 16], [], [], [], []⟩, ⟨[0, 1, 2, 3, 4, 5, 6, 7, 8, 9, 10, 11, 12, 13, 14, 15, 16, 17], [], [], [], []⟩, ⟨[0, 1, 2, 3, 4, 5, 6, 7, 8, 9, 10, 11, 12, 13, 14, 15, 16, 17, 18], [34, 35, 38, 39, 40, 41], [], [], []⟩, ⟨[0, 1, 2, 3, 4, 5, 6, 7, 8, 9, 10, 11, 12, 13, 14, 15, 16, 17, 18], [33, 38, 39, 40, 41], [19], [], []⟩, ⟨[0, 1, 2, 3, 4, 5, 6, 7, 8, 9, 10, 11, 12, 13, 14, 15, 16, 17, 18, 20], [33, 38, 39, 40, 41], [19], [], []⟩, ⟨[0, 1, 2, 3, 4, 5, 6, 7, 8, 9, 10, 11, 12, 13, 14, 15, 16, 17, 18, 19, 20, 21], [38, 39, 40, 41], [], [], []⟩, ⟨[0, 1, 2, 3, 4, 5, 6, 7, 8, 9, 10, 11, 12, 13, 14, 15, 16, 17, 18, 19, 20, 21, 22], [38, 39, 40, 41], [], [], []⟩, ⟨[0, 1, 2, 3, 4, 5, 6, 7, 8, 9, 10, 11, 12, 13, 14, 15, 16, 17, 18], [33, 34, 35, 36, 37, 39], [19, 20, 21, 22, 23], [], []⟩, ⟨[0, 1, 2, 3, 4, 5, 6, 7, 8, 9, 10, 11, 12, 13, 14, 15, 16, 17, 18], [33, 34, 35, 36, 37, 38], [19, 20, 21, 22, 23, 24], [], []⟩, ⟨[0, 1, 2, 3, 4, 5, 6, 7, 8, 9, 10, 11, 12, 13, 14, 15, 16, 17, 18, 24, 25], [33, 34, 35, 36, 37], [19, 20, 21, 22, 23], [], []⟩, ⟨[0, 1, 2, 3, 4, 5, 6, 7, 8, 9, 10, 11, 12, 13, 14, 15, 16, 17, 18, 24, 25, 26], [33, 34, 35, 36, 37], [19, 20, 21, 22, 23], [], []⟩] tok (by kernel_rfl) (by kernel_rfl) ?_
      refine Wk.on ?_
      refine ⟨by rw [ints_len, Int.toNat_natCast]; omega, ?_⟩
      rw [hat]
      generalize hc : L.getD i 0 = c at *
      generalize hc' : L.getD (i - 1) 0 = c' at *
      refine Wk.on ?_
      by_cases c1 : c < 0
      · have hf := hfail (by omega)
        rw [hf, decide_eq_true c1]
        refine Wk.on ?_
        exact AH.Fin.nil [] ⟨rfl, rfl, rfl⟩ (by first | exact trivial | (simp [tupA, hpLt, tmLt, AV.lt, AE.lt, AC.lt, LL_cons, LL_nil, idOk, ABlk.lt, ints_LL, GB, tab64_LL, gC, wB, giC, noneB, gst, tC, pC]; done) | (simp [tupA, hpLt, tmLt, AV.lt, AE.lt, AC.lt, LL_cons, LL_nil, idOk, ABlk.lt, ints_LL, GB, tab64_LL, gC, wB, giC, noneB, gst, tC, pC, rdn, wrn]; done)) trivial trivial rfl (by simp [GB])
      rw [decide_eq_false c1]
      refine Wk.on ?_
      refine ⟨by rw [ints_len, Int.toNat_natCast]; omega, ?_⟩
      rw [hat]
      refine Wk.on ?_
      by_cases c2 : (g.ws.length : Int) ≤ c
      · have hf := hfail (by omega)
        rw [hf, decide_eq_true c2]
        refine Wk.on ?_
        exact AH.Fin.nil [] ⟨rfl, rfl, rfl⟩ (by first | exact trivial | (simp [tupA, hpLt, tmLt, AV.lt, AE.lt, AC.lt, LL_cons, LL_nil, idOk, ABlk.lt, ints_LL, GB, tab64_LL, gC, wB, giC, noneB, gst, tC, pC]; done) | (simp [tupA, hpLt, tmLt, AV.lt, AE.lt, AC.lt, LL_cons, LL_nil, idOk, ABlk.lt, ints_LL, GB, tab64_LL, gC, wB, giC, noneB, gst, tC, pC, rdn, wrn]; done)) trivial trivial rfl (by simp [GB])
      rw [decide_eq_false c2]
      refine Wk.on ?_
      by_cases c3 : 0 < i
      · rw [decide_eq_true (show (0 : Int) < ((i : Nat) : Int) by omega)]
        refine Wk.on ?_
        refine ⟨by rw [ints_len]; omega, ?_⟩
        rw [hat2 c3]
        refine Wk.on ?_
        refine ⟨by rw [ints_len, Int.toNat_natCast]; omega, ?_⟩
        rw [hat]
        refine Wk.on ?_
        by_cases c4 : c ≤ c'
        · have hf := hfail (by omega)
          rw [hf, decide_eq_true c4]
          refine Wk.on ?_
          exact AH.Fin.nil [] ⟨rfl, rfl, rfl⟩ (by first | exact trivial | (simp [tupA, hpLt, tmLt, AV.lt, AE.lt, AC.lt, LL_cons, LL_nil, idOk, ABlk.lt, ints_LL, GB, tab64_LL, gC, wB, giC, noneB, gst, tC, pC]; done) | (simp [tupA, hpLt, tmLt, AV.lt, AE.lt, AC.lt, LL_cons, LL_nil, idOk, ABlk.lt, ints_LL, GB, tab64_LL, gC, wB, giC, noneB, gst, tC, pC, rdn, wrn]; done)) trivial trivial rfl (by simp [GB])
        rw [decide_eq_false c4]
        have hgo2 := hgo (by omega) (by omega) (.inr (by omega))
        obtain ⟨w, rfl⟩ : ∃ w : Nat, c = w := ⟨c.toNat, by omega⟩
        obtain ⟨q, hq⟩ : ∃ q, q = 2 ^ w := ⟨_, rfl⟩
        have hpi : q < 2048 := hq ▸ pow_small (by omega)
        have hp2 : 2 ^ g.ws.length ≤ 1024 := Nat.pow_le_pow_right (by omega) hgl
        rw [Int.toNat_natCast, ← hq] at hss
        refine Wk.on ?_
        refine ⟨by rw [ints_len, Int.toNat_natCast]; omega, ?_⟩
        rw [hat]
        refine Wk.on ?_
        refine ⟨⟨by omega, by omega, by rw [shl1 hq]; unfold I64; omega⟩, ?_⟩
        rw [shl1 hq]
        refine Wk.on ?_
        refine Again.mk (i + 1) (Sub.nil ⟨rfl, rfl, (by simp [tab64_LL, gC, wB, giC, noneB, gst, tC, pC]), rfl, (by simp [tupA, hpLt, tmLt, AV.lt, AE.lt, AC.lt, LL_cons, LL_nil, idOk, ABlk.lt, ints_LL, GB, tab64_LL, gC, wB, giC, noneB, gst, tC, pC]), (by simp [tupA, hpLt, tmLt, AV.lt, AE.lt, AC.lt, LL_cons, LL_nil, idOk, ABlk.lt, ints_LL, GB, tab64_LL, gC, wB, giC, noneB, gst, tC, pC])⟩ ⟨rfl, rfl, by rw [hss]; rfl, rfl, trivial⟩ (by (repeat (first | exact trivial | refine ⟨trivial, ?_⟩ | refine ⟨rfl, ?_⟩)))) ⟨by omega, hgo2⟩ (by omega)
      · rw [decide_eq_false (show ¬ (0 : Int) < ((i : Nat) : Int) by omega)]
        have hgo2 := hgo (by omega) (by omega) (.inl (by omega))
        obtain ⟨w, rfl⟩ : ∃ w : Nat, c = w := ⟨c.toNat, by omega⟩
        obtain ⟨q, hq⟩ : ∃ q, q = 2 ^ w := ⟨_, rfl⟩
        have hpi : q < 2048 := hq ▸ pow_small (by omega)
        have hp2 : 2 ^ g.ws.length ≤ 1024 := Nat.pow_le_pow_right (by omega) hgl
        rw [Int.toNat_natCast, ← hq] at hss
        refine Wk.on ?_
        refine ⟨by rw [ints_len, Int.toNat_natCast]; omega, ?_⟩
        rw [hat]
        refine Wk.on ?_
        refine ⟨⟨by omega, by omega, by rw [shl1 hq]; unfold I64; omega⟩, ?_⟩
        rw [shl1 hq]
        refine Wk.on ?_
        refine Again.mk (i + 1) (Sub.nil ⟨rfl, rfl, (by simp [tab64_LL, gC, wB, giC, noneB, gst, tC, pC]), rfl, (by simp [tupA, hpLt, tmLt, AV.lt, AE.lt, AC.lt, LL_cons, LL_nil, idOk, ABlk.lt, ints_LL, GB, tab64_LL, gC, wB, giC, noneB, gst, tC, pC]), (by simp [tupA, hpLt, tmLt, AV.lt, AE.lt, AC.lt, LL_cons, LL_nil, idOk, ABlk.lt, ints_LL, GB, tab64_LL, gC, wB, giC, noneB, gst, tC, pC])⟩ ⟨rfl, rfl, by rw [hss]; rfl, rfl, trivial⟩ (by (repeat (first | exact trivial | refine ⟨trivial, ?_⟩ | refine ⟨rfl, ?_⟩)))) ⟨by omega, hgo2⟩ (by omega)
    · obtain rfl : i = L.length := by omega
      rw [hr]
      refine Wk.on ?_
      rw [decide_eq_false (show ¬ ((L.length : Nat) : Int) < ((L.length : Nat) : Int) by omega)]
      intro _
      refine Wk.on ?_
      exact AH.Fin.nil [] ⟨rfl, rfl, rfl⟩ (by first | exact trivial | (simp [tupA, hpLt, tmLt, AV.lt, AE.lt, AC.lt, LL_cons, LL_nil, idOk, ABlk.lt, ints_LL, GB, tab64_LL, gC, wB, giC, noneB, gst, tC, pC]; done) | (simp [tupA, hpLt, tmLt, AV.lt, AE.lt, AC.lt, LL_cons, LL_nil, idOk, ABlk.lt, ints_LL, GB, tab64_LL, gC, wB, giC, noneB, gst, tC, pC, rdn, wrn]; done)) trivial trivial rfl (by simp [GB])
end Go.Proofs.YtfphkpdobbffeaaDoor

/-
  Contracts: the places of a set, by the reference.
-/
namespace Go.Proofs.YtfphkpdobbffeaaDoor
open Go Go.AH
set_option maxRecDepth 100000
set_option maxHeartbeats 1000000

def placesTo (g : Gm) (a : Nat) (i : Nat) : Nat := (((List.range i).filter a.testBit).map Int.ofNat).foldl (placesF g) 0
theorem placesTo_succ (g : Gm) (a i : Nat) : placesTo g a (i + 1) = if a.testBit i then placesF g (placesTo g a i) (i : Int) else placesTo g a i := by
  simp only [placesTo, List.range_succ, List.filter_append, List.map_append, List.foldl_append]
  cases h : a.testBit i <;> simp [h, List.filter_cons]
theorem placesTo_lt {g : Gm} (hg : g.ok) (a i : Nat) (hi : i ≤ g.ws.length) : placesTo g a i < 2 ^ 8 :=
  placesN_lt hg _ fun y hy => by
    obtain ⟨j, hj, rfl⟩ := List.mem_map.1 hy
    have := List.mem_range.1 (List.mem_filter.1 hj).1
    show j < _
    omega
theorem places_eq {g : Gm} (hg : g.ok) {a : Nat} (ha : a < 2 ^ g.ws.length) : placesN g a = placesTo g a g.ws.length := by
  rw [placesN, placesTo, mem, memN, range_filter _ 10 hg.len fun i hi => by
    cases h : a.testBit i with
    | false => rfl
    | true => have := lt_len ha h; omega]
theorem placesR_spec {g : Gm} (hg : g.ok) {n : Nat} (hn : n < 2 ^ g.ws.length) : FDet Tryd.prog 68 [.g (gC g 0), .c (.int .i64 n)] [(0, wB g)] 1 (.c (.int .i64 (placesN g n))) [] 1 := by
  have hgl := hg.len
  rw [places_eq hg hn]
  refine FSpec.of_body tok true Tryd.func68 rfl (by kernel_rfl) (by decide) (by simp [tupA, hpLt, tmLt, AV.lt, AE.lt, AC.lt, LL_cons, LL_nil, idOk, ABlk.lt, ints_LL, GB, tab64_LL, gC, wB, giC, noneB, gst, tC, pC]) (by simp [tupA, hpLt, tmLt, AV.lt, AE.lt, AC.lt, LL_cons, LL_nil, idOk, ABlk.lt, ints_LL, GB, tab64_LL, gC, wB, giC, noneB, gst, tC, pC]) (by show 2 ≤ _; decide) ?_
  (conv => whnf); (repeat ((first | (refine ⟨rfl, ?_⟩) | (refine ⟨trivial, ?_⟩) | (refine Wk.yes ?_) | (refine Wk.no ?_) | (refine Wk.and ?_) | (refine ⟨by exact ⟨shr_nonneg _ _, by decide⟩, ?_⟩) | (refine ⟨by exact ⟨shr_nonneg' _ _, by decide⟩, ?_⟩)); (conv => whnf)))
  refine Tr.loop (md := true) (X := Nat) (st := fun i => ⟨[(1, .c (.int .i64 n)), (2, .c (.ptr 1 0)), (5, .c (.int .i64 (placesTo g n i))), (6, .c (.int .i64 i))], [(1, .own (gC g 0)), (0, wB g)], 2, 37, 1⟩) (inv := fun i => i ≤ g.ws.length) (μ := fun i => g.ws.length - i) (x0 := 0) (l := []) tok (Nat.zero_le _) ?_ ?_
  · exact Sub.nil ⟨rfl, rfl, (by simp [tab64_LL, gC, wB, giC, noneB, gst, tC, pC]), rfl, (by simp [tupA, hpLt, tmLt, AV.lt, AE.lt, AC.lt, LL_cons, LL_nil, idOk, ABlk.lt, ints_LL, GB, tab64_LL, gC, wB, giC, noneB, gst, tC, pC]), (by simp [tupA, hpLt, tmLt, AV.lt, AE.lt, AC.lt, LL_cons, LL_nil, idOk, ABlk.lt, ints_LL, GB, tab64_LL, gC, wB, giC, noneB, gst, tC, pC])⟩ (by (repeat (first | exact trivial | refine ⟨trivial, ?_⟩ | refine ⟨rfl, ?_⟩))) (by (repeat (first | exact trivial | refine ⟨trivial, ?_⟩ | refine ⟨rfl, ?_⟩)))
  · intro i hi
    have hpl := placesTo_lt hg n i hi
    by_cases hil : i < g.ws.length
    · have hps := placesTo_succ g n i
      (conv => whnf); (repeat ((first | (refine ⟨rfl, ?_⟩) | (refine ⟨trivial, ?_⟩) | (refine Wk.yes ?_) | (refine Wk.no ?_) | (refine Wk.and ?_) | (refine ⟨by exact ⟨shr_nonneg _ _, by decide⟩, ?_⟩) | (refine ⟨by exact ⟨shr_nonneg' _ _, by decide⟩, ?_⟩)); (conv => whnf)))
      rw [decide_eq_true (show ((i : Nat) : Int) < ((g.ws.length : Nat) : Int) by omega)]
      (conv => whnf); (repeat ((first | (refine ⟨rfl, ?_⟩) | (refine ⟨trivial, ?_⟩) | (refine Wk.yes ?_) | (refine Wk.no ?_) | (refine Wk.and ?_) | (refine ⟨by exact ⟨shr_nonneg _ _, by decide⟩, ?_⟩) | (refine ⟨by exact ⟨shr_nonneg' _ _, by decide⟩, ?_⟩)); (conv => whnf)))
      rw [bitE]
      by_cases b1 : n.testBit i = true
      · have b2 := (bit_test n i).2 b1
        rw [if_pos b1, placesF, Int.toNat_natCast] at hps
        rw [decide_eq_true (show ((bit n i : Nat) : Int) = 1 by omega)]
        have he := hg.ends i hil
        have h8 := hg.n8
        obtain ⟨w1, hw1⟩ : ∃ w, w = (g.ws.getD i (0, 0)).1 := ⟨_, rfl⟩
        obtain ⟨w2, hw2⟩ : ∃ w, w = (g.ws.getD i (0, 0)).2 := ⟨_, rfl⟩
        obtain ⟨q1, hq1⟩ : ∃ q, q = 2 ^ w1 := ⟨_, rfl⟩
        obtain ⟨q2, hq2⟩ : ∃ q, q = 2 ^ w2 := ⟨_, rfl⟩
        have p1 : q1 < 2 ^ 8 := by rw [hq1]; exact (Nat.pow_lt_pow_iff_right (by omega)).2 (by omega)
        have p2 : q2 < 2 ^ 8 := by rw [hq2]; exact (Nat.pow_lt_pow_iff_right (by omega)).2 (by omega)
        have h12 := or_lt hpl p1
        obtain ⟨q3, hq3⟩ : ∃ q, q = placesTo g n i ||| q1 := ⟨_, rfl⟩
        rw [← hq3] at h12
        rw [← hw1, ← hw2, ← hq1, ← hq2, ← Nat.or_assoc, ← hq3] at hps
        have hlen : 0 + (i : Int).toNat * 2 + Int.toNat 0 * 1 + 1 ≤ (ints (fl g.ws)).length ∧ 0 + (i : Int).toNat * 2 + Int.toNat 1 * 1 + 1 ≤ (ints (fl g.ws)).length := by
          rw [ints_len, fl_len]; simp; omega
        have g0 : (ints (fl g.ws)).getD (0 + (i : Int).toNat * 2 + Int.toNat 0 * 1) (.int .i64 0) = .int .i64 (w1 : Nat) := by rw [Int.toNat_natCast, wget0, hw1]
        have g1 : (ints (fl g.ws)).getD (0 + (i : Int).toNat * 2 + Int.toNat 1 * 1) (.int .i64 0) = .int .i64 (w2 : Nat) := by rw [Int.toNat_natCast, wget1, hw2]
        (conv => whnf); (repeat ((first | (refine ⟨rfl, ?_⟩) | (refine ⟨trivial, ?_⟩) | (refine Wk.yes ?_) | (refine Wk.no ?_) | (refine Wk.and ?_) | (refine ⟨by exact ⟨shr_nonneg _ _, by decide⟩, ?_⟩) | (refine ⟨by exact ⟨shr_nonneg' _ _, by decide⟩, ?_⟩)); (conv => whnf)))
        refine Tr.draw (md := true) [⟨[], [20, 21, 22, 23, 24, 25, 26, 28, 29, 30, 31, 32, 33, 34], [], [], []⟩, ⟨[], [19, 22, 28, 29, 30, 31, 32, 33, 34], [0], [], []⟩, ⟨[1], [19, 22, 28, 29, 30, 31, 32, 33, 34], [0], [], []⟩, ⟨[], [19, 20, 21, 28, 29, 30, 31, 32, 33, 34], [0, 1, 2], [], []⟩, ⟨[1, 2, 3], [19, 28, 29, 30, 31, 32, 33, 34], [0], [], []⟩, ⟨[1, 2, 3, 4], [19, 28, 29, 30, 31, 32, 33, 34], [0], [], []⟩, ⟨[1, 2, 3, 4, 5], [19, 28, 29, 30, 31, 32, 33, 34], [0], [], []⟩, ⟨[1, 2, 3, 4, 5, 6], [19, 28, 29, 30, 31, 32, 33, 34], [0], [], []⟩, ⟨[0, 1, 2, 3, 4, 5, 6, 7], [28, 29, 30, 31, 32, 33, 34], [], [], []⟩, ⟨[], [19, 20, 21, 22, 23, 24, 25, 26, 27, 30], [0, 1, 2, 3, 4, 5, 6, 7, 8], [], []⟩, ⟨[9], [19, 20, 21, 22, 23, 24, 25, 26, 27, 30], [0, 1, 2, 3, 4, 5, 6, 7, 8], [], []⟩, ⟨[], [19, 20, 21, 22, 23, 24, 25, 26, 27, 28, 29], [0, 1, 2, 3, 4, 5, 6, 7, 8, 9, 10], [], []⟩, ⟨[9, 10, 11], [19, 20, 21, 22, 23, 24, 25, 26, 27], [0, 1, 2, 3, 4, 5, 6, 7, 8], [], []⟩, ⟨[9, 10, 11, 12], [19, 20, 21, 22, 23, 24, 25, 26, 27], [0, 1, 2, 3, 4, 5, 6, 7, 8], [], []⟩, ⟨[9, 10, 11, 12, 13], [19, 20, 21, 22, 23, 24, 25, 26, 27], [0, 1, 2, 3, 4, 5, 6, 7, 8], [], []⟩, ⟨[9, 10, 11, 12, 13, 14], [19, 20, 21, 22, 23, 24, 25, 26, 27], [0, 1, 2, 3, 4, 5, 6, 7, 8], [], []⟩] tok (by kernel_rfl) (by kernel_rfl) ?_
        (conv => whnf); (repeat ((first | (refine ⟨rfl, ?_⟩) | (refine ⟨trivial, ?_⟩) | (refine Wk.yes ?_) | (refine Wk.no ?_) | (refine Wk.and ?_) | (refine ⟨by exact ⟨shr_nonneg _ _, by decide⟩, ?_⟩) | (refine ⟨by exact ⟨shr_nonneg' _ _, by decide⟩, ?_⟩)); (conv => whnf)))
        rw [g0]
        (conv => whnf); (repeat ((first | (refine ⟨rfl, ?_⟩) | (refine ⟨trivial, ?_⟩) | (refine Wk.yes ?_) | (refine Wk.no ?_) | (refine Wk.and ?_) | (refine ⟨by exact ⟨shr_nonneg _ _, by decide⟩, ?_⟩) | (refine ⟨by exact ⟨shr_nonneg' _ _, by decide⟩, ?_⟩)); (conv => whnf)))
        refine ⟨⟨by omega, by omega, by rw [shl1 hq1]; unfold I64; omega⟩, ?_⟩
        rw [shl1 hq1]
        (conv => whnf); (repeat ((first | (refine ⟨rfl, ?_⟩) | (refine ⟨trivial, ?_⟩) | (refine Wk.yes ?_) | (refine Wk.no ?_) | (refine Wk.and ?_) | (refine ⟨by exact ⟨shr_nonneg _ _, by decide⟩, ?_⟩) | (refine ⟨by exact ⟨shr_nonneg' _ _, by decide⟩, ?_⟩)); (conv => whnf)))
        simp only [Int.toNat_natCast, ← hq3]
        rw [wget1, ← hw2]
        (conv => whnf); (repeat ((first | (refine ⟨rfl, ?_⟩) | (refine ⟨trivial, ?_⟩) | (refine Wk.yes ?_) | (refine Wk.no ?_) | (refine Wk.and ?_) | (refine ⟨by exact ⟨shr_nonneg _ _, by decide⟩, ?_⟩) | (refine ⟨by exact ⟨shr_nonneg' _ _, by decide⟩, ?_⟩)); (conv => whnf)))
        refine ⟨⟨by omega, by omega, by rw [shl1 hq2]; unfold I64; omega⟩, ?_⟩
        rw [shl1 hq2]
        (conv => whnf); (repeat ((first | (refine ⟨rfl, ?_⟩) | (refine ⟨trivial, ?_⟩) | (refine Wk.yes ?_) | (refine Wk.no ?_) | (refine Wk.and ?_) | (refine ⟨by exact ⟨shr_nonneg _ _, by decide⟩, ?_⟩) | (refine ⟨by exact ⟨shr_nonneg' _ _, by decide⟩, ?_⟩)); (conv => whnf)))
        refine Again.mk (i + 1) (Sub.nil ⟨rfl, rfl, (by simp [tab64_LL, gC, wB, giC, noneB, gst, tC, pC]), rfl, (by simp [tupA, hpLt, tmLt, AV.lt, AE.lt, AC.lt, LL_cons, LL_nil, idOk, ABlk.lt, ints_LL, GB, tab64_LL, gC, wB, giC, noneB, gst, tC, pC]), (by simp [tupA, hpLt, tmLt, AV.lt, AE.lt, AC.lt, LL_cons, LL_nil, idOk, ABlk.lt, ints_LL, GB, tab64_LL, gC, wB, giC, noneB, gst, tC, pC])⟩ ⟨rfl, rfl, by rw [hps]; rfl, rfl, trivial⟩ (by (repeat (first | exact trivial | refine ⟨trivial, ?_⟩ | refine ⟨rfl, ?_⟩)))) (by omega) (by omega)
      · have b2 : ¬ bit n i = 1 := fun h => b1 ((bit_test n i).1 h)
        rw [if_neg b1] at hps
        rw [decide_eq_false (show ¬ ((bit n i : Nat) : Int) = 1 by omega)]
        (conv => whnf); (repeat ((first | (refine ⟨rfl, ?_⟩) | (refine ⟨trivial, ?_⟩) | (refine Wk.yes ?_) | (refine Wk.no ?_) | (refine Wk.and ?_) | (refine ⟨by exact ⟨shr_nonneg _ _, by decide⟩, ?_⟩) | (refine ⟨by exact ⟨shr_nonneg' _ _, by decide⟩, ?_⟩)); (conv => whnf)))
        refine Again.mk (i + 1) (Sub.nil ⟨rfl, rfl, (by simp [tab64_LL, gC, wB, giC, noneB, gst, tC, pC]), rfl, (by simp [tupA, hpLt, tmLt, AV.lt, AE.lt, AC.lt, LL_cons, LL_nil, idOk, ABlk.lt, ints_LL, GB, tab64_LL, gC, wB, giC, noneB, gst, tC, pC]), (by simp [tupA, hpLt, tmLt, AV.lt, AE.lt, AC.lt, LL_cons, LL_nil, idOk, ABlk.lt, ints_LL, GB, tab64_LL, gC, wB, giC, noneB, gst, tC, pC])⟩ ⟨rfl, rfl, by rw [hps]; rfl, rfl, trivial⟩ (by (repeat (first | exact trivial | refine ⟨trivial, ?_⟩ | refine ⟨rfl, ?_⟩)))) (by omega) (by omega)
    · obtain rfl : i = g.ws.length := by omega
      (conv => whnf); (repeat ((first | (refine ⟨rfl, ?_⟩) | (refine ⟨trivial, ?_⟩) | (refine Wk.yes ?_) | (refine Wk.no ?_) | (refine Wk.and ?_) | (refine ⟨by exact ⟨shr_nonneg _ _, by decide⟩, ?_⟩) | (refine ⟨by exact ⟨shr_nonneg' _ _, by decide⟩, ?_⟩)); (conv => whnf)))
      rw [decide_eq_false (show ¬ ((g.ws.length : Nat) : Int) < ((g.ws.length : Nat) : Int) by omega)]
      intro _
      (conv => whnf); (repeat ((first | (refine ⟨rfl, ?_⟩) | (refine ⟨trivial, ?_⟩) | (refine Wk.yes ?_) | (refine Wk.no ?_) | (refine Wk.and ?_) | (refine ⟨by exact ⟨shr_nonneg _ _, by decide⟩, ?_⟩) | (refine ⟨by exact ⟨shr_nonneg' _ _, by decide⟩, ?_⟩)); (conv => whnf)))
      exact AH.Fin.nil [] ⟨rfl, rfl, rfl⟩ (by first | exact trivial | (simp [tupA, hpLt, tmLt, AV.lt, AE.lt, AC.lt, LL_cons, LL_nil, idOk, ABlk.lt, ints_LL, GB, tab64_LL, gC, wB, giC, noneB, gst, tC, pC]; done) | (simp [tupA, hpLt, tmLt, AV.lt, AE.lt, AC.lt, LL_cons, LL_nil, idOk, ABlk.lt, ints_LL, GB, tab64_LL, gC, wB, giC, noneB, gst, tC, pC, rdn, wrn]; done)) trivial trivial rfl (by simp [GB])
end Go.Proofs.YtfphkpdobbffeaaDoor

/-
  Contracts: two lists as two trees, by the reference.
-/
namespace Go.Proofs.YtfphkpdobbffeaaDoor
open Go Go.AH
set_option maxRecDepth 100000
set_option maxHeartbeats 1000000

def setV (n : Nat) (L : List Int) : Nat := cond (risTo n L L.length) (setToL L L.length) 0
def setOk (n : Nat) (L : List Int) : Bool := risTo n L L.length
theorem setV_lt (n : Nat) (L : List Int) : setV n L < 2 ^ n := by
  unfold setV
  cases h : risTo n L L.length with
  | true => exact setToL_lt _ h
  | false => exact Nat.pow_pos (by omega)
def areR (g : Gm) (x y : Bool) (a b : Nat) : Bool := x && (y && (decide (a &&& b = 0) && (decide (bit (placesN g a) g.s = 1) && (decide (bit (placesN g a) g.t = 1) && (treeR g a (placesN g a) && treeR g b (placesN g a))))))
theorem isTreesR_spec {g : Gm} (hg : g.ok) (L0 L1 : List Int) (h0 : L0.length ≤ 1000) (h1 : L1.length ≤ 1000) : FDet Tryd.prog 30 [.g (gC g 0), .g [.rs 1 0 L0.length, .rs 2 0 L1.length], .c (.bool false)] [(0, wB g), (1, .ro (ints L0)), (2, .ro (ints L1))] 3
    (.c (.bool (areR g (setOk g.ws.length L0) (setOk g.ws.length L1) (setV g.ws.length L0) (setV g.ws.length L1)))) [] 3 := by
  have hgl := hg.len
  have s0 := setR_spec hg L0 h0
  have s1 := setR_spec hg L1 h1
  have ha := setV_lt g.ws.length L0
  have hb := setV_lt g.ws.length L1
  change FDet _ _ _ _ _ (.t [.c (.int .i64 (setV g.ws.length L0 : Nat)), .c (.bool (setOk g.ws.length L0))]) _ _ at s0
  change FDet _ _ _ _ _ (.t [.c (.int .i64 (setV g.ws.length L1 : Nat)), .c (.bool (setOk g.ws.length L1))]) _ _ at s1
  generalize setV g.ws.length L0 = a at *
  generalize setV g.ws.length L1 = b at *
  generalize setOk g.ws.length L0 = x at *
  generalize setOk g.ws.length L1 = y at *
  have hp2 : 2 ^ g.ws.length ≤ 1024 := Nat.pow_le_pow_right (by omega) hgl
  have hpl : placesN g a < 2 ^ 8 := placesN_lt hg _ fun y hy => (mem_lt hgl ha hy).2
  have hs8 := hg.s
  have ht8 := hg.t
  have hn8 := hg.n8
  have c1 := bit_01 (placesN g a) g.s
  have c2 := bit_01 (placesN g a) g.t
  have hta := tree_spec hg (set := a) (pl := placesN g a) (by omega) (by omega)
  have htb := tree_spec hg (set := b) (pl := placesN g a) (by omega) (by omega)
  have hare : areR g x y a b = (x && (y && (decide (a &&& b = 0) && (decide (bit (placesN g a) g.s = 1) && (decide (bit (placesN g a) g.t = 1) && (treeR g a (placesN g a) && treeR g b (placesN g a))))))) := rfl
  generalize treeR g a (placesN g a) = ta at *
  generalize treeR g b (placesN g a) = tb at *
  refine FSpec.of_body tok true Tryd.func30 rfl (by kernel_rfl) (by decide) (by simp [tupA, hpLt, tmLt, AV.lt, AE.lt, AC.lt, LL_cons, LL_nil, idOk, ABlk.lt, ints_LL, GB, tab64_LL, gC, wB, giC, noneB, gst, tC, pC]) (by simp [tupA, hpLt, tmLt, AV.lt, AE.lt, AC.lt, LL_cons, LL_nil, idOk, ABlk.lt, ints_LL, GB, tab64_LL, gC, wB, giC, noneB, gst, tC, pC]) (by show 3 ≤ _; decide) ?_
  (conv => whnf); (repeat ((first | (refine ⟨rfl, ?_⟩) | (refine ⟨trivial, ?_⟩) | (refine Wk.yes ?_) | (refine Wk.no ?_) | (refine Wk.and ?_) | (refine ⟨by exact ⟨shr_nonneg _ _, by decide⟩, ?_⟩) | (refine ⟨by exact ⟨shr_nonneg' _ _, by decide⟩, ?_⟩)); (conv => whnf)))
  refine CallA.ro2 [0, 1] (.t [.c (.int .i64 a), .c (.bool x)]) (s0) ?_
  (conv => whnf); (repeat ((first | (refine ⟨rfl, ?_⟩) | (refine ⟨trivial, ?_⟩) | (refine Wk.yes ?_) | (refine Wk.no ?_) | (refine Wk.and ?_) | (refine ⟨by exact ⟨shr_nonneg _ _, by decide⟩, ?_⟩) | (refine ⟨by exact ⟨shr_nonneg' _ _, by decide⟩, ?_⟩)); (conv => whnf)))
  refine CallA.ro2 [0, 2] (.t [.c (.int .i64 b), .c (.bool y)]) (s1) ?_
  rw [hare]
  cases x with
  | false =>
    (conv => whnf); (repeat ((first | (refine ⟨rfl, ?_⟩) | (refine ⟨trivial, ?_⟩) | (refine Wk.yes ?_) | (refine Wk.no ?_) | (refine Wk.and ?_) | (refine ⟨by exact ⟨shr_nonneg _ _, by decide⟩, ?_⟩) | (refine ⟨by exact ⟨shr_nonneg' _ _, by decide⟩, ?_⟩)); (conv => whnf)))
    exact AH.Fin.nil2 ⟨rfl, rfl, rfl⟩
  | true =>
  cases y with
  | false =>
    (conv => whnf); (repeat ((first | (refine ⟨rfl, ?_⟩) | (refine ⟨trivial, ?_⟩) | (refine Wk.yes ?_) | (refine Wk.no ?_) | (refine Wk.and ?_) | (refine ⟨by exact ⟨shr_nonneg _ _, by decide⟩, ?_⟩) | (refine ⟨by exact ⟨shr_nonneg' _ _, by decide⟩, ?_⟩)); (conv => whnf)))
    exact AH.Fin.nil2 ⟨rfl, rfl, rfl⟩
  | true =>
  (conv => whnf); (repeat ((first | (refine ⟨rfl, ?_⟩) | (refine ⟨trivial, ?_⟩) | (refine Wk.yes ?_) | (refine Wk.no ?_) | (refine Wk.and ?_) | (refine ⟨by exact ⟨shr_nonneg _ _, by decide⟩, ?_⟩) | (refine ⟨by exact ⟨shr_nonneg' _ _, by decide⟩, ?_⟩)); (conv => whnf)))
  simp only [Int.toNat_natCast]
  by_cases d0 : a &&& b = 0
  rotate_left
  · rw [decide_eq_false d0, show (bif false then true else decide (((a &&& b : Nat) : Int) ≠ 0)) = true from by simp; omega]
    (conv => whnf); (repeat ((first | (refine ⟨rfl, ?_⟩) | (refine ⟨trivial, ?_⟩) | (refine Wk.yes ?_) | (refine Wk.no ?_) | (refine Wk.and ?_) | (refine ⟨by exact ⟨shr_nonneg _ _, by decide⟩, ?_⟩) | (refine ⟨by exact ⟨shr_nonneg' _ _, by decide⟩, ?_⟩)); (conv => whnf)))
    exact AH.Fin.nil2 ⟨rfl, rfl, rfl⟩
  rw [decide_eq_true d0, show (bif false then true else decide (((a &&& b : Nat) : Int) ≠ 0)) = false from by simp [d0]]
  (conv => whnf); (repeat ((first | (refine ⟨rfl, ?_⟩) | (refine ⟨trivial, ?_⟩) | (refine Wk.yes ?_) | (refine Wk.no ?_) | (refine Wk.and ?_) | (refine ⟨by exact ⟨shr_nonneg _ _, by decide⟩, ?_⟩) | (refine ⟨by exact ⟨shr_nonneg' _ _, by decide⟩, ?_⟩)); (conv => whnf)))
  refine CallA.ro2 [0] (.c (.int .i64 (placesN g a))) (placesR_spec hg ha) ?_
  (conv => whnf); (repeat ((first | (refine ⟨rfl, ?_⟩) | (refine ⟨trivial, ?_⟩) | (refine Wk.yes ?_) | (refine Wk.no ?_) | (refine Wk.and ?_) | (refine ⟨by exact ⟨shr_nonneg _ _, by decide⟩, ?_⟩) | (refine ⟨by exact ⟨shr_nonneg' _ _, by decide⟩, ?_⟩)); (conv => whnf)))
  rw [bitE]
  by_cases d1 : bit (placesN g a) g.s = 1
  rotate_left
  · rw [decide_eq_false d1, decide_eq_true (show ((bit (placesN g a) g.s : Nat) : Int) = 0 by omega)]
    (conv => whnf); (repeat ((first | (refine ⟨rfl, ?_⟩) | (refine ⟨trivial, ?_⟩) | (refine Wk.yes ?_) | (refine Wk.no ?_) | (refine Wk.and ?_) | (refine ⟨by exact ⟨shr_nonneg _ _, by decide⟩, ?_⟩) | (refine ⟨by exact ⟨shr_nonneg' _ _, by decide⟩, ?_⟩)); (conv => whnf)))
    exact AH.Fin.nil2 ⟨rfl, rfl, rfl⟩
  rw [decide_eq_true d1, decide_eq_false (show ¬ ((bit (placesN g a) g.s : Nat) : Int) = 0 by omega)]
  (conv => whnf); (repeat ((first | (refine ⟨rfl, ?_⟩) | (refine ⟨trivial, ?_⟩) | (refine Wk.yes ?_) | (refine Wk.no ?_) | (refine Wk.and ?_) | (refine ⟨by exact ⟨shr_nonneg _ _, by decide⟩, ?_⟩) | (refine ⟨by exact ⟨shr_nonneg' _ _, by decide⟩, ?_⟩)); (conv => whnf)))
  rw [bitE]
  by_cases d2 : bit (placesN g a) g.t = 1
  rotate_left
  · rw [decide_eq_false d2, decide_eq_true (show ((bit (placesN g a) g.t : Nat) : Int) = 0 by omega)]
    (conv => whnf); (repeat ((first | (refine ⟨rfl, ?_⟩) | (refine ⟨trivial, ?_⟩) | (refine Wk.yes ?_) | (refine Wk.no ?_) | (refine Wk.and ?_) | (refine ⟨by exact ⟨shr_nonneg _ _, by decide⟩, ?_⟩) | (refine ⟨by exact ⟨shr_nonneg' _ _, by decide⟩, ?_⟩)); (conv => whnf)))
    exact AH.Fin.nil2 ⟨rfl, rfl, rfl⟩
  rw [decide_eq_true d2, decide_eq_false (show ¬ ((bit (placesN g a) g.t : Nat) : Int) = 0 by omega)]
  (conv => whnf); (repeat ((first | (refine ⟨rfl, ?_⟩) | (refine ⟨trivial, ?_⟩) | (refine Wk.yes ?_) | (refine Wk.no ?_) | (refine Wk.and ?_) | (refine ⟨by exact ⟨shr_nonneg _ _, by decide⟩, ?_⟩) | (refine ⟨by exact ⟨shr_nonneg' _ _, by decide⟩, ?_⟩)); (conv => whnf)))
  refine CallA.ro2 [0] (.c (.bool ta)) (hta) ?_
  cases ta with
  | false =>
    (conv => whnf); (repeat ((first | (refine ⟨rfl, ?_⟩) | (refine ⟨trivial, ?_⟩) | (refine Wk.yes ?_) | (refine Wk.no ?_) | (refine Wk.and ?_) | (refine ⟨by exact ⟨shr_nonneg _ _, by decide⟩, ?_⟩) | (refine ⟨by exact ⟨shr_nonneg' _ _, by decide⟩, ?_⟩)); (conv => whnf)))
    exact AH.Fin.nil2 ⟨rfl, rfl, rfl⟩
  | true =>
    (conv => whnf); (repeat ((first | (refine ⟨rfl, ?_⟩) | (refine ⟨trivial, ?_⟩) | (refine Wk.yes ?_) | (refine Wk.no ?_) | (refine Wk.and ?_) | (refine ⟨by exact ⟨shr_nonneg _ _, by decide⟩, ?_⟩) | (refine ⟨by exact ⟨shr_nonneg' _ _, by decide⟩, ?_⟩)); (conv => whnf)))
    refine CallA.ro2 [0] (.c (.bool tb)) (htb) ?_
    (conv => whnf); (repeat ((first | (refine ⟨rfl, ?_⟩) | (refine ⟨trivial, ?_⟩) | (refine Wk.yes ?_) | (refine Wk.no ?_) | (refine Wk.and ?_) | (refine ⟨by exact ⟨shr_nonneg _ _, by decide⟩, ?_⟩) | (refine ⟨by exact ⟨shr_nonneg' _ _, by decide⟩, ?_⟩)); (conv => whnf)))
    exact AH.Fin.nil2 ⟨rfl, rfl, rfl⟩
end Go.Proofs.YtfphkpdobbffeaaDoor

/-
  Contracts: two lists as two trees, and the reply, by the program.
-/
namespace Go.Proofs.YtfphkpdobbffeaaDoor
open Go Go.AH
set_option maxRecDepth 100000
set_option maxHeartbeats 1000000

def areB (g : Gm) (x y : Bool) (a b : Nat) : Bool := x && (y && (decide (a &&& b = 0) && (decide (placesN g a &&& endsN g = endsN g) && (isTreeB g a (placesN g a) && isTreeB g b (placesN g a)))))
theorem are_eq {g : Gm} (hg : g.ok) (hst : g.s ≠ g.t) {a b : Nat} (ha : a < 2 ^ g.ws.length) (hb : b < 2 ^ g.ws.length) (x y : Bool) : areB g x y a b = areR g x y a b := by
  have he := ends_iff (pl := placesN g a) (s := g.s) (t := g.t)
  unfold areB areR endsN
  rw [Bool.eq_iff_iff]
  simp only [Bool.and_eq_true, decide_eq_true_eq, he, bit_test]
  constructor
  · rintro ⟨h1, h2, h3, ⟨h4, h5⟩, h6, h7⟩
    have hp := pop_two (placesN_lt8 hg ha) hst h4 h5
    rw [tree_pl hg ha (places_ltn hg ha) hp] at h6
    rw [tree_pl hg hb (places_ltn hg ha) hp] at h7
    exact ⟨h1, h2, h3, h4, h5, h6, h7⟩
  · rintro ⟨h1, h2, h3, h4, h5, h6, h7⟩
    have hp := pop_two (placesN_lt8 hg ha) hst h4 h5
    rw [← tree_pl hg ha (places_ltn hg ha) hp] at h6
    rw [← tree_pl hg hb (places_ltn hg ha) hp] at h7
    exact ⟨h1, h2, h3, ⟨h4, h5⟩, h6, h7⟩
theorem areTrees_spec {g : Gm} (hg : g.ok) (L0 L1 : List Int) (h0 : L0.length ≤ 1000) (h1 : L1.length ≤ 1000) : FDet Tryd.prog 73 [.g (gC g 0), .g [.rs 1 0 L0.length, .rs 2 0 L1.length]] [(0, wB g), (1, .ro (ints L0)), (2, .ro (ints L1)), (100002, .ro tab64)] 3
    (.t [.g [.int .i64 (setV g.ws.length L0), .int .i64 (setV g.ws.length L1)], .c (.bool (areB g (setOk g.ws.length L0) (setOk g.ws.length L1) (setV g.ws.length L0) (setV g.ws.length L1)))]) [] 3 := by
  have hgl := hg.len
  have s0 := set_spec hg L0 h0
  have s1 := set_spec hg L1 h1
  have ha := setV_lt g.ws.length L0
  have hb := setV_lt g.ws.length L1
  change FDet _ _ _ _ _ (.t [.c (.int .i64 (setV g.ws.length L0 : Nat)), .c (.bool (setOk g.ws.length L0))]) _ _ at s0
  change FDet _ _ _ _ _ (.t [.c (.int .i64 (setV g.ws.length L1 : Nat)), .c (.bool (setOk g.ws.length L1))]) _ _ at s1
  generalize setV g.ws.length L0 = a at *
  generalize setV g.ws.length L1 = b at *
  generalize setOk g.ws.length L0 = x at *
  generalize setOk g.ws.length L1 = y at *
  have hp2 : 2 ^ g.ws.length ≤ 1024 := Nat.pow_le_pow_right (by omega) hgl
  have hpl : placesN g a < 2 ^ 8 := placesN_lt hg _ fun y hy => (mem_lt hgl ha hy).2
  have hen := endsN_lt hg
  refine FSpec.of_body tok true Tryd.func73 rfl (by kernel_rfl) (by decide) (by simp [tupA, hpLt, tmLt, AV.lt, AE.lt, AC.lt, LL_cons, LL_nil, idOk, ABlk.lt, ints_LL, GB, tab64_LL, gC, wB, giC, noneB, gst, tC, pC]) (by simp [tupA, hpLt, tmLt, AV.lt, AE.lt, AC.lt, LL_cons, LL_nil, idOk, ABlk.lt, ints_LL, GB, tab64_LL, gC, wB, giC, noneB, gst, tC, pC]) (by show 2 ≤ _; decide) ?_
  (conv => whnf); (repeat ((first | (refine ⟨rfl, ?_⟩) | (refine ⟨trivial, ?_⟩) | (refine Wk.yes ?_) | (refine Wk.no ?_) | (refine Wk.and ?_) | (refine ⟨by exact ⟨shr_nonneg _ _, by decide⟩, ?_⟩) | (refine ⟨by exact ⟨shr_nonneg' _ _, by decide⟩, ?_⟩)); (conv => whnf)))
  refine CallA.ro [0, 1] (.t [.c (.int .i64 a), .c (.bool x)]) (s0) (by first | rfl | exact congrArg AV.g (ints_ren _ _) | (simp [ints_ren, AV.ren, ABlk.ren, AC.ren, AE.ren, qq]; done)) rfl (by (repeat (first | exact trivial | refine ⟨⟨(by first | exact .inl (by decide) | exact .inr (by decide)), (by first | (refine Or.inl ?_; first | rfl | exact congrArg some (ints_ren _ _).symm | exact congrArg ABlk.own (ints_ren _ _).symm | exact congrArg some (tab64_ren _).symm) | rfl | exact congrArg some (ints_ren _ _).symm | exact congrArg ABlk.own (ints_ren _ _).symm | exact congrArg some (tab64_ren _).symm | exact Or.inr ⟨rfl, rfl⟩)⟩, ?_⟩))) (by first | rfl | exact congrArg AV.g (ints_ren _ _) | (simp [ints_ren, AV.ren, ABlk.ren, AC.ren, AE.ren, qq]; done)) ?_
  (conv => whnf); (repeat ((first | (refine ⟨rfl, ?_⟩) | (refine ⟨trivial, ?_⟩) | (refine Wk.yes ?_) | (refine Wk.no ?_) | (refine Wk.and ?_) | (refine ⟨by exact ⟨shr_nonneg _ _, by decide⟩, ?_⟩) | (refine ⟨by exact ⟨shr_nonneg' _ _, by decide⟩, ?_⟩)); (conv => whnf)))
  refine CallA.ro [0, 2] (.t [.c (.int .i64 b), .c (.bool y)]) (s1) (by first | rfl | exact congrArg AV.g (ints_ren _ _) | (simp [ints_ren, AV.ren, ABlk.ren, AC.ren, AE.ren, qq]; done)) rfl (by (repeat (first | exact trivial | refine ⟨⟨(by first | exact .inl (by decide) | exact .inr (by decide)), (by first | (refine Or.inl ?_; first | rfl | exact congrArg some (ints_ren _ _).symm | exact congrArg ABlk.own (ints_ren _ _).symm | exact congrArg some (tab64_ren _).symm) | rfl | exact congrArg some (ints_ren _ _).symm | exact congrArg ABlk.own (ints_ren _ _).symm | exact congrArg some (tab64_ren _).symm | exact Or.inr ⟨rfl, rfl⟩)⟩, ?_⟩))) (by first | rfl | exact congrArg AV.g (ints_ren _ _) | (simp [ints_ren, AV.ren, ABlk.ren, AC.ren, AE.ren, qq]; done)) ?_
  (conv => whnf); (repeat ((first | (refine ⟨rfl, ?_⟩) | (refine ⟨trivial, ?_⟩) | (refine Wk.yes ?_) | (refine Wk.no ?_) | (refine Wk.and ?_) | (refine ⟨by exact ⟨shr_nonneg _ _, by decide⟩, ?_⟩) | (refine ⟨by exact ⟨shr_nonneg' _ _, by decide⟩, ?_⟩)); (conv => whnf)))
  refine CallA.ro [0] (.c (.int .i64 (placesN g a))) (places_spec hg ha) (by first | rfl | exact congrArg AV.g (ints_ren _ _) | (simp [ints_ren, AV.ren, ABlk.ren, AC.ren, AE.ren, qq]; done)) rfl (by (repeat (first | exact trivial | refine ⟨⟨(by first | exact .inl (by decide) | exact .inr (by decide)), (by first | (refine Or.inl ?_; first | rfl | exact congrArg some (ints_ren _ _).symm | exact congrArg ABlk.own (ints_ren _ _).symm | exact congrArg some (tab64_ren _).symm) | rfl | exact congrArg some (ints_ren _ _).symm | exact congrArg ABlk.own (ints_ren _ _).symm | exact congrArg some (tab64_ren _).symm | exact Or.inr ⟨rfl, rfl⟩)⟩, ?_⟩))) (by first | rfl | exact congrArg AV.g (ints_ren _ _) | (simp [ints_ren, AV.ren, ABlk.ren, AC.ren, AE.ren, qq]; done)) ?_
  (conv => whnf); (repeat ((first | (refine ⟨rfl, ?_⟩) | (refine ⟨trivial, ?_⟩) | (refine Wk.yes ?_) | (refine Wk.no ?_) | (refine Wk.and ?_) | (refine ⟨by exact ⟨shr_nonneg _ _, by decide⟩, ?_⟩) | (refine ⟨by exact ⟨shr_nonneg' _ _, by decide⟩, ?_⟩)); (conv => whnf)))
  refine Tr.draw (md := true) [⟨[], [29, 31, 32, 33, 34, 35, 36, 37, 38, 39, 40, 41, 42, 43, 44, 45, 46, 47, 48, 49, 50, 51, 52, 53, 54, 55, 56, 57, 58, 59, 60, 61], [], [], []⟩, ⟨[], [28, 31, 32, 33, 34, 35, 36, 37, 38, 39, 40, 41, 42, 43, 44, 45, 46, 47, 48, 49, 50, 51, 52, 53, 54, 55, 56, 57, 58, 59, 60, 61], [0], [], []⟩, ⟨[0, 1], [31, 32, 33, 34, 35, 36, 37, 38, 39, 40, 41, 42, 43, 44, 45, 46, 47, 48, 49, 50, 51, 52, 53, 54, 55, 56, 57, 58, 59, 60, 61], [], [], []⟩, ⟨[], [28, 29, 30], [0, 1, 2], [], []⟩, ⟨[3], [28, 29, 30], [0, 1, 2], [], []⟩, ⟨[3, 4], [28, 29, 30], [0, 1, 2], [], []⟩, ⟨[3, 4, 5], [28, 29, 30], [0, 1, 2], [], []⟩, ⟨[3, 4, 5, 6], [28, 29, 30], [0, 1, 2], [], []⟩, ⟨[3, 4, 5, 6, 7], [28, 29, 30, 37], [0, 1, 2], [], []⟩, ⟨[3, 4, 5, 6, 7], [28, 29, 30, 36], [0, 1, 2, 8], [], []⟩, ⟨[3, 4, 5, 6, 7, 8, 9], [28, 29, 30], [0, 1, 2], [], []⟩, ⟨[3, 4, 5, 6, 7, 8, 9, 10], [28, 29, 30], [0, 1, 2], [], []⟩, ⟨[3, 4, 5, 6, 7, 8, 9, 10, 11], [28, 29, 30], [0, 1, 2], [], []⟩, ⟨[3, 4, 5, 6, 7, 8, 9, 10, 11, 12], [28, 29, 30], [0, 1, 2], [], []⟩, ⟨[3, 4, 5, 6, 7, 8, 9, 10, 11, 12, 13], [28, 29, 30, 43, 44, 46, 47], [0, 1, 2], [], []⟩, ⟨[3, 4, 5, 6, 7, 8, 9, 10, 11, 12, 13], [28, 29, 30, 42, 46], [0, 1, 2, 14], [], []⟩, ⟨[3, 4, 5, 6, 7, 8, 9, 10, 11, 12, 13, 15], [28, 29, 30, 42, 46], [0, 1, 2, 14], [], []⟩, ⟨[3, 4, 5, 6, 7, 8, 9, 10, 11, 12, 13, 14, 15, 16], [28, 29, 30, 46, 47], [0, 1, 2], [], []⟩, ⟨[3, 4, 5, 6, 7, 8, 9, 10, 11, 12, 13], [28, 29, 30, 42, 43, 44, 45], [0, 1, 2, 14, 15, 16, 17], [], []⟩, ⟨[3, 4, 5, 6, 7, 8, 9, 10, 11, 12, 13, 15, 16, 18], [28, 29, 30, 42, 45], [0, 1, 2, 14, 17], [], []⟩, ⟨[3, 4, 5, 6, 7, 8, 9, 10, 11, 12, 13, 14, 15, 16, 17, 18, 19], [28, 29, 30], [0, 1, 2], [], []⟩, ⟨[3, 4, 5, 6, 7, 8, 9, 10, 11, 12, 13, 14, 15, 16, 17, 18, 19, 20], [28, 29, 30], [0, 1, 2], [], []⟩, ⟨[3, 4, 5, 6, 7, 8, 9, 10, 11, 12, 13, 14, 15, 16, 17, 18, 19, 20, 21], [28, 29, 30], [0, 1, 2], [], []⟩, ⟨[3, 4, 5, 6, 7, 8, 9, 10, 11, 12, 13, 14, 15, 16, 17, 18, 19, 20, 21, 22], [28, 29, 30, 52, 53], [0, 1, 2], [], []⟩, ⟨[3, 4, 5, 6, 7, 8, 9, 10, 11, 12, 13, 14, 15, 16, 17, 18, 19, 20, 21, 22], [28, 29, 30, 51, 53], [0, 1, 2, 23], [], []⟩, ⟨[3, 4, 5, 6, 7, 8, 9, 10, 11, 12, 13, 14, 15, 16, 17, 18, 19, 20, 21, 22], [28, 29, 30, 51, 52], [0, 1, 2, 23, 24], [], []⟩, ⟨[3, 4, 5, 6, 7, 8, 9, 10, 11, 12, 13, 14, 15, 16, 17, 18, 19, 20, 21, 22, 23, 24, 25], [28, 29, 30], [0, 1, 2], [], []⟩, ⟨[3, 4, 5, 6, 7, 8, 9, 10, 11, 12, 13, 14, 15, 16, 17, 18, 19, 20, 21, 22, 23, 24, 25, 26], [28, 29, 30], [0, 1, 2], [], []⟩, ⟨[3, 4, 5, 6, 7, 8, 9, 10, 11, 12, 13, 14, 15, 16, 17, 18, 19, 20, 21, 22, 23, 24, 25, 26, 27], [28, 29, 30], [0, 1, 2], [], []⟩, ⟨[3, 4, 5, 6, 7, 8, 9, 10, 11, 12, 13, 14, 15, 16, 17, 18, 19, 20, 21, 22, 23, 24, 25, 26, 27, 28], [28, 29, 30, 58, 59], [0, 1, 2], [], []⟩, ⟨[3, 4, 5, 6, 7, 8, 9, 10, 11, 12, 13, 14, 15, 16, 17, 18, 19, 20, 21, 22, 23, 24, 25, 26, 27, 28], [28, 29, 30, 57, 59], [0, 1, 2, 29], [], []⟩, ⟨[3, 4, 5, 6, 7, 8, 9, 10, 11, 12, 13, 14, 15, 16, 17, 18, 19, 20, 21, 22, 23, 24, 25, 26, 27, 28], [28, 29, 30, 57, 58], [0, 1, 2, 29, 30], [], []⟩, ⟨[3, 4, 5, 6, 7, 8, 9, 10, 11, 12, 13, 14, 15, 16, 17, 18, 19, 20, 21, 22, 23, 24, 25, 26, 27, 28, 29, 30, 31], [28, 29, 30], [0, 1, 2], [], []⟩, ⟨[3, 4, 5, 6, 7, 8, 9, 10, 11, 12, 13, 14, 15, 16, 17, 18, 19, 20, 21, 22, 23, 24, 25, 26, 27, 28, 29, 30, 31, 32], [28, 29, 30], [0, 1, 2], [], [5]⟩, ⟨[0, 1, 2, 3, 4, 5, 6, 7, 8, 9, 10, 11, 12, 13, 14, 15, 16, 17, 18, 19, 20, 21, 22, 23, 24, 25, 26, 27, 28, 29, 30, 31, 32], [61], [33], [5], []⟩] tok (by kernel_rfl) (by kernel_rfl) ?_
  (conv => whnf); (repeat ((first | (refine ⟨rfl, ?_⟩) | (refine ⟨trivial, ?_⟩) | (refine Wk.yes ?_) | (refine Wk.no ?_) | (refine Wk.and ?_) | (refine ⟨by exact ⟨shr_nonneg _ _, by decide⟩, ?_⟩) | (refine ⟨by exact ⟨shr_nonneg' _ _, by decide⟩, ?_⟩)); (conv => whnf)))
  have hare : areB g x y a b = (x && (y && (decide (a &&& b = 0) && (decide (placesN g a &&& endsN g = endsN g) && (isTreeB g a (placesN g a) && isTreeB g b (placesN g a)))))) := rfl
  rw [hare]
  have hta := isTree_spec hg (n := a) (pl := placesN g a) ha (by omega)
  have htb := isTree_spec hg (n := b) (pl := placesN g a) hb (by omega)
  generalize isTreeB g a (placesN g a) = ta at *
  generalize isTreeB g b (placesN g a) = tb at *
  generalize placesN g a = pl at *
  cases x with
  | false =>
    (conv => whnf); (repeat ((first | (refine ⟨rfl, ?_⟩) | (refine ⟨trivial, ?_⟩) | (refine Wk.yes ?_) | (refine Wk.no ?_) | (refine Wk.and ?_) | (refine ⟨by exact ⟨shr_nonneg _ _, by decide⟩, ?_⟩) | (refine ⟨by exact ⟨shr_nonneg' _ _, by decide⟩, ?_⟩)); (conv => whnf)))
    exact AH.Fin.nil [] ⟨rfl, rfl, rfl⟩ (by first | exact trivial | (simp [tupA, hpLt, tmLt, AV.lt, AE.lt, AC.lt, LL_cons, LL_nil, idOk, ABlk.lt, ints_LL, GB, tab64_LL, gC, wB, giC, noneB, gst, tC, pC]; done) | (simp [tupA, hpLt, tmLt, AV.lt, AE.lt, AC.lt, LL_cons, LL_nil, idOk, ABlk.lt, ints_LL, GB, tab64_LL, gC, wB, giC, noneB, gst, tC, pC, rdn, wrn]; done)) trivial trivial rfl (by simp [GB])
  | true =>
  (conv => whnf); (repeat ((first | (refine ⟨rfl, ?_⟩) | (refine ⟨trivial, ?_⟩) | (refine Wk.yes ?_) | (refine Wk.no ?_) | (refine Wk.and ?_) | (refine ⟨by exact ⟨shr_nonneg _ _, by decide⟩, ?_⟩) | (refine ⟨by exact ⟨shr_nonneg' _ _, by decide⟩, ?_⟩)); (conv => whnf)))
  cases y with
  | false =>
    (conv => whnf); (repeat ((first | (refine ⟨rfl, ?_⟩) | (refine ⟨trivial, ?_⟩) | (refine Wk.yes ?_) | (refine Wk.no ?_) | (refine Wk.and ?_) | (refine ⟨by exact ⟨shr_nonneg _ _, by decide⟩, ?_⟩) | (refine ⟨by exact ⟨shr_nonneg' _ _, by decide⟩, ?_⟩)); (conv => whnf)))
    exact AH.Fin.nil [] ⟨rfl, rfl, rfl⟩ (by first | exact trivial | (simp [tupA, hpLt, tmLt, AV.lt, AE.lt, AC.lt, LL_cons, LL_nil, idOk, ABlk.lt, ints_LL, GB, tab64_LL, gC, wB, giC, noneB, gst, tC, pC]; done) | (simp [tupA, hpLt, tmLt, AV.lt, AE.lt, AC.lt, LL_cons, LL_nil, idOk, ABlk.lt, ints_LL, GB, tab64_LL, gC, wB, giC, noneB, gst, tC, pC, rdn, wrn]; done)) trivial trivial rfl (by simp [GB])
  | true =>
  (conv => whnf); (repeat ((first | (refine ⟨rfl, ?_⟩) | (refine ⟨trivial, ?_⟩) | (refine Wk.yes ?_) | (refine Wk.no ?_) | (refine Wk.and ?_) | (refine ⟨by exact ⟨shr_nonneg _ _, by decide⟩, ?_⟩) | (refine ⟨by exact ⟨shr_nonneg' _ _, by decide⟩, ?_⟩)); (conv => whnf)))
  simp only [Int.toNat_natCast]
  by_cases d0 : a &&& b = 0
  rotate_left
  · rw [decide_eq_false d0, decide_eq_false (show ¬ ((a &&& b : Nat) : Int) = 0 by omega)]
    (conv => whnf); (repeat ((first | (refine ⟨rfl, ?_⟩) | (refine ⟨trivial, ?_⟩) | (refine Wk.yes ?_) | (refine Wk.no ?_) | (refine Wk.and ?_) | (refine ⟨by exact ⟨shr_nonneg _ _, by decide⟩, ?_⟩) | (refine ⟨by exact ⟨shr_nonneg' _ _, by decide⟩, ?_⟩)); (conv => whnf)))
    exact AH.Fin.nil [] ⟨rfl, rfl, rfl⟩ (by first | exact trivial | (simp [tupA, hpLt, tmLt, AV.lt, AE.lt, AC.lt, LL_cons, LL_nil, idOk, ABlk.lt, ints_LL, GB, tab64_LL, gC, wB, giC, noneB, gst, tC, pC]; done) | (simp [tupA, hpLt, tmLt, AV.lt, AE.lt, AC.lt, LL_cons, LL_nil, idOk, ABlk.lt, ints_LL, GB, tab64_LL, gC, wB, giC, noneB, gst, tC, pC, rdn, wrn]; done)) trivial trivial rfl (by simp [GB])
  rw [decide_eq_true d0, decide_eq_true (show ((a &&& b : Nat) : Int) = 0 by omega)]
  (conv => whnf); (repeat ((first | (refine ⟨rfl, ?_⟩) | (refine ⟨trivial, ?_⟩) | (refine Wk.yes ?_) | (refine Wk.no ?_) | (refine Wk.and ?_) | (refine ⟨by exact ⟨shr_nonneg _ _, by decide⟩, ?_⟩) | (refine ⟨by exact ⟨shr_nonneg' _ _, by decide⟩, ?_⟩)); (conv => whnf)))
  refine CallQ.ro [0] (.c (.int .i64 (endsN g))) (ends_spec hg) (by first | rfl | exact congrArg AV.g (ints_ren _ _) | (simp [ints_ren, AV.ren, ABlk.ren, AC.ren, AE.ren, qq]; done)) rfl (by (repeat (first | exact trivial | refine ⟨⟨(by first | exact .inl (by decide) | exact .inr (by decide)), (by first | (refine Or.inl ?_; first | rfl | exact congrArg some (ints_ren _ _).symm | exact congrArg ABlk.own (ints_ren _ _).symm | exact congrArg some (tab64_ren _).symm) | rfl | exact congrArg some (ints_ren _ _).symm | exact congrArg ABlk.own (ints_ren _ _).symm | exact congrArg some (tab64_ren _).symm | exact Or.inr ⟨rfl, rfl⟩)⟩, ?_⟩))) (by first | rfl | exact congrArg AV.g (ints_ren _ _) | (simp [ints_ren, AV.ren, ABlk.ren, AC.ren, AE.ren, qq]; done)) ?_
  (conv => whnf); (repeat ((first | (refine ⟨rfl, ?_⟩) | (refine ⟨trivial, ?_⟩) | (refine Wk.yes ?_) | (refine Wk.no ?_) | (refine Wk.and ?_) | (refine ⟨by exact ⟨shr_nonneg _ _, by decide⟩, ?_⟩) | (refine ⟨by exact ⟨shr_nonneg' _ _, by decide⟩, ?_⟩)); (conv => whnf)))
  refine CallQ.ro [0] (.c (.int .i64 (endsN g))) (ends_spec hg) (by first | rfl | exact congrArg AV.g (ints_ren _ _) | (simp [ints_ren, AV.ren, ABlk.ren, AC.ren, AE.ren, qq]; done)) rfl (by (repeat (first | exact trivial | refine ⟨⟨(by first | exact .inl (by decide) | exact .inr (by decide)), (by first | (refine Or.inl ?_; first | rfl | exact congrArg some (ints_ren _ _).symm | exact congrArg ABlk.own (ints_ren _ _).symm | exact congrArg some (tab64_ren _).symm) | rfl | exact congrArg some (ints_ren _ _).symm | exact congrArg ABlk.own (ints_ren _ _).symm | exact congrArg some (tab64_ren _).symm | exact Or.inr ⟨rfl, rfl⟩)⟩, ?_⟩))) (by first | rfl | exact congrArg AV.g (ints_ren _ _) | (simp [ints_ren, AV.ren, ABlk.ren, AC.ren, AE.ren, qq]; done)) ?_
  (conv => whnf); (repeat ((first | (refine ⟨rfl, ?_⟩) | (refine ⟨trivial, ?_⟩) | (refine Wk.yes ?_) | (refine Wk.no ?_) | (refine Wk.and ?_) | (refine ⟨by exact ⟨shr_nonneg _ _, by decide⟩, ?_⟩) | (refine ⟨by exact ⟨shr_nonneg' _ _, by decide⟩, ?_⟩)); (conv => whnf)))
  simp only [Int.toNat_natCast]
  by_cases d1 : pl &&& endsN g = endsN g
  rotate_left
  · rw [decide_eq_false d1, decide_eq_false (show ¬ ((pl &&& endsN g : Nat) : Int) = ((endsN g : Nat) : Int) by omega)]
    (conv => whnf); (repeat ((first | (refine ⟨rfl, ?_⟩) | (refine ⟨trivial, ?_⟩) | (refine Wk.yes ?_) | (refine Wk.no ?_) | (refine Wk.and ?_) | (refine ⟨by exact ⟨shr_nonneg _ _, by decide⟩, ?_⟩) | (refine ⟨by exact ⟨shr_nonneg' _ _, by decide⟩, ?_⟩)); (conv => whnf)))
    exact AH.Fin.nil [] ⟨rfl, rfl, rfl⟩ (by first | exact trivial | (simp [tupA, hpLt, tmLt, AV.lt, AE.lt, AC.lt, LL_cons, LL_nil, idOk, ABlk.lt, ints_LL, GB, tab64_LL, gC, wB, giC, noneB, gst, tC, pC]; done) | (simp [tupA, hpLt, tmLt, AV.lt, AE.lt, AC.lt, LL_cons, LL_nil, idOk, ABlk.lt, ints_LL, GB, tab64_LL, gC, wB, giC, noneB, gst, tC, pC, rdn, wrn]; done)) trivial trivial rfl (by simp [GB])
  rw [decide_eq_true d1, decide_eq_true (show ((pl &&& endsN g : Nat) : Int) = ((endsN g : Nat) : Int) by omega)]
  (conv => whnf); (repeat ((first | (refine ⟨rfl, ?_⟩) | (refine ⟨trivial, ?_⟩) | (refine Wk.yes ?_) | (refine Wk.no ?_) | (refine Wk.and ?_) | (refine ⟨by exact ⟨shr_nonneg _ _, by decide⟩, ?_⟩) | (refine ⟨by exact ⟨shr_nonneg' _ _, by decide⟩, ?_⟩)); (conv => whnf)))
  refine CallQ.ro [0] (.c (.bool ta)) (hta) (by first | rfl | exact congrArg AV.g (ints_ren _ _) | (simp [ints_ren, AV.ren, ABlk.ren, AC.ren, AE.ren, qq]; done)) rfl (by (repeat (first | exact trivial | refine ⟨⟨(by first | exact .inl (by decide) | exact .inr (by decide)), (by first | (refine Or.inl ?_; first | rfl | exact congrArg some (ints_ren _ _).symm | exact congrArg ABlk.own (ints_ren _ _).symm | exact congrArg some (tab64_ren _).symm) | rfl | exact congrArg some (ints_ren _ _).symm | exact congrArg ABlk.own (ints_ren _ _).symm | exact congrArg some (tab64_ren _).symm | exact Or.inr ⟨rfl, rfl⟩)⟩, ?_⟩))) (by first | rfl | exact congrArg AV.g (ints_ren _ _) | (simp [ints_ren, AV.ren, ABlk.ren, AC.ren, AE.ren, qq]; done)) ?_
  (conv => whnf); (repeat ((first | (refine ⟨rfl, ?_⟩) | (refine ⟨trivial, ?_⟩) | (refine Wk.yes ?_) | (refine Wk.no ?_) | (refine Wk.and ?_) | (refine ⟨by exact ⟨shr_nonneg _ _, by decide⟩, ?_⟩) | (refine ⟨by exact ⟨shr_nonneg' _ _, by decide⟩, ?_⟩)); (conv => whnf)))
  cases ta with
  | false =>
    (conv => whnf); (repeat ((first | (refine ⟨rfl, ?_⟩) | (refine ⟨trivial, ?_⟩) | (refine Wk.yes ?_) | (refine Wk.no ?_) | (refine Wk.and ?_) | (refine ⟨by exact ⟨shr_nonneg _ _, by decide⟩, ?_⟩) | (refine ⟨by exact ⟨shr_nonneg' _ _, by decide⟩, ?_⟩)); (conv => whnf)))
    exact AH.Fin.nil [] ⟨rfl, rfl, rfl⟩ (by first | exact trivial | (simp [tupA, hpLt, tmLt, AV.lt, AE.lt, AC.lt, LL_cons, LL_nil, idOk, ABlk.lt, ints_LL, GB, tab64_LL, gC, wB, giC, noneB, gst, tC, pC]; done) | (simp [tupA, hpLt, tmLt, AV.lt, AE.lt, AC.lt, LL_cons, LL_nil, idOk, ABlk.lt, ints_LL, GB, tab64_LL, gC, wB, giC, noneB, gst, tC, pC, rdn, wrn]; done)) trivial trivial rfl (by simp [GB])
  | true =>
    (conv => whnf); (repeat ((first | (refine ⟨rfl, ?_⟩) | (refine ⟨trivial, ?_⟩) | (refine Wk.yes ?_) | (refine Wk.no ?_) | (refine Wk.and ?_) | (refine ⟨by exact ⟨shr_nonneg _ _, by decide⟩, ?_⟩) | (refine ⟨by exact ⟨shr_nonneg' _ _, by decide⟩, ?_⟩)); (conv => whnf)))
    refine CallQ.ro [0] (.c (.bool tb)) (htb) (by first | rfl | exact congrArg AV.g (ints_ren _ _) | (simp [ints_ren, AV.ren, ABlk.ren, AC.ren, AE.ren, qq]; done)) rfl (by (repeat (first | exact trivial | refine ⟨⟨(by first | exact .inl (by decide) | exact .inr (by decide)), (by first | (refine Or.inl ?_; first | rfl | exact congrArg some (ints_ren _ _).symm | exact congrArg ABlk.own (ints_ren _ _).symm | exact congrArg some (tab64_ren _).symm) | rfl | exact congrArg some (ints_ren _ _).symm | exact congrArg ABlk.own (ints_ren _ _).symm | exact congrArg some (tab64_ren _).symm | exact Or.inr ⟨rfl, rfl⟩)⟩, ?_⟩))) (by first | rfl | exact congrArg AV.g (ints_ren _ _) | (simp [ints_ren, AV.ren, ABlk.ren, AC.ren, AE.ren, qq]; done)) ?_
    (conv => whnf); (repeat ((first | (refine ⟨rfl, ?_⟩) | (refine ⟨trivial, ?_⟩) | (refine Wk.yes ?_) | (refine Wk.no ?_) | (refine Wk.and ?_) | (refine ⟨by exact ⟨shr_nonneg _ _, by decide⟩, ?_⟩) | (refine ⟨by exact ⟨shr_nonneg' _ _, by decide⟩, ?_⟩)); (conv => whnf)))
    cases tb with
    | false =>
      (conv => whnf); (repeat ((first | (refine ⟨rfl, ?_⟩) | (refine ⟨trivial, ?_⟩) | (refine Wk.yes ?_) | (refine Wk.no ?_) | (refine Wk.and ?_) | (refine ⟨by exact ⟨shr_nonneg _ _, by decide⟩, ?_⟩) | (refine ⟨by exact ⟨shr_nonneg' _ _, by decide⟩, ?_⟩)); (conv => whnf)))
      exact AH.Fin.nil [] ⟨rfl, rfl, rfl⟩ (by first | exact trivial | (simp [tupA, hpLt, tmLt, AV.lt, AE.lt, AC.lt, LL_cons, LL_nil, idOk, ABlk.lt, ints_LL, GB, tab64_LL, gC, wB, giC, noneB, gst, tC, pC]; done) | (simp [tupA, hpLt, tmLt, AV.lt, AE.lt, AC.lt, LL_cons, LL_nil, idOk, ABlk.lt, ints_LL, GB, tab64_LL, gC, wB, giC, noneB, gst, tC, pC, rdn, wrn]; done)) trivial trivial rfl (by simp [GB])
    | true =>
      (conv => whnf); (repeat ((first | (refine ⟨rfl, ?_⟩) | (refine ⟨trivial, ?_⟩) | (refine Wk.yes ?_) | (refine Wk.no ?_) | (refine Wk.and ?_) | (refine ⟨by exact ⟨shr_nonneg _ _, by decide⟩, ?_⟩) | (refine ⟨by exact ⟨shr_nonneg' _ _, by decide⟩, ?_⟩)); (conv => whnf)))
      exact AH.Fin.nil [] ⟨rfl, rfl, rfl⟩ (by first | exact trivial | (simp [tupA, hpLt, tmLt, AV.lt, AE.lt, AC.lt, LL_cons, LL_nil, idOk, ABlk.lt, ints_LL, GB, tab64_LL, gC, wB, giC, noneB, gst, tC, pC]; done) | (simp [tupA, hpLt, tmLt, AV.lt, AE.lt, AC.lt, LL_cons, LL_nil, idOk, ABlk.lt, ints_LL, GB, tab64_LL, gC, wB, giC, noneB, gst, tC, pC, rdn, wrn]; done)) trivial trivial rfl (by simp [GB])
end Go.Proofs.YtfphkpdobbffeaaDoor

/-
  Contract: the reply to a cut wire, by the program.
-/
namespace Go.Proofs.YtfphkpdobbffeaaDoor
open Go Go.AH
set_option maxRecDepth 100000
set_option maxHeartbeats 1000000

def mends (g : Gm) (own cut : Nat) (i : Int) : Bool := isTreeB g (offN own cut ||| 2 ^ i.toNat) (placesN g own)
end Go.Proofs.YtfphkpdobbffeaaDoor

/-
  Plain law: the reply mends; two trees as lists.
-/
namespace Go.Proofs.YtfphkpdobbffeaaDoor
open Go Go.AH
set_option maxRecDepth 100000
set_option maxHeartbeats 1000000

theorem risTo_mono {n : Nat} {L : List Int} (hl : ∀ y ∈ L, y < n) : ∀ i, i ≤ L.length → risTo 10 L i = true → risTo n L i = true
  | 0, _, _ => rfl
  | i + 1, hi, h => by
    obtain ⟨h1, h2, _, h4⟩ := (risTo_succ 10 L i).1 h
    refine (risTo_succ n L i).2 ⟨risTo_mono hl i (by omega) h1, h2, hl _ ?_, h4⟩
    rw [List.getD_eq_getElem?_getD, List.getElem?_eq_getElem (show i < L.length by omega)]
    exact List.getElem_mem _
theorem mem_set10 : ∀ a, a < 1024 → risTo 10 (mem a) (mem a).length = true ∧ setToL (mem a) (mem a).length = a := by decide +kernel
theorem mem_set {n a : Nat} (hn : n ≤ 10) (ha : a < 2 ^ n) : setOk n (mem a) = true ∧ setV n (mem a) = a := by
  have hp : 2 ^ n ≤ 1024 := Nat.pow_le_pow_right (by omega) hn
  obtain ⟨h1, h2⟩ := mem_set10 a (by omega)
  have h3 : risTo n (mem a) (mem a).length = true := risTo_mono (fun y hy => by have := mem_lt hn ha hy; omega) _ (Nat.le_refl _) h1
  exact ⟨h3, by rw [setV, h3]; exact h2⟩
end Go.Proofs.YtfphkpdobbffeaaDoor

/-
  The law SwitchReplies, as a contract.
-/
namespace Go.Proofs.YtfphkpdobbffeaaDoor
open Go Go.AH
set_option maxRecDepth 100000
set_option maxHeartbeats 2000000


def repSt (g : Gm) : Nat × List Int × List Int × Int → AS := fun (i, M0, M1, cut) => ⟨[(2, .c (.int .i64 cut)), (7, .c (.ptr 6 0)), (8, .c (.ptr 8 0)), (9, .c (.ptr 11 0)), (10, .c (.int .i64 i))], [(5, wB g), (6, .own (gC g 5)), (7, wB g), (8, .own (gC g 7)), (9, .ro (ints M0)), (10, .ro (ints M1)), (11, .own [.rs 9 0 M0.length, .rs 10 0 M1.length]), (100002, .ro tab64), (100000, noneB)], 12, 144, 3⟩
theorem few_nil : FDet Tryd.prog 32 [.c (.rs 0 0 0), .c (.int .i64 12)] [(0, .ro [])] 1 (.c .nils) [] 1 := by
  refine FSpec.of_body tok true Tryd.func32 rfl (by kernel_rfl) (by decide) (by simp [tupA, hpLt, tmLt, AV.lt, AE.lt, AC.lt, LL_cons, LL_nil, idOk, ABlk.lt, ints_LL, GB, treesK, repSt, tab64_LL, gC, wB, giC, noneB, gst, tC, pC, gN, gR, rC, rB]) (by simp [tupA, hpLt, tmLt, AV.lt, AE.lt, AC.lt, LL_cons, LL_nil, idOk, ABlk.lt, ints_LL, GB, treesK, repSt, tab64_LL, gC, wB, giC, noneB, gst, tC, pC, gN, gR, rC, rB]) (by show 2 ≤ _; decide) ?_
  refine Wk.on ?_
  exact AH.Fin.nil [] ⟨rfl, rfl, rfl⟩ (by first | exact trivial | (simp [tupA, hpLt, tmLt, AV.lt, AE.lt, AC.lt, LL_cons, LL_nil, idOk, ABlk.lt, ints_LL, GB, treesK, repSt, tab64_LL, gC, wB, giC, noneB, gst, tC, pC, gN, gR, rC, rB]; done) | (simp [tupA, hpLt, tmLt, AV.lt, AE.lt, AC.lt, LL_cons, LL_nil, idOk, ABlk.lt, ints_LL, GB, treesK, repSt, tab64_LL, gC, wB, giC, noneB, gst, tC, pC, gN, gR, rC, rB, rdn, wrn]; done)) trivial trivial rfl (by simp [GB])
theorem few_row (L : List Int) (hL : L.length ≤ 9223372036854775807) (h0 : L ≠ []) : FDet Tryd.prog 32 [.c (.rs 0 0 L.length), .c (.int .i64 12)] [(0, .ro (ints L))] 1 (.c (.row 1 (L.take 12).length)) [(1, .row 3 1 (ints (L.take 12)))] 2 := by
  have hp := List.length_pos_iff.2 h0
  refine FSpec.of_body tok true Tryd.func32 rfl (by kernel_rfl) (by decide) (by simp [tupA, hpLt, tmLt, AV.lt, AE.lt, AC.lt, LL_cons, LL_nil, idOk, ABlk.lt, ints_LL, GB, treesK, repSt, tab64_LL, gC, wB, giC, noneB, gst, tC, pC, gN, gR, rC, rB]) (by simp [tupA, hpLt, tmLt, AV.lt, AE.lt, AC.lt, LL_cons, LL_nil, idOk, ABlk.lt, ints_LL, GB, treesK, repSt, tab64_LL, gC, wB, giC, noneB, gst, tC, pC, gN, gR, rC, rB]) (by show 2 ≤ _; decide) ?_
  refine Wk.on ?_
  obtain ⟨m, hm⟩ : ∃ m : Nat, (m : Int) = min (L.length : Int) 12 := ⟨min L.length 12, by omega⟩
  have hml : (L.take 12).length = m := by rw [List.length_take]; omega
  rw [← hm]
  refine ⟨⟨by decide, by show (0 : Int) ≤ (m : Int); omega, .inl (by show (m : Int) ≤ (L.length : Int); omega)⟩, ?_⟩
  refine Wk.on ?_
  refine ⟨by rw [ints_len]; show 0 + 0 * 1 + (m - 0) * 1 ≤ L.length; omega, ?_⟩
  refine Wk.on ?_
  have hs1 : (Option.getD (some (m : Int)) (L.length : Int)).toNat - (Option.getD (none : Option Int) 0).toNat = m := by show m - 0 = m; omega
  have hs2 : ∀ k, k = m * 1 → ((ints L).drop (0 + (Option.getD (none : Option Int) 0).toNat * 1)).take k = ints (L.take 12) := fun k hk => by
    subst hk
    show ((ints L).drop 0).take (m * 1) = _
    rw [List.drop_zero, Nat.mul_one, ints, ints, List.map_take]
    refine List.take_eq_take_iff.2 ?_
    rw [List.length_map]; omega
  rw [hs1, hs2 _ rfl]
  refine ⟨⟨Nat.le_of_ble_eq_true rfl, by show (m : Int) * 8 ≤ _; omega, by omega⟩, fun h => absurd h (by omega), fun _ => ?_⟩
  refine Wk.on ?_
  rw [hml]
  exact AH.Fin.new [1] _ _ ⟨rfl, rfl, rfl⟩ rfl ⟨by show some (ABlk.row 3 1 _) = some (ABlk.row 3 1 ((ints _).map _)); rw [ints_ren], trivial⟩ rfl (by simp [tupA, hpLt, tmLt, AV.lt, AE.lt, AC.lt, LL_cons, LL_nil, idOk, ABlk.lt, ints_LL, GB, treesK, repSt, tab64_LL, gC, wB, giC, noneB, gst, tC, pC, gN, gR, rC, rB]) (by simp [tupA, hpLt, tmLt, AV.lt, AE.lt, AC.lt, LL_cons, LL_nil, idOk, ABlk.lt, ints_LL, GB, treesK, repSt, tab64_LL, gC, wB, giC, noneB, gst, tC, pC, gN, gR, rC, rB])
theorem Gm.game.st {g : Gm} (h : g.game) : g.s ≠ g.t := by
  obtain ⟨h1, _⟩ := h
  unfold bad0 at h1
  omega
end Go.Proofs.YtfphkpdobbffeaaDoor

/-
  Contracts: the law's few, what comes back frozen.
-/
namespace Go.Proofs.YtfphkpdobbffeaaDoor
open Go Go.AH
set_option maxRecDepth 100000
set_option maxHeartbeats 2000000

theorem few12 (L : List Int) (hL : L.length ≤ 9223372036854775807) : FDet Tryd.prog 32 [.c (.rs 0 0 L.length), .c (.int .i64 12)] [(0, .ro (ints L))] 1 (.c (.tv (.leaf 1 (L.take 12).length (L.take 12)))) [] 1 := by
  by_cases h : L = []
  · subst h; exact FDet.frzN 1 few_nil
  · exact FDet.frz1 (.leaf 1 (L.take 12).length (L.take 12)) (few_row L hL h) rfl rfl (by simp [RT.z, ints_len])
theorem few10_row (L : List Int) (hL : L.length ≤ 9223372036854775807) (h0 : L ≠ []) : FDet Tryd.prog 32 [.c (.rs 1 0 L.length), .c (.int .i64 10)] [(1, .ro (ints L)), (0, .ro [])] 2 (.c (.row 2 (L.take 10).length)) [(2, .row 3 1 (ints (L.take 10)))] 3 := by
  have hp := List.length_pos_iff.2 h0
  refine FSpec.of_body tok true Tryd.func32 rfl (by kernel_rfl) (by decide) (by simp [tupA, hpLt, tmLt, AV.lt, AE.lt, AC.lt, LL_cons, LL_nil, idOk, ABlk.lt, ints_LL, GB, tab64_LL, gC, wB, giC, noneB, gst, tC, pC, gN, gR, rC, rB]) (by simp [tupA, hpLt, tmLt, AV.lt, AE.lt, AC.lt, LL_cons, LL_nil, idOk, ABlk.lt, ints_LL, GB, tab64_LL, gC, wB, giC, noneB, gst, tC, pC, gN, gR, rC, rB]) (by show 2 ≤ _; decide) ?_
  refine Wk.on ?_
  obtain ⟨m, hm⟩ : ∃ m : Nat, (m : Int) = min (L.length : Int) 10 := ⟨min L.length 10, by omega⟩
  have hml : (L.take 10).length = m := by rw [List.length_take]; omega
  rw [← hm]
  refine ⟨⟨by decide, by show (0 : Int) ≤ (m : Int); omega, .inl (by show (m : Int) ≤ (L.length : Int); omega)⟩, ?_⟩
  refine Wk.on ?_
  refine ⟨by rw [ints_len]; show 0 + 0 * 1 + (m - 0) * 1 ≤ L.length; omega, ?_⟩
  refine Wk.on ?_
  have hs1 : (Option.getD (some (m : Int)) (L.length : Int)).toNat - (Option.getD (none : Option Int) 0).toNat = m := by show m - 0 = m; omega
  have hs2 : ∀ k, k = m * 1 → ((ints L).drop (0 + (Option.getD (none : Option Int) 0).toNat * 1)).take k = ints (L.take 10) := fun k hk => by
    subst hk
    show ((ints L).drop 0).take (m * 1) = _
    rw [List.drop_zero, Nat.mul_one, ints, ints, List.map_take]
    refine List.take_eq_take_iff.2 ?_
    rw [List.length_map]; omega
  rw [hs1, hs2 _ rfl]
  refine ⟨⟨Nat.le_of_ble_eq_true rfl, by show (m : Int) * 8 ≤ _; omega, by omega⟩, fun h => absurd h (by omega), fun _ => ?_⟩
  refine Wk.on ?_
  rw [hml]
  exact AH.Fin.new [2] _ _ ⟨rfl, rfl, rfl⟩ rfl ⟨by show some (ABlk.row 3 1 _) = some (ABlk.row 3 1 ((ints _).map _)); rw [ints_ren], trivial⟩ rfl (by simp [tupA, hpLt, tmLt, AV.lt, AE.lt, AC.lt, LL_cons, LL_nil, idOk, ABlk.lt, ints_LL, GB, tab64_LL, gC, wB, giC, noneB, gst, tC, pC, gN, gR, rC, rB]) (by simp [tupA, hpLt, tmLt, AV.lt, AE.lt, AC.lt, LL_cons, LL_nil, idOk, ABlk.lt, ints_LL, GB, tab64_LL, gC, wB, giC, noneB, gst, tC, pC, gN, gR, rC, rB])
theorem few10_nil : FDet Tryd.prog 32 [.c (.rs 0 0 0), .c (.int .i64 10)] [(0, .ro [])] 1 (.c .nils) [] 1 := by
  refine FSpec.of_body tok true Tryd.func32 rfl (by kernel_rfl) (by decide) (by simp [tupA, hpLt, tmLt, AV.lt, AE.lt, AC.lt, LL_cons, LL_nil, idOk, ABlk.lt, ints_LL, GB, tab64_LL, gC, wB, giC, noneB, gst, tC, pC, gN, gR, rC, rB]) (by simp [tupA, hpLt, tmLt, AV.lt, AE.lt, AC.lt, LL_cons, LL_nil, idOk, ABlk.lt, ints_LL, GB, tab64_LL, gC, wB, giC, noneB, gst, tC, pC, gN, gR, rC, rB]) (by show 2 ≤ _; decide) ?_
  refine Wk.on ?_
  exact AH.Fin.nil [] ⟨rfl, rfl, rfl⟩ (by first | exact trivial | (simp [tupA, hpLt, tmLt, AV.lt, AE.lt, AC.lt, LL_cons, LL_nil, idOk, ABlk.lt, ints_LL, GB, tab64_LL, gC, wB, giC, noneB, gst, tC, pC, gN, gR, rC, rB]; done) | (simp [tupA, hpLt, tmLt, AV.lt, AE.lt, AC.lt, LL_cons, LL_nil, idOk, ABlk.lt, ints_LL, GB, tab64_LL, gC, wB, giC, noneB, gst, tC, pC, gN, gR, rC, rB, rdn, wrn]; done)) trivial trivial rfl (by simp [GB])
theorem few10 (L : List Int) (hL : L.length ≤ 9223372036854775807) : FDet Tryd.prog 32 [.c (.tv (.leaf 1 L.length L)), .c (.int .i64 10)] [(0, .ro [])] 1 (.c (.tv (.leaf 1 (L.take 10).length (L.take 10)))) [] 1 := by
  by_cases h : L = []
  · subst h; exact FDet.rs0 0 0 rfl (FDet.frzN 1 few10_nil)
  · refine FDet.thaw (T0 := .leaf 1 L.length L) 0 (List.length_pos_iff.2 h) (by decide) rfl (fun v hv => ?_) (by simp [tupA, hpLt, tmLt, AV.lt, AE.lt, AC.lt, LL_cons, LL_nil, idOk, ABlk.lt, ints_LL, GB, tab64_LL, gC, wB, giC, noneB, gst, tC, pC, gN, gR, rC, rB]) trivial ?_
    · simp only [List.mem_cons, List.not_mem_nil, or_false] at hv
      rcases hv with rfl | rfl <;> trivial
    · exact FDet.low (FDet.frz1 (.leaf 1 (L.take 10).length (L.take 10)) (few10_row L hL h) rfl rfl (by simp [RT.z, ints_len]))
end Go.Proofs.YtfphkpdobbffeaaDoor

/-
  Contract: the wires between the parts of a division.
-/
namespace Go.Proofs.YtfphkpdobbffeaaDoor
open Go Go.AH
set_option maxRecDepth 100000
set_option maxHeartbeats 1000000

def wL (w : Nat → Nat) : List Int := (List.range 8).map fun i => (w i : Int)
theorem wL_len (w : Nat → Nat) : (wL w).length = 8 := by simp [wL]
theorem wL_get (w : Nat → Nat) {i : Nat} (h : i < 8) : (ints (wL w)).getD i (.int .i64 0) = .int .i64 (w i : Nat) := by
  rw [ints_getD]; simp [wL, h, List.getElem?_range]
theorem wL_get2 (w : Nat → Nat) {i : Nat} (h : i < 8) : (ints (wL w)).getD (0 + i * 1) (.int .i64 0) = .int .i64 (w i : Nat) := by
  rw [Nat.zero_add, Nat.mul_one, wL_get w h]
def updW (w : Nat → Nat) (i k : Nat) : Nat → Nat := fun j => if j = i then k else w j
theorem wL_set (w : Nat → Nat) {i : Nat} (k : Nat) (h : i < 8) : (ints (wL w)).set i (.int .i64 (k : Nat)) = ints (wL (updW w i k)) := by
  apply List.ext_getElem?
  intro j
  rw [List.getElem?_set]
  by_cases hj : j < 8
  · by_cases e : i = j
    · subst e; simp [ints, wL, updW, h]
    · have e2 : ¬ j = i := fun x => e x.symm
      simp [ints, wL, updW, hj, e, e2]
  · simp [ints, wL, hj]; omega
def crN (w : Nat → Nat) (ws : List (Nat × Nat)) : Nat := ws.countP fun p => decide (w p.1 ≠ w p.2)
theorem crN_succ (w : Nat → Nat) (ws : List (Nat × Nat)) {i : Nat} (h : i < ws.length) : crN w (ws.take (i + 1)) = crN w (ws.take i) + if w (ws.getD i (0, 0)).1 ≠ w (ws.getD i (0, 0)).2 then 1 else 0 := by
  unfold crN
  rw [List.take_add_one, List.getElem?_eq_getElem h, Option.toList_some, List.countP_append, List.countP_singleton]
  simp [h]
theorem between_spec {g : Gm} (hg : g.ok) (w : Nat → Nat) : FDet Tryd.prog 67 [.g (gC g 0), .g (ints (wL w))] [(0, wB g)] 1 (.c (.int .i64 (crN w g.ws : Nat))) [] 1 := by
  have h8 := hg.n8
  have hl := hg.len
  have hW8 := wL_len w
  refine FSpec.of_body tok true Tryd.func67 rfl (by kernel_rfl) (by decide) (by simp [tupA, hpLt, tmLt, AV.lt, AE.lt, AC.lt, LL_cons, LL_nil, idOk, ABlk.lt, ints_LL, GB, tab64_LL, gC, wB, giC, noneB]) (by simp [tupA, hpLt, tmLt, AV.lt, AE.lt, AC.lt, LL_cons, LL_nil, idOk, ABlk.lt, ints_LL, GB, tab64_LL, gC, wB, giC, noneB]) (by show 2 ≤ _; decide) ?_
  refine Wk.on ?_
  refine Tr.loop (md := true) (X := Nat) (st := fun i => ⟨[(2, .c (.ptr 1 0)), (3, .c (.ptr 2 0)), (4, .c (.int .i64 0)), (5, .c (.int .i64 (crN w (g.ws.take i) : Nat))), (9, .c (.rs 0 0 g.ws.length)), (10, .c (.int .i64 g.ws.length)), (11, .c (.int .i64 i))], [(2, .own (ints (wL w))), (1, .own (gC g 0)), (0, wB g)], 3, 28, 1⟩) (inv := fun i => i ≤ g.ws.length) (μ := fun i => g.ws.length - i) (x0 := 0) (l := []) tok (by omega) ?_ ?_
  · exact Sub.nil ⟨rfl, rfl, (by simp [tab64_LL, gC, wB, giC, noneB]), rfl, (by simp [tupA, hpLt, tmLt, AV.lt, AE.lt, AC.lt, LL_cons, LL_nil, idOk, ABlk.lt, ints_LL, GB, tab64_LL, gC, wB, giC, noneB]), (by simp [tupA, hpLt, tmLt, AV.lt, AE.lt, AC.lt, LL_cons, LL_nil, idOk, ABlk.lt, ints_LL, GB, tab64_LL, gC, wB, giC, noneB])⟩ ⟨rfl, rfl, rfl, rfl, rfl, rfl, rfl, trivial⟩ (by (repeat (first | exact trivial | refine ⟨trivial, ?_⟩ | refine ⟨rfl, ?_⟩)))
  · intro i hi
    have hcl : crN w (g.ws.take i) ≤ 10 := Nat.le_trans List.countP_le_length (by rw [List.length_take]; omega)
    by_cases hlt : i < g.ws.length
    · have hs := crN_succ w g.ws hlt
      have he := hg.ends i hlt
      have hW8i : (ints (wL w)).length = 8 := by rw [ints_len, hW8]
      obtain ⟨a, ha⟩ : ∃ a, a = (g.ws.getD i (0, 0)).1 := ⟨_, rfl⟩
      obtain ⟨b, hb⟩ : ∃ b, b = (g.ws.getD i (0, 0)).2 := ⟨_, rfl⟩
      rw [← ha, ← hb] at he hs
      have hlen : 0 + i * 2 + 2 ≤ (ints (fl g.ws)).length := by
        rw [ints_len, fl_len]; omega
      refine Wk.on ?_
      rw [decide_eq_true (show ((i : Nat) : Int) < ((g.ws.length : Nat) : Int) by omega)]
      refine Wk.on ?_
      refine ⟨⟨by rw [Int.toNat_natCast]; exact hlen, rfl⟩, ?_⟩
      refine Wk.on ?_
      simp only [Int.toNat_natCast]
      rw [wgetW g.ws i, ← ha, ← hb]
      refine Tr.draw (md := true) [⟨[], [19, 20, 21, 22], [], [], []⟩, ⟨[0], [19, 20, 21, 22], [], [], []⟩, ⟨[0, 1], [19, 20, 21, 22], [], [], []⟩, ⟨[0, 1, 2], [19, 20, 21, 22], [], [], []⟩, ⟨[], [15, 16, 17, 18], [0, 1, 2, 3], [], []⟩, ⟨[4], [15, 16, 17, 18], [0, 1, 2, 3], [], []⟩, ⟨[4, 5], [15, 16, 17, 18], [0, 1, 2, 3], [], []⟩, ⟨[4, 5, 6], [15, 16, 17, 18], [0, 1, 2, 3], [], []⟩] tok (by kernel_rfl) (by kernel_rfl) ?_
      refine Wk.on ?_
      rw [Int.toNat_natCast, Int.toNat_natCast, wL_get2 w (show a < 8 by omega), wL_get2 w (show b < 8 by omega)]
      refine Wk.on ?_
      refine ⟨fun hc => ?_, fun hc => ?_⟩ <;> (try simp only [decide_eq_true_eq, decide_eq_false_iff_not, Decidable.not_not, Bool.not_true, Bool.not_false, ne_eq, cond_true, cond_false, Bool.not_eq_true', Bool.not_eq_false'] at hc)
      · rw [if_pos (show w a ≠ w b by omega)] at hs
        refine Wk.on ?_
        refine Again.mk (i + 1) (Sub.nil ⟨rfl, rfl, (by simp [tab64_LL, gC, wB, giC, noneB]), rfl, (by simp [tupA, hpLt, tmLt, AV.lt, AE.lt, AC.lt, LL_cons, LL_nil, idOk, ABlk.lt, ints_LL, GB, tab64_LL, gC, wB, giC, noneB]), (by simp [tupA, hpLt, tmLt, AV.lt, AE.lt, AC.lt, LL_cons, LL_nil, idOk, ABlk.lt, ints_LL, GB, tab64_LL, gC, wB, giC, noneB])⟩ ⟨rfl, rfl, rfl, by rw [hs]; rfl, rfl, rfl, rfl, trivial⟩ (by (repeat (first | exact trivial | refine ⟨trivial, ?_⟩ | refine ⟨rfl, ?_⟩)))) (by omega) (by omega)
      · rw [if_neg (show ¬ (w a ≠ w b) by omega)] at hs
        refine Wk.on ?_
        refine Again.mk (i + 1) (Sub.nil ⟨rfl, rfl, (by simp [tab64_LL, gC, wB, giC, noneB]), rfl, (by simp [tupA, hpLt, tmLt, AV.lt, AE.lt, AC.lt, LL_cons, LL_nil, idOk, ABlk.lt, ints_LL, GB, tab64_LL, gC, wB, giC, noneB]), (by simp [tupA, hpLt, tmLt, AV.lt, AE.lt, AC.lt, LL_cons, LL_nil, idOk, ABlk.lt, ints_LL, GB, tab64_LL, gC, wB, giC, noneB])⟩ ⟨rfl, rfl, rfl, by rw [hs]; rfl, rfl, rfl, rfl, trivial⟩ (by (repeat (first | exact trivial | refine ⟨trivial, ?_⟩ | refine ⟨rfl, ?_⟩)))) (by omega) (by omega)
    · have e : i = g.ws.length := by omega
      subst e
      refine Wk.on ?_
      rw [decide_eq_false (show ¬ (((g.ws.length : Nat) : Int) < ((g.ws.length : Nat) : Int)) by omega)]
      refine Wk.on ?_
      intro _
      refine Wk.on ?_
      rw [List.take_length]
      exact AH.Fin.nil [] ⟨rfl, rfl, rfl⟩ (by first | exact trivial | (simp [tupA, hpLt, tmLt, AV.lt, AE.lt, AC.lt, LL_cons, LL_nil, idOk, ABlk.lt, ints_LL, GB, tab64_LL, gC, wB, giC, noneB]; done) | (simp [tupA, hpLt, tmLt, AV.lt, AE.lt, AC.lt, LL_cons, LL_nil, idOk, ABlk.lt, ints_LL, GB, tab64_LL, gC, wB, giC, noneB, rdn, wrn]; done)) trivial trivial rfl (by simp [GB])
end Go.Proofs.YtfphkpdobbffeaaDoor

/-
  Plain: divisions of places, and the lists of their parts.
-/
namespace Go.Proofs.YtfphkpdobbffeaaDoor
open Go Go.AH

def mx (w : Nat → Nat) : Nat → Nat
  | 0 => 0
  | i + 1 => max (mx w i) (w i + 1)
def Bar (g : Gm) (w : Nat → Nat) : Prop := 2 ≤ mx w g.n ∧ crN w g.ws < 2 * (mx w g.n - 1)
instance (g : Gm) (w : Nat → Nat) : Decidable (Bar g w) := by unfold Bar; exact inferInstance
end Go.Proofs.YtfphkpdobbffeaaDoor

/-
  Contract: the lists of a division, made.
-/
namespace Go.Proofs.YtfphkpdobbffeaaDoor
open Go Go.AH
set_option maxRecDepth 100000
set_option maxHeartbeats 4000000

end Go.Proofs.YtfphkpdobbffeaaDoor

/-
  Contract: put, the search for a barrier.
-/
namespace Go.Proofs.YtfphkpdobbffeaaDoor
open Go Go.AH
set_option maxRecDepth 100000
set_option maxHeartbeats 4000000

def tvC (V : List (List Int)) : List AC := V.map fun a => .tv (.leaf 1 a.length a)
theorem tvC_ren (q : Nat → Nat) (V : List (List Int)) : (tvC V).map (AC.ren q) = tvC V := by
  unfold tvC; rw [List.map_map]; rfl
theorem tvC_LL (n : Nat) (V : List (List Int)) : LL n (tvC V) ↔ True := by
  refine ⟨fun _ => trivial, fun _ x hx => ?_⟩
  obtain ⟨a, _, rfl⟩ := List.mem_map.1 hx
  trivial
instance : RenC tab64 := ⟨tab64_ren, fun n => by simp [tab64_LL]⟩
instance (V : List (List Int)) : RenC (tvC V) := ⟨fun q => tvC_ren q V, fun n => (tvC_LL n V).2 trivial⟩
theorem ws_ends {g : Gm} (hg : g.ok) : ∀ p ∈ g.ws, p.1 < g.n ∧ p.2 < g.n := fun p hp => by
  obtain ⟨i, hi, rfl⟩ := List.getElem_of_mem hp
  have := hg.ends i hi
  rw [List.getD_eq_getElem?_getD, List.getElem?_eq_getElem hi] at this
  simp only [Option.getD_some] at this
  omega
end Go.Proofs.YtfphkpdobbffeaaDoor

/-
  Contract: put, the search for a barrier: the recursion.
-/
namespace Go.Proofs.YtfphkpdobbffeaaDoor
open Go Go.AH
set_option maxRecDepth 100000
set_option maxHeartbeats 4000000

end Go.Proofs.YtfphkpdobbffeaaDoor

/-
  Contract: Barrier.
-/
namespace Go.Proofs.YtfphkpdobbffeaaDoor
open Go Go.AH
set_option maxRecDepth 100000
set_option maxHeartbeats 4000000

def w0 : Nat → Nat := fun _ => 0
end Go.Proofs.YtfphkpdobbffeaaDoor

/-
  Plain: rows under numbers one after the other, in a heap.
-/
namespace Go.Proofs.YtfphkpdobbffeaaDoor
open Go Go.AH

def rg (b : Nat) : List (List Int) → List (Nat × ABlk)
  | [] => []
  | a :: V => (b, .row 3 1 (ints a)) :: rg (b + 1) V
def rgC (b : Nat) : List (List Int) → List AC
  | [] => []
  | a :: V => .row b a.length :: rgC (b + 1) V
theorem rg_mem : ∀ {V : List (List Int)} {b : Nat} {p : Nat × ABlk}, p ∈ rg b V → b ≤ p.1 ∧ p.1 < b + V.length ∧ ∃ a, p.2 = .row 3 1 (ints a)
  | [], b, p, h => absurd h List.not_mem_nil
  | a :: V, b, p, h => by
    rcases List.mem_cons.1 h with rfl | h
    · exact ⟨Nat.le_refl _, by simp, a, rfl⟩
    · obtain ⟨h1, h2, h3⟩ := rg_mem h
      exact ⟨by omega, by simp only [List.length_cons]; omega, h3⟩
theorem rg_nodup : ∀ (V : List (List Int)) (b : Nat), ((rg b V).map Prod.fst).Nodup
  | [], _ => List.nodup_nil
  | a :: V, b => by
    rw [rg, List.map_cons, List.nodup_cons]
    refine ⟨fun h => ?_, rg_nodup V (b + 1)⟩
    obtain ⟨p, hp, e⟩ := List.mem_map.1 h
    have := (rg_mem hp).1
    have e : p.1 = b := e
    omega
theorem lk_none_of {β : Type} {i : Nat} : ∀ {X : List (Nat × β)}, (∀ p ∈ X, p.1 ≠ i) → lk X i = none
  | [], _ => rfl
  | (j, c) :: r, h => by
    rw [lk, if_neg (h (j, c) (List.mem_cons_self ..)), lk_none_of fun p hp => h p (List.mem_cons_of_mem _ hp)]
theorem hpAll_rg {hp : List (Nat × ABlk)} {q : Nat → Nat} {T : List (Nat × ABlk)} : ∀ (V : List (List Int)) (b : Nat), (∀ p ∈ rg b V, lk hp (q p.1) = some p.2) → hpAll hp q T → hpAll hp q (rg b V ++ T)
  | [], _, _, hT => hT
  | a :: V, b, h, hT => by
    have h1 := h (b, .row 3 1 (ints a)) (List.mem_cons_self ..)
    refine ⟨?_, hpAll_rg V (b + 1) (fun p hp => h p (List.mem_cons_of_mem _ hp)) hT⟩
    rw [h1]
    exact congrArg (fun c => some (ABlk.row 3 1 c)) (ints_ren q a).symm
theorem rg_lt {n : Nat} {T : List (Nat × ABlk)} : ∀ (V : List (List Int)) (b : Nat), b + V.length ≤ n → hpLt n T → hpLt n (rg b V ++ T)
  | [], _, _, hT => hT
  | a :: V, b, h, hT => ⟨.inl (by simp only [List.length_cons] at h; omega), ints_LL _ _, rg_lt V (b + 1) (by simp only [List.length_cons] at h; omega) hT⟩
theorem rgC_ren {q : Nat → Nat} : ∀ (V : List (List Int)) (b c : Nat), (∀ i, b ≤ i → i < b + V.length → q i = c + (i - b)) → (rgC b V).map (AC.ren q) = rgC c V
  | [], _, _, _ => rfl
  | a :: V, b, c, h => by
    rw [rgC, rgC, List.map_cons]
    have h1 := h b (Nat.le_refl _) (by simp)
    rw [rgC_ren V (b + 1) (c + 1) fun i h2 h3 => by rw [h i (by omega) (by simp only [List.length_cons]; omega)]; omega]
    show AC.row (q b) a.length :: _ = _
    rw [h1, Nat.sub_self, Nat.add_zero]
theorem rgC_LL {n : Nat} : ∀ (V : List (List Int)) (b : Nat), b + V.length ≤ n → LL n (rgC b V)
  | [], _, _ => (LL_nil ..).2 trivial
  | a :: V, b, h => by
    rw [rgC, LL_cons]
    exact ⟨.inl (by simp only [List.length_cons] at h; omega), rgC_LL V (b + 1) (by simp only [List.length_cons] at h; omega)⟩
theorem FSpec.same {P : Program} {f : FuncId} {args : List AV} {hp : List (Nat × ABlk)} {k : Nat} {Post Post' : AV → List (Nat × ABlk) → Nat → Prop} (h : FSpec P f args hp k Post)
    (hc : ∀ r hq k', Post r hq k' → ∃ hq2, Post' r hq2 k' ∧ (∀ i, lk hq2 i = lk hq i) ∧ (hq2.map Prod.fst).Nodup) : FSpec P f args hp k Post' where
  call := h.call
  run := fun w R vs hok hsz hcon H => by
    refine (h.run w R vs hok hsz hcon H).mono ?_
    rintro e w' ⟨u, r, hq, k', R', h1, h2, h3, h4, h5, h6, h7, h8, h9, h10, h11, h12⟩
    obtain ⟨hq2, g1, g2, g3⟩ := hc r hq k' h2
    exact ⟨u, r, hq2, k', R', h1, g1, h3, h4, h5, h6, h7, ⟨fun i b hb => h8.blk i b (by rw [← g2]; exact hb), fun i j b c hi hj => h8.inj i j b c (by rw [← g2]; exact hi) (by rw [← g2]; exact hj), h8.zw, fun i b hb => h8.zn i b (by rw [← g2]; exact hb)⟩, g3, fun i b hb => h10 i b (by rw [← g2]; exact hb), fun i b hb => h11 i b (by rw [← g2]; exact hb), h12⟩
end Go.Proofs.YtfphkpdobbffeaaDoor
