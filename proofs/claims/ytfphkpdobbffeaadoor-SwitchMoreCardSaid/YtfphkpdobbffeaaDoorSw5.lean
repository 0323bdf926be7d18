/-
  Plain law: who wins, without shortcuts.
-/
import Derived.Test.YtfphkpdobbffeaaDoorSw4
import Derived.Test.YtfphkpdobbffeaaDoorAh6
import Derived.Laws.RangeString
set_option linter.unusedSimpArgs false
set_option linter.unusedVariables false
namespace Go.Proofs.YtfphkpdobbffeaaDoor
open Go Go.AH
set_option maxRecDepth 100000
set_option maxHeartbeats 1000000

theorem fold_root {g : Gm} (hg : g.ok) (ρ : Nat → Nat) : ∀ (l : List Int) (xs : List Int), Grp xs → (∀ y ∈ l, y.toNat < g.ws.length) → (∀ y ∈ l, ρ (g.ws.getD y.toNat (0, 0)).1 = ρ (g.ws.getD y.toNat (0, 0)).2) →
    (∀ u v, u < 8 → v < 8 → root xs u = root xs v → ρ u = ρ v) → ∀ u v, u < 8 → v < 8 → root (l.foldl (joinF g) xs) u = root (l.foldl (joinF g) xs) v → ρ u = ρ v
  | [], xs, _, _, _, h => h
  | i :: l, xs, hG, hl, hρ, h => by
    have he := hg.ends _ (hl i (by simp))
    have h8 := hg.n8
    have ha : (g.ws.getD i.toNat (0, 0)).1 < 8 := by omega
    have hb : (g.ws.getD i.toNat (0, 0)).2 < 8 := by omega
    refine fold_root hg ρ l (joinF g xs i) (hG.join ha hb) (fun y hy => hl y (by simp [hy])) (fun y hy => hρ y (by simp [hy])) fun u v hu hv huv => ?_
    have hr := root_joinL hG ha hb
    rw [show joinL xs (g.ws.getD i.toNat (0, 0)).1 (g.ws.getD i.toNat (0, 0)).2 = joinF g xs i from rfl] at hr
    rw [hr u hu, hr v hv] at huv
    have hab := hρ i (by simp)
    have hA := fun u hu => h u _ hu ha
    have hB := fun u hu => h u _ hu hb
    have hra := root_le hG ha
    have hrb := root_le hG hb
    generalize root xs (g.ws.getD i.toNat (0, 0)).1 = ra at *
    generalize root xs (g.ws.getD i.toNat (0, 0)).2 = rb at *
    generalize (g.ws.getD i.toNat (0, 0)).1 = a at *
    generalize (g.ws.getD i.toNat (0, 0)).2 = b at *
    have key : ∀ u, u < 8 → (root xs u = ra ∨ root xs u = rb) → ρ u = ρ a := fun u hu h => by
      rcases h with h | h
      · exact hA u hu h
      · rw [hB u hu h, hab]
    by_cases e1 : root xs u = max ra rb
    · rw [if_pos e1] at huv
      by_cases e2 : root xs v = max ra rb
      · exact h u v hu hv (by omega)
      · rw [if_neg e2] at huv
        rw [key u hu (by omega), key v hv (by omega)]
    · rw [if_neg e1] at huv
      by_cases e2 : root xs v = max ra rb
      · rw [if_pos e2] at huv
        rw [key u hu (by omega), key v hv (by omega)]
      · rw [if_neg e2] at huv
        exact h u v hu hv huv
theorem fold_keep {g : Gm} (hg : g.ok) : ∀ (l : List Int) (xs : List Int), Grp xs → (∀ y ∈ l, y.toNat < g.ws.length) → ∀ u v, u < 8 → v < 8 → root xs u = root xs v → root (l.foldl (joinF g) xs) u = root (l.foldl (joinF g) xs) v
  | [], xs, _, _, u, v, _, _, h => h
  | i :: l, xs, hG, hl, u, v, hu, hv, h => by
    have he := hg.ends _ (hl i (by simp))
    have h8 := hg.n8
    refine fold_keep hg l (joinF g xs i) (hG.join (by omega) (by omega)) (fun y hy => hl y (by simp [hy])) u v hu hv ?_
    have hr := root_joinL hG (show (g.ws.getD i.toNat (0, 0)).1 < 8 by omega) (show (g.ws.getD i.toNat (0, 0)).2 < 8 by omega)
    rw [show joinL xs (g.ws.getD i.toNat (0, 0)).1 (g.ws.getD i.toNat (0, 0)).2 = joinF g xs i from rfl] at hr
    rw [hr u hu, hr v hv, h]
theorem fold_ends {g : Gm} (hg : g.ok) : ∀ (l : List Int) (xs : List Int), Grp xs → (∀ y ∈ l, y.toNat < g.ws.length) → ∀ i ∈ l, root (l.foldl (joinF g) xs) (g.ws.getD i.toNat (0, 0)).1 = root (l.foldl (joinF g) xs) (g.ws.getD i.toNat (0, 0)).2
  | [], _, _, _, i, hi => by simp at hi
  | j :: l, xs, hG, hl, i, hi => by
    have he := hg.ends _ (hl j (by simp))
    have h8 := hg.n8
    have ha : (g.ws.getD j.toNat (0, 0)).1 < 8 := by omega
    have hb : (g.ws.getD j.toNat (0, 0)).2 < 8 := by omega
    rcases List.mem_cons.1 hi with e | hi
    · subst e
      refine fold_keep hg l (joinF g xs i) (hG.join ha hb) (fun y hy => hl y (by simp [hy])) _ _ ha hb ?_
      have hr := root_joinL hG ha hb
      rw [show joinL xs (g.ws.getD i.toNat (0, 0)).1 (g.ws.getD i.toNat (0, 0)).2 = joinF g xs i from rfl] at hr
      rw [hr _ ha, hr _ hb]
      split <;> split <;> omega
    · exact fold_ends hg l (joinF g xs j) (hG.join ha hb) (fun y hy => hl y (by simp [hy])) i hi
theorem mem_iff {n : Nat} (hn : n < 1024) {y : Int} : y ∈ mem n ↔ ∃ i : Nat, y = (i : Int) ∧ n.testBit i = true := by
  constructor
  · intro h
    obtain ⟨i, hi, rfl⟩ := List.mem_map.1 h
    exact ⟨i, rfl, (List.mem_filter.1 hi).2⟩
  · rintro ⟨i, rfl, hi⟩
    exact List.mem_map.2 ⟨i, List.mem_filter.2 ⟨List.mem_range.2 (lt_len (k := 10) (by omega) hi), hi⟩, rfl⟩
/-- More wires kept join no less. -/
theorem joined_mono {g : Gm} (hg : g.ok) {n m : Nat} (hn : n < 2 ^ g.ws.length) (hm : m < 2 ^ g.ws.length) (h : ∀ i, n.testBit i = true → m.testBit i = true) (hj : joinedB g n = true) : joinedB g m = true := by
  have hp : 2 ^ g.ws.length ≤ 1024 := Nat.pow_le_pow_right (by omega) hg.len
  have h8 := hg.n8
  have hs := hg.s
  have ht := hg.t
  have hl : ∀ k, k < 2 ^ g.ws.length → ∀ y ∈ mem k, y.toNat < g.ws.length := fun k hk y hy => (mem_lt hg.len hk hy).2
  unfold joinedB at hj ⊢
  rw [decide_eq_true_eq] at hj ⊢
  refine fold_root hg (root (keptL g m)) (mem n) (aloneSt 8) Grp.alone (hl n hn) (fun y hy => ?_) (fun u v hu hv huv => ?_) g.s g.t (by omega) (by omega) hj
  · obtain ⟨i, rfl, hi⟩ := (mem_iff (by omega)).1 hy
    exact fold_ends hg (mem m) (aloneSt 8) Grp.alone (hl m hm) i ((mem_iff (by omega)).2 ⟨i, rfl, h i hi⟩)
  · rw [alone_root hu, alone_root hv] at huv
    rw [huv]

/-- Who wins, by playing to the end. -/
def WR (g : Gm) : Nat → Nat → Nat → Bool → Bool
  | 0, _, k, _ => joinedB g k
  | n + 1, f, k, c => if f = 0 then joinedB g k else ((mem f).any fun w => WR g n (offN f w.toNat) (if c then k else k ||| 2 ^ w.toNat) (!c) != c) != c
theorem offN_bit {f w i : Nat} (hf : f < 1024) (hw : w < 10) : (offN f w).testBit i = (f.testBit i && decide (i ≠ w)) := by
  have : ∀ f, f < 1024 → ∀ w, w < 10 → ∀ i, i < 10 → (offN f w).testBit i = (f.testBit i && decide (i ≠ w)) := by decide +kernel
  have hlt : ∀ f, f < 1024 → ∀ w, w < 10 → offN f w < 1024 := by decide +kernel
  by_cases hi : i < 10
  · exact this f hf w hw i hi
  · have a : f.testBit i = false := by
      cases h : f.testBit i with
      | false => rfl
      | true => have := lt_len (k := 10) (by omega) h; omega
    have b : (offN f w).testBit i = false := by
      cases h : (offN f w).testBit i with
      | false => rfl
      | true => have := lt_len (k := 10) (hlt f hf w hw) h; omega
    rw [a, b]; rfl
theorem any_const {l : List Int} {p : Int → Bool} {b : Bool} (h0 : l ≠ []) (h : ∀ x ∈ l, p x = b) : l.any p = b := by
  cases b with
  | false => rw [List.any_eq_false]; exact fun x hx => by rw [h x hx]; simp
  | true =>
    cases l with
    | nil => exact absurd rfl h0
    | cons x l => rw [List.any_cons, h x (by simp)]; rfl
theorem W_WR {g : Gm} (hg : g.ok) : ∀ n f k c, pop f ≤ n → f < 2 ^ g.ws.length → k < 2 ^ g.ws.length → W g f k c = WR g n f k c := by
  have hp : 2 ^ g.ws.length ≤ 1024 := Nat.pow_le_pow_right (by omega) hg.len
  intro n
  induction n with
  | zero =>
    intro f k c h hf hk
    have h0 : f = 0 := by
      by_cases e : f = 0
      · exact e
      · have := pop_pos f (by omega) (by omega); omega
    rw [W_step g (by omega), h0]
    simp [WR]
  | succ n ih =>
    intro f k c h hf hk
    rw [W_step g (by omega), WR]
    by_cases h0 : f = 0
    · rw [h0]; simp
    rw [if_neg h0]
    have hne : mem f ≠ [] := by
      intro e
      have := pop_pos f (by omega) (by omega)
      have h2 : (mem f).length = pop f := by simp [mem, pop]
      rw [e] at h2; simp at h2; omega
    have hsub : ∀ w ∈ mem f, offN f w.toNat < 2 ^ g.ws.length ∧ (if c then k else k ||| 2 ^ w.toNat) < 2 ^ g.ws.length ∧ (∀ i, k.testBit i = true → (if c then k else k ||| 2 ^ w.toNat).testBit i = true) ∧ ∀ i, ((if c then k else k ||| 2 ^ w.toNat) ||| offN f w.toNat).testBit i = true → (k ||| f).testBit i = true := fun w hw => by
      obtain ⟨_, hlw⟩ := mem_lt hg.len hf hw
      have hoff := off_mem (n := f) (by omega) hw
      obtain ⟨j, rfl, hj⟩ := (mem_iff (by omega)).1 hw
      rw [Int.toNat_natCast] at hlw hoff ⊢
      refine ⟨by omega, ?_, ?_, ?_⟩
      · split
        · exact hk
        · exact or_lt hk ((Nat.pow_lt_pow_iff_right (by omega)).2 hlw)
      · intro i hi
        split
        · exact hi
        · simp [Nat.testBit_or, hi]
      · intro i hi
        have hl := hg.len
        rw [Nat.testBit_or, offN_bit (by omega) (by omega)] at hi
        rw [Nat.testBit_or]
        split at hi
        · simp only [Bool.or_eq_true, Bool.and_eq_true] at hi ⊢
          rcases hi with hi | hi
          · exact .inl hi
          · exact .inr hi.1
        · simp only [Nat.testBit_or, Nat.testBit_two_pow, Bool.or_eq_true, Bool.and_eq_true, decide_eq_true_eq] at hi ⊢
          rcases hi with (hi | hi) | hi
          · exact .inl hi
          · exact .inr (hi ▸ hj)
          · exact .inr hi.1
    have hstep : ∀ w ∈ mem f, W g (offN f w.toNat) (if c then k else k ||| 2 ^ w.toNat) (!c) = WR g n (offN f w.toNat) (if c then k else k ||| 2 ^ w.toNat) (!c) := fun w hw => by
      have hoff := off_mem (n := f) (by omega) hw
      have h3 := hsub w hw
      exact ih _ _ _ (by omega) h3.1 h3.2.1
    have hany : ((mem f).any fun w => WR g n (offN f w.toNat) (if c then k else k ||| 2 ^ w.toNat) (!c) != c) = (mem f).any (goodW g f k c) :=
      any_congr fun w hw => by rw [goodW, hstep w hw]
    rw [hany]
    have hkf : k ||| f < 2 ^ g.ws.length := or_lt hk hf
    by_cases hj : joinedB g k = true
    · rw [if_pos (by simp [hj]), hj]
      have : (mem f).any (goodW g f k c) = !c := any_const hne fun w hw => by
        obtain ⟨a1, a2, a3, _⟩ := hsub w hw
        have hj2 := joined_mono hg hk a2 a3 hj
        rw [goodW, W_step g (by omega), hj2]
        cases c <;> simp
      rw [this]; cases c <;> rfl
    · have hj : joinedB g k = false := by simpa using hj
      by_cases hj2 : joinedB g (k ||| f) = true
      · rw [if_neg (by simp [hj, hj2, h0])]
      · have hj2 : joinedB g (k ||| f) = false := by simpa using hj2
        rw [if_pos (by simp [hj2]), hj]
        have : (mem f).any (goodW g f k c) = c := any_const hne fun w hw => by
          obtain ⟨a1, a2, a3, a4⟩ := hsub w hw
          have e1 : joinedB g ((if c then k else k ||| 2 ^ w.toNat) ||| offN f w.toNat) = false := by
            cases hh : joinedB g ((if c then k else k ||| 2 ^ w.toNat) ||| offN f w.toNat) with
            | false => rfl
            | true => rw [joined_mono hg (or_lt a2 a1) hkf a4 hh] at hj2; cases hj2
          have e2 : joinedB g (if c then k else k ||| 2 ^ w.toNat) = false := by
            cases hh : joinedB g (if c then k else k ||| 2 ^ w.toNat) with
            | false => rfl
            | true =>
              rw [joined_mono hg a2 (or_lt a2 a1) (fun i hi => by simp [Nat.testBit_or, hi]) hh] at e1; cases e1
          rw [goodW, W_step g (by omega), e1, e2]
          cases c <;> simp
        rw [this]; cases c <;> rfl
end Go.Proofs.YtfphkpdobbffeaaDoor

/-
  Contracts: positions as strings, for the reference.
-/
namespace Go.Proofs.YtfphkpdobbffeaaDoor
open Go Go.AH
set_option maxRecDepth 100000
set_option maxHeartbeats 1000000

def posL (n f k : Nat) : List UInt8 := (List.range n).map fun i => if f.testBit i then 46 else if k.testBit i then 43 else 45
def posB (n f k : Nat) : ByteArray := ⟨(posL n f k).toArray⟩
theorem posL_len (n f k : Nat) : (posL n f k).length = n := by simp [posL]
theorem posB_size (n f k : Nat) : (posB n f k).size = n := by
  show (posL n f k).toArray.size = n
  simp [posL]
theorem posL_getD {n f k i : Nat} (h : i < n) : (posL n f k).getD i 0 = if f.testBit i then 46 else if k.testBit i then 43 else 45 := by
  simp [posL, List.getD_eq_getElem?_getD, h]
def dots (i : Nat) : ByteArray := ⟨(List.replicate i (46 : UInt8)).toArray⟩
/-- The number of a position. -/
def codeN : Nat → Nat → Nat → Nat
  | 0, _, _ => 0
  | n + 1, f, k => 3 * codeN n f k + if f.testBit n then 0 else if k.testBit n then 1 else 2
theorem codeN_lt (f k : Nat) : ∀ n, codeN n f k < 3 ^ n
  | 0 => by simp [codeN]
  | n + 1 => by
    have := codeN_lt f k n
    rw [codeN, Nat.pow_succ]
    split
    · omega
    · split <;> omega
end Go.Proofs.YtfphkpdobbffeaaDoor

/-
  Contracts: the free wires of a position, the reference's Joined, Known, Put.
-/
namespace Go.Proofs.YtfphkpdobbffeaaDoor
open Go Go.AH
set_option maxRecDepth 100000
set_option maxHeartbeats 1000000

theorem pos_at {n f k i : Nat} (h : i < n) : (((posB n f k).data.toList.getD (Int.toNat (i : Int)) 0).toNat) = if f.testBit i = true then 46 else if k.testBit i = true then 43 else 45 := by
  rw [Int.toNat_natCast]
  show ((posL n f k).getD i 0).toNat = _
  rw [posL_getD h]
  split
  · rfl
  · split <;> rfl
/-- The kept wires among the first. -/
def setTo (n f k : Nat) : Nat → Nat
  | 0 => 0
  | i + 1 => if f.testBit i = true then setTo n f k i else if k.testBit i = true then setTo n f k i ||| 2 ^ i else setTo n f k i
theorem setTo_bit (n f k j : Nat) : ∀ i, (setTo n f k i).testBit j = (decide (j < i) && !f.testBit j && k.testBit j)
  | 0 => by simp [setTo]
  | i + 1 => by
    have ih := setTo_bit n f k j i
    by_cases e : j = i
    · subst e
      rw [setTo]
      split
      · rename_i h; rw [ih]; simp [h]
      · rename_i h
        split
        · rename_i h2; rw [Nat.testBit_or, ih, Nat.testBit_two_pow]; simp [h, h2]
        · rename_i h2; rw [ih]; simp [h2]
    · have : decide (j < i + 1) = decide (j < i) := by simp; omega
      rw [setTo, this, ← ih]
      split
      · rfl
      · split
        · rw [Nat.testBit_or, Nat.testBit_two_pow]; simp; omega
        · rfl
theorem setTo_all {n f k : Nat} (hk : k < 2 ^ n) (hd : ∀ i, f.testBit i = true → k.testBit i = false) : setTo n f k n = k := by
  refine Nat.eq_of_testBit_eq fun j => ?_
  rw [setTo_bit]
  cases h : k.testBit j with
  | false => simp
  | true =>
    have h1 := lt_len hk h
    have h2 : f.testBit j = false := by
      cases h3 : f.testBit j with
      | false => rfl
      | true => rw [hd j h3] at h; cases h
    simp [h1, h2]
theorem setTo_lt (n f k : Nat) : ∀ i, setTo n f k i < 2 ^ i
  | 0 => by simp [setTo]
  | i + 1 => by
    have ih := setTo_lt n f k i
    have h2 : 2 ^ i < 2 ^ (i + 1) := (Nat.pow_lt_pow_iff_right (by omega)).2 (by omega)
    rw [setTo]
    split
    · omega
    · split
      · exact or_lt (by omega) h2
      · omega
end Go.Proofs.YtfphkpdobbffeaaDoor

/-
  Contracts: the room for what is known, the free wires, a wire put.
-/
namespace Go.Proofs.YtfphkpdobbffeaaDoor
open Go Go.AH
set_option maxRecDepth 100000
set_option maxHeartbeats 1000000

end Go.Proofs.YtfphkpdobbffeaaDoor

/-
  Contract: the free wires of a position, for the reference.
-/
namespace Go.Proofs.YtfphkpdobbffeaaDoor
open Go Go.AH
set_option maxRecDepth 100000
set_option maxHeartbeats 1000000

def freeTo (f i : Nat) : List Int := ((List.range i).filter f.testBit).map Int.ofNat
theorem freeTo_succ (f i : Nat) : freeTo f (i + 1) = if f.testBit i = true then freeTo f i ++ [(i : Int)] else freeTo f i := by
  simp only [freeTo, List.range_succ, List.filter_append, List.map_append]
  cases h : f.testBit i <;> simp [h, List.filter_cons]
theorem freeTo_all {n f : Nat} (hn : n ≤ 10) (hf : f < 2 ^ n) : freeTo f n = mem f := by
  rw [mem, memN, freeTo, range_filter _ 10 hn fun i hi => by
    cases h : f.testBit i with
    | false => rfl
    | true => have := lt_len hf h; omega]
theorem freeTo_len (f i : Nat) : (freeTo f i).length ≤ i := by
  simp only [freeTo, List.length_map]
  exact Nat.le_trans (List.length_filter_le _ _) (by simp)
def frV : List Int → AC
  | [] => .nils
  | _ :: l => .row 0 (l.length + 1)
def frH : List Int → List (Nat × ABlk)
  | [] => []
  | x :: l => [(0, .row 3 1 (ints (x :: l)))]
def frK : List Int → Nat
  | [] => 0
  | _ => 1
theorem free_spec {n f k : Nat} (hn : n ≤ 10) (hf : f < 2 ^ n) : FDet Tryd.prog 45 [.c (.str (posB n f k))] [] 0 (.c (frV (mem f))) (frH (mem f)) (frK (mem f)) := by
  have hsz := posB_size n f k
  rw [← freeTo_all hn hf]
  refine FSpec.of_body tok true Tryd.func45 rfl (by kernel_rfl) (by decide) (by simp [tupA, hpLt, tmLt, AV.lt, AE.lt, AC.lt, LL_cons, LL_nil, idOk, ABlk.lt, ints_LL, GB, tab64_LL, gC, wB, giC, noneB, gst, tC, pC, frV, frH, frK]) (by simp [tupA, hpLt, tmLt, AV.lt, AE.lt, AC.lt, LL_cons, LL_nil, idOk, ABlk.lt, ints_LL, GB, tab64_LL, gC, wB, giC, noneB, gst, tC, pC, frV, frH, frK]) (by show 1 ≤ _; decide) ?_
  refine Wk.on ?_
  refine Tr.loop (md := true) (X := Nat × List Int) (st := fun p => ⟨[(0, .c (.str (posB n f k))), (3, .c (frV p.2)), (4, .c (.int .i64 p.1))], frH p.2, frK p.2, 20, 0⟩) (inv := fun p => p.1 ≤ n ∧ p.2 = freeTo f p.1) (μ := fun p => n - p.1) (x0 := (0, [])) (l := []) tok ⟨Nat.zero_le _, rfl⟩ ?_ ?_
  · exact Sub.nil ⟨rfl, rfl, (by simp [tab64_LL, gC, wB, giC, noneB, gst, tC, pC, frV, frH, frK]), rfl, (by simp [tupA, hpLt, tmLt, AV.lt, AE.lt, AC.lt, LL_cons, LL_nil, idOk, ABlk.lt, ints_LL, GB, tab64_LL, gC, wB, giC, noneB, gst, tC, pC, frV, frH, frK]), (by simp [tupA, hpLt, tmLt, AV.lt, AE.lt, AC.lt, LL_cons, LL_nil, idOk, ABlk.lt, ints_LL, GB, tab64_LL, gC, wB, giC, noneB, gst, tC, pC, frV, frH, frK])⟩ ⟨rfl, rfl, rfl, trivial⟩ trivial
  · rintro ⟨i, l⟩ ⟨hi, hl⟩
    dsimp only at hi hl
    have hll := freeTo_len f i
    rw [← hl] at hll
    have hsu := freeTo_succ f i
    rw [← hl] at hsu
    rcases l with _ | ⟨x, l⟩
    · dsimp only [frV, frH, frK]
      refine Wk.on ?_
      rw [hsz]
      refine ⟨fun hc => ?_, fun hc => ?_⟩ <;> (try simp only [decide_eq_true_eq, decide_eq_false_iff_not, Decidable.not_not, Bool.not_true, Bool.not_false, ne_eq, cond_true, cond_false, Bool.not_eq_true', Bool.not_eq_false'] at hc)
      · have hpa := pos_at (f := f) (k := k) (show i < n by omega)
        refine Wk.on ?_
        rw [hpa]
        by_cases hb : f.testBit i = true
        · rw [if_pos hb] at hsu ⊢
          refine Wk.on ?_
          refine Again.mk (i + 1, [(i : Int)]) (Sub.new [(0, 1)] ⟨rfl, rfl, Nat.le_of_ble_eq_true rfl, Nat.le_of_ble_eq_true rfl⟩ rfl ⟨rfl, rfl, rfl, trivial⟩ ⟨rfl, trivial⟩ rfl (by simp [tupA, hpLt, tmLt, AV.lt, AE.lt, AC.lt, LL_cons, LL_nil, idOk, ABlk.lt, ints_LL, GB, tab64_LL, gC, wB, giC, noneB, gst, tC, pC, frV, frH, frK]) (by simp [tupA, hpLt, tmLt, AV.lt, AE.lt, AC.lt, LL_cons, LL_nil, idOk, ABlk.lt, ints_LL, GB, tab64_LL, gC, wB, giC, noneB, gst, tC, pC, frV, frH, frK])) ⟨by omega, by show [(i : Int)] = freeTo f (i + 1); rw [hsu]; rfl⟩ (by show n - (i + 1) < n - i; omega)
        · have hne : ¬ (((if f.testBit i = true then 46 else if k.testBit i = true then 43 else 45 : Nat) : Int) = 46) := by rw [if_neg hb]; split <;> decide
          rw [if_neg hb] at hsu
          refine ⟨fun h => absurd (of_decide_eq_true h) hne, fun _ => ?_⟩
          refine Wk.on ?_
          refine Again.mk (i + 1, []) (Sub.nil ⟨rfl, rfl, (by simp [tab64_LL, gC, wB, giC, noneB, gst, tC, pC, frV, frH, frK]), rfl, (by simp [tupA, hpLt, tmLt, AV.lt, AE.lt, AC.lt, LL_cons, LL_nil, idOk, ABlk.lt, ints_LL, GB, tab64_LL, gC, wB, giC, noneB, gst, tC, pC, frV, frH, frK]), (by simp [tupA, hpLt, tmLt, AV.lt, AE.lt, AC.lt, LL_cons, LL_nil, idOk, ABlk.lt, ints_LL, GB, tab64_LL, gC, wB, giC, noneB, gst, tC, pC, frV, frH, frK])⟩ ⟨rfl, rfl, rfl, trivial⟩ trivial) ⟨by omega, by show [] = freeTo f (i + 1); rw [hsu]⟩ (by show n - (i + 1) < n - i; omega)
      · obtain rfl : i = n := by omega
        rw [← hl]
        refine Wk.on ?_
        exact AH.Fin.nil [] ⟨rfl, rfl, rfl⟩ (by first | exact trivial | (simp [tupA, hpLt, tmLt, AV.lt, AE.lt, AC.lt, LL_cons, LL_nil, idOk, ABlk.lt, ints_LL, GB, tab64_LL, gC, wB, giC, noneB, gst, tC, pC, frV, frH, frK]; done) | (simp [tupA, hpLt, tmLt, AV.lt, AE.lt, AC.lt, LL_cons, LL_nil, idOk, ABlk.lt, ints_LL, GB, tab64_LL, gC, wB, giC, noneB, gst, tC, pC, frV, frH, frK, rdn, wrn]; done)) trivial trivial rfl (by simp [GB])
    · dsimp only [frV, frH, frK]
      have hl2 : l.length + 1 ≤ i := hll
      refine Wk.on ?_
      rw [hsz]
      refine ⟨fun hc => ?_, fun hc => ?_⟩ <;> (try simp only [decide_eq_true_eq, decide_eq_false_iff_not, Decidable.not_not, Bool.not_true, Bool.not_false, ne_eq, cond_true, cond_false, Bool.not_eq_true', Bool.not_eq_false'] at hc)
      · have hpa := pos_at (f := f) (k := k) (show i < n by omega)
        refine Wk.on ?_
        rw [hpa]
        by_cases hb : f.testBit i = true
        · rw [if_pos hb] at hsu ⊢
          refine Wk.on ?_
          refine ⟨⟨Nat.le_of_ble_eq_true rfl, rfl, rfl, by rw [ints_len]; simp, by show ((l.length + 1 + 1 : Nat) : Int) * 8 ≤ _; omega, by omega⟩, ?_⟩
          refine Wk.on ?_
          have e : (l ++ [(i : Int)]).length = l.length + 1 := by simp
          refine Again.mk (i + 1, x :: (l ++ [(i : Int)])) (Sub.new [(0, 2)] ⟨rfl, rfl, Nat.le_of_ble_eq_true rfl, Nat.le_of_ble_eq_true rfl⟩ rfl ⟨rfl, by show some (AV.c (.row 2 (l.length + 1 + 1))) = some (AV.c (.row 2 ((l ++ [(i : Int)]).length + 1))); rw [e], rfl, trivial⟩ ⟨rowEq (by show ints (x :: l) ++ [.int .i64 (i : Int)] = _; simp [ints]), trivial⟩ rfl (by simp [tupA, hpLt, tmLt, AV.lt, AE.lt, AC.lt, LL_cons, LL_nil, idOk, ABlk.lt, ints_LL, GB, tab64_LL, gC, wB, giC, noneB, gst, tC, pC, frV, frH, frK]) (by simp [tupA, hpLt, tmLt, AV.lt, AE.lt, AC.lt, LL_cons, LL_nil, idOk, ABlk.lt, ints_LL, GB, tab64_LL, gC, wB, giC, noneB, gst, tC, pC, frV, frH, frK])) ⟨by omega, by show x :: (l ++ [(i : Int)]) = freeTo f (i + 1); rw [hsu]; rfl⟩ (by show n - (i + 1) < n - i; omega)
        · have hne : ¬ (((if f.testBit i = true then 46 else if k.testBit i = true then 43 else 45 : Nat) : Int) = 46) := by rw [if_neg hb]; split <;> decide
          rw [if_neg hb] at hsu
          refine ⟨fun h => absurd (of_decide_eq_true h) hne, fun _ => ?_⟩
          refine Wk.on ?_
          refine Again.mk (i + 1, x :: l) (Sub.nil ⟨rfl, rfl, (by simp [tab64_LL, gC, wB, giC, noneB, gst, tC, pC, frV, frH, frK]), rfl, (by simp [tupA, hpLt, tmLt, AV.lt, AE.lt, AC.lt, LL_cons, LL_nil, idOk, ABlk.lt, ints_LL, GB, tab64_LL, gC, wB, giC, noneB, gst, tC, pC, frV, frH, frK]), (by simp [tupA, hpLt, tmLt, AV.lt, AE.lt, AC.lt, LL_cons, LL_nil, idOk, ABlk.lt, ints_LL, GB, tab64_LL, gC, wB, giC, noneB, gst, tC, pC, frV, frH, frK])⟩ ⟨rfl, rfl, rfl, trivial⟩ ⟨rfl, trivial⟩) ⟨by omega, by show x :: l = freeTo f (i + 1); rw [hsu]⟩ (by show n - (i + 1) < n - i; omega)
      · obtain rfl : i = n := by omega
        rw [← hl]
        refine Wk.on ?_
        exact AH.Fin.new [0] _ _ ⟨rfl, rfl, rfl⟩ rfl ⟨rowEq rfl, trivial⟩ rfl (by simp [tupA, hpLt, tmLt, AV.lt, AE.lt, AC.lt, LL_cons, LL_nil, idOk, ABlk.lt, ints_LL, GB, tab64_LL, gC, wB, giC, noneB, gst, tC, pC, frV, frH, frK]) (by simp [tupA, hpLt, tmLt, AV.lt, AE.lt, AC.lt, LL_cons, LL_nil, idOk, ABlk.lt, ints_LL, GB, tab64_LL, gC, wB, giC, noneB, gst, tC, pC, frV, frH, frK])
end Go.Proofs.YtfphkpdobbffeaaDoor

/-
  Contract: a wire put into a position, for the reference.
-/
namespace Go.Proofs.YtfphkpdobbffeaaDoor
open Go Go.AH
set_option maxRecDepth 100000
set_option maxHeartbeats 1000000

theorem ext_bytes (l : List UInt8) (s e : Nat) : (⟨l.toArray⟩ : ByteArray).extract s e = ⟨((l.drop s).take (e - s)).toArray⟩ := by
  apply ByteArray.ext
  apply Array.ext'
  simp [ByteArray.data_extract, List.extract_eq_take_drop]
theorem app_bytes (l m : List UInt8) : (⟨l.toArray⟩ : ByteArray) ++ ⟨m.toArray⟩ = ⟨(l ++ m).toArray⟩ := by
  apply ByteArray.ext
  apply Array.ext'
  simp [ByteArray.data_append]
theorem put_spec {n f k f' k' w : Nat} {ch : UInt8} (hn : n ≤ 10) (hw : w < n) (he : (posL n f k).take w ++ [ch] ++ (posL n f k).drop (w + 1) = posL n f' k') : FDet Tryd.prog 46 [.c (.str (posB n f k)), .c (.int .i64 w), .c (.int .u8 (ch.toNat : Int))] [] 0 (.c (.str (posB n f' k'))) [] 0 := by
  have hsz := posB_size n f k
  have hch : ch.toNat < 256 := ch.toNat_lt
  refine FSpec.of_body tok true Tryd.func46 rfl (by kernel_rfl) (by decide) (by simp [tupA, hpLt, tmLt, AV.lt, AE.lt, AC.lt, LL_cons, LL_nil, idOk, ABlk.lt, ints_LL, GB, tab64_LL, gC, wB, giC, noneB, gst, tC, pC]) (by simp [tupA, hpLt, tmLt, AV.lt, AE.lt, AC.lt, LL_cons, LL_nil, idOk, ABlk.lt, ints_LL, GB, tab64_LL, gC, wB, giC, noneB, gst, tC, pC]) (by show 3 ≤ _; decide) ?_
  refine Wk.on ?_
  refine Tr.draw (md := true) [⟨[], [8, 10, 11, 12, 14, 15, 16, 17], [], [], []⟩, ⟨[], [7, 10, 11, 12, 14, 15, 16, 17], [0], [], []⟩, ⟨[0, 1], [10, 11, 12, 14, 15, 16, 17], [], [], []⟩, ⟨[], [7, 8, 9, 14, 15, 16, 17], [0, 1, 2], [], []⟩, ⟨[3], [7, 8, 9, 14, 15, 16, 17], [0, 1, 2], [], []⟩, ⟨[3, 4], [7, 8, 9, 14, 15, 16, 17], [0, 1, 2], [], []⟩, ⟨[0, 1, 2, 3, 4, 5], [14, 15, 16, 17], [], [], []⟩, ⟨[], [7, 8, 9, 10, 11, 12, 13, 15, 16], [0, 1, 2, 3, 4, 5, 6], [], []⟩, ⟨[], [7, 8, 9, 10, 11, 12, 13, 14], [0, 1, 2, 3, 4, 5, 6, 7], [], []⟩, ⟨[8], [7, 8, 9, 10, 11, 12, 13, 14], [0, 1, 2, 3, 4, 5, 6, 7], [], []⟩, ⟨[7, 8, 9], [7, 8, 9, 10, 11, 12, 13], [0, 1, 2, 3, 4, 5, 6], [], []⟩] tok (by kernel_rfl) (by kernel_rfl) ?_
  refine Wk.on ?_
  rw [hsz]
  refine ⟨⟨Int.le_refl 0, by show (0 : Int) ≤ (w : Int); omega, by show (w : Int) ≤ (n : Int); omega⟩, ?_⟩
  refine Wk.on ?_
  have e1 : (posB n f k).extract ((none : Option Int).getD 0).toNat ((some (w : Int)).getD (n : Int)).toNat = ⟨((posL n f k).take w).toArray⟩ := by
    rw [posB, ext_bytes]; simp
  have e2 : (⟨#[UInt8.ofNat ((ch.toNat : Int)).toNat]⟩ : ByteArray) = ⟨[ch].toArray⟩ := by simp
  rw [e1, e2]
  have s1 : (⟨((posL n f k).take w).toArray⟩ : ByteArray).size ≤ n := by
    show ((posL n f k).take w).toArray.size ≤ n
    simp [posL_len]; omega
  have s2 : (⟨[ch].toArray⟩ : ByteArray).size = 1 := rfl
  refine ⟨by omega, ?_⟩
  rw [app_bytes]
  refine Wk.on ?_
  rw [hsz]
  refine ⟨⟨by show (0 : Int) ≤ (w : Int) + 1; omega, by show (w : Int) + 1 ≤ (n : Int); omega, Int.le_refl _⟩, ?_⟩
  have e3 : (posB n f k).extract ((some ((w : Int) + 1)).getD 0).toNat ((none : Option Int).getD (n : Int)).toNat = ⟨((posL n f k).drop (w + 1)).toArray⟩ := by
    rw [posB, ext_bytes]
    congr 2
    simp only [Option.getD_some, Option.getD_none, Int.toNat_natCast]
    rw [show ((w : Int) + 1).toNat = w + 1 by omega, List.take_of_length_le (by rw [List.length_drop, posL_len]; omega)]
  have s3 : (⟨((posL n f k).take w ++ [ch]).toArray⟩ : ByteArray).size ≤ n + 1 := by
    show ((posL n f k).take w ++ [ch]).toArray.size ≤ n + 1
    simp [posL_len]; omega
  have s4 : (⟨((posL n f k).drop (w + 1)).toArray⟩ : ByteArray).size ≤ n := by
    show ((posL n f k).drop (w + 1)).toArray.size ≤ n
    simp [posL_len]
  refine Wk.on ?_
  rw [e3]
  refine ⟨by omega, ?_⟩
  rw [app_bytes, he]
  refine Wk.on ?_
  exact AH.Fin.nil [] ⟨rfl, rfl, rfl⟩ (by first | exact trivial | (simp [tupA, hpLt, tmLt, AV.lt, AE.lt, AC.lt, LL_cons, LL_nil, idOk, ABlk.lt, ints_LL, GB, tab64_LL, gC, wB, giC, noneB, gst, tC, pC]; done) | (simp [tupA, hpLt, tmLt, AV.lt, AE.lt, AC.lt, LL_cons, LL_nil, idOk, ABlk.lt, ints_LL, GB, tab64_LL, gC, wB, giC, noneB, gst, tC, pC, rdn, wrn]; done)) trivial trivial rfl (by simp [GB])
end Go.Proofs.YtfphkpdobbffeaaDoor

/-
  Plain law: positions with a wire cut or kept; the number of a position tells it.
-/
namespace Go.Proofs.YtfphkpdobbffeaaDoor
open Go Go.AH
set_option maxRecDepth 100000
set_option maxHeartbeats 1000000

theorem pos_set {n f k f' k' w : Nat} {ch : UInt8} (hw : w < n) (h0 : (if f'.testBit w then (46 : UInt8) else if k'.testBit w then 43 else 45) = ch) (h : ∀ i, i ≠ w → f'.testBit i = f.testBit i ∧ (f.testBit i = false → k'.testBit i = k.testBit i)) :
    (posL n f k).take w ++ [ch] ++ (posL n f k).drop (w + 1) = posL n f' k' := by
  have e : (posL n f k).take w ++ [ch] ++ (posL n f k).drop (w + 1) = (posL n f k).set w ch := by
    rw [List.set_eq_take_append_cons_drop, if_pos (by rw [posL_len]; exact hw)]; simp
  rw [e]
  apply List.ext_getElem (by simp [posL])
  intro i h1 h2
  rw [List.getElem_set]
  by_cases e : w = i
  · subst e
    rw [if_pos rfl, ← h0]
    simp [posL]
  · rw [if_neg e]
    obtain ⟨a, b⟩ := h i (fun h => e h.symm)
    simp only [posL, List.getElem_map, List.getElem_range, a]
    split
    · rfl
    · rename_i hf
      rw [b (by simpa using hf)]
theorem pos_cut {n f k w : Nat} (hn : n ≤ 10) (hf : f < 2 ^ n) (hw : w < n) (hk : k.testBit w = false) : (posL n f k).take w ++ [45] ++ (posL n f k).drop (w + 1) = posL n (offN f w) k := by
  have hf2 : f < 1024 := Nat.lt_of_lt_of_le hf (Nat.pow_le_pow_right (by omega) hn)
  refine pos_set hw (by rw [offN_bit hf2 (by omega), hk]; simp) fun i hi => ⟨by rw [offN_bit hf2 (by omega)]; simp [hi], fun _ => rfl⟩
theorem pos_keep {n f k w : Nat} (hn : n ≤ 10) (hf : f < 2 ^ n) (hw : w < n) : (posL n f k).take w ++ [43] ++ (posL n f k).drop (w + 1) = posL n (offN f w) (k ||| 2 ^ w) := by
  have hf2 : f < 1024 := Nat.lt_of_lt_of_le hf (Nat.pow_le_pow_right (by omega) hn)
  refine pos_set hw (by rw [offN_bit hf2 (by omega), Nat.testBit_or, Nat.testBit_two_pow]; simp) fun i hi => ⟨by rw [offN_bit hf2 (by omega)]; simp [hi], fun _ => by rw [Nat.testBit_or, Nat.testBit_two_pow]; simp [show ¬ w = i from fun h => hi h.symm]⟩
theorem codeN_inj {f k f' k' : Nat} : ∀ n, codeN n f k = codeN n f' k' → ∀ i, i < n → f.testBit i = f'.testBit i ∧ (f.testBit i = false → k.testBit i = k'.testBit i)
  | 0, _, i, hi => by omega
  | n + 1, h, i, hi => by
    simp only [codeN] at h
    have hq : codeN n f k = codeN n f' k' ∧ (if f.testBit n then 0 else if k.testBit n then 1 else 2) = (if f'.testBit n then 0 else if k'.testBit n then 1 else 2) := by
      have h1 : (if f.testBit n then 0 else if k.testBit n then 1 else 2) < 3 := by split <;> (try split) <;> omega
      have h2 : (if f'.testBit n then 0 else if k'.testBit n then 1 else 2) < 3 := by split <;> (try split) <;> omega
      omega
    by_cases e : i = n
    · subst e
      have := hq.2
      revert this
      cases f.testBit i <;> cases f'.testBit i <;> cases k.testBit i <;> cases k'.testBit i <;> simp
    · exact codeN_inj n hq.1 i (by omega)
theorem pos_eq {n f k f' k' : Nat} (hf : f < 2 ^ n) (hk : k < 2 ^ n) (hf' : f' < 2 ^ n) (hk' : k' < 2 ^ n) (hd : ∀ i, f.testBit i = true → k.testBit i = false) (hd' : ∀ i, f'.testBit i = true → k'.testBit i = false) (h : codeN n f k = codeN n f' k') : f = f' ∧ k = k' := by
  have hi := codeN_inj n h
  have big : ∀ (a i : Nat), a < 2 ^ n → ¬ i < n → a.testBit i = false := fun a i ha hn => by
    cases h : a.testBit i with
    | false => rfl
    | true => exact absurd (lt_len ha h) hn
  refine ⟨Nat.eq_of_testBit_eq fun i => ?_, Nat.eq_of_testBit_eq fun i => ?_⟩
  · by_cases e : i < n
    · exact (hi i e).1
    · rw [big f i hf e, big f' i hf' e]
  · by_cases e : i < n
    · obtain ⟨a, b⟩ := hi i e
      cases h : f.testBit i with
      | true => rw [hd i h, hd' i (by rw [← a]; exact h)]
      | false => exact b h
    · rw [big k i hk e, big k' i hk' e]
/-- What is known: 1 where Short wins, 2 where not. -/
def KI (g : Gm) (L : List Int) : Prop := L.length = 2 * 3 ^ g.ws.length ∧ ∀ f k c, f < 2 ^ g.ws.length → k < 2 ^ g.ws.length → (∀ i, f.testBit i = true → k.testBit i = false) →
  L.getD (2 * codeN g.ws.length f k + c.toNat) 0 = 0 ∨ L.getD (2 * codeN g.ws.length f k + c.toNat) 0 = if W g f k c then 1 else 2
theorem KI.zero (g : Gm) : KI g (List.replicate (2 * 3 ^ g.ws.length) 0) := ⟨by simp, fun f k c _ _ _ => .inl (by
  simp only [List.getD_eq_getElem?_getD, List.getElem?_replicate]
  split <;> rfl)⟩
theorem KI.set {g : Gm} {L : List Int} (h : KI g L) {f k : Nat} {c : Bool} (hf : f < 2 ^ g.ws.length) (hk : k < 2 ^ g.ws.length) (hd : ∀ i, f.testBit i = true → k.testBit i = false) : KI g (L.set (2 * codeN g.ws.length f k + c.toNat) (if W g f k c then 1 else 2)) := by
  refine ⟨by rw [List.length_set]; exact h.1, fun f' k' c' hf' hk' hd' => ?_⟩
  have hl := codeN_lt f k g.ws.length
  have hc : c.toNat < 2 := by cases c <;> decide
  have hc' : c'.toNat < 2 := by cases c' <;> decide
  simp only [List.getD_eq_getElem?_getD, List.getElem?_set]
  by_cases e : 2 * codeN g.ws.length f k + c.toNat = 2 * codeN g.ws.length f' k' + c'.toNat
  · rw [if_pos e, if_pos (by rw [h.1]; omega)]
    obtain ⟨rfl, rfl⟩ := pos_eq hf hk hf' hk' hd hd' (by omega)
    have : c = c' := by
      have : c.toNat = c'.toNat := by omega
      revert this; cases c <;> cases c' <;> simp
    subst this
    exact .inr rfl
  · rw [if_neg e, ← List.getD_eq_getElem?_getD]
    exact h.2 f' k' c' hf' hk' hd'
end Go.Proofs.YtfphkpdobbffeaaDoor

/-
  Contract: who wins, by the reference.
-/
namespace Go.Proofs.YtfphkpdobbffeaaDoor
open Go Go.AH
set_option maxRecDepth 100000
set_option maxHeartbeats 1000000

def NK (g : Gm) : Nat := 2 * 3 ^ g.ws.length
def WOk (g : Gm) (f : Nat) : Prop := ∀ k c L, k < 2 ^ g.ws.length → (∀ i, f.testBit i = true → k.testBit i = false) → KI g L →
  FSpec Tryd.prog 44 [.g (gC g 0), .c (.str (posB g.ws.length f k)), .c (.bool c), .c (.sl 1 0 (NK g) (some (NK g)))] [(0, wB g), (1, .own (ints L))] 2
    (fun r2 hq k' => ∃ L' : List Int, KI g L' ∧ r2 = .c (.bool (W g f k c)) ∧ hq = [(1, .own (ints L'))] ∧ k' = 2)
end Go.Proofs.YtfphkpdobbffeaaDoor

/-
  Contract: the kind of a game, by the reference; the law SwitchKinds, as a contract.
-/
namespace Go.Proofs.YtfphkpdobbffeaaDoor
open Go Go.AH
set_option maxRecDepth 100000
set_option maxHeartbeats 1000000

end Go.Proofs.YtfphkpdobbffeaaDoor

/-
  Contracts: whether a string is a position, by the program.
-/
namespace Go.Proofs.YtfphkpdobbffeaaDoor
open Go Go.AH
set_option maxRecDepth 100000
set_option maxHeartbeats 1000000

def bs (l : List UInt8) : ByteArray := ⟨l.toArray⟩
theorem bs_size (l : List UInt8) : (bs l).size = l.length := by show l.toArray.size = _; simp
theorem bs_list (b : ByteArray) : b = bs b.data.toList := by cases b; rfl
theorem bs_at (l : List UInt8) (i : Nat) : ((bs l).data.toList.getD i 0) = l.getD i 0 := rfl
def isP (c : UInt8) : Bool := c == 46 || c == 43 || c == 45
/-- The set of the three signs. -/
def asC : List AC := (((List.replicate 256 (AC.bool false)).set 46 (.bool true)).set 43 (.bool true)).set 45 (.bool true)
theorem asC_eq : asC = (List.range 256).map fun c => AC.bool (isP (UInt8.ofNat c)) := by kernel_rfl
theorem as_getD (c : UInt8) : asC.getD c.toNat (.bool false) = .bool (isP c) := by
  have h : c.toNat < 256 := c.toNat_lt
  rw [asC_eq, List.getD_eq_getElem?_getD, List.getElem?_map, List.getElem?_range h]
  simp
theorem as_prim : ∀ x ∈ asC, x.prim = true := by
  rw [asC_eq]; intro x hx; obtain ⟨c, _, rfl⟩ := List.mem_map.1 hx; rfl
theorem as_ren {q : Nat → Nat} : asC.map (AC.ren q) = asC := by
  conv => rhs; rw [← List.map_id asC]
  exact List.map_congr_left fun x hx => prim_ren (as_prim x hx) q
theorem as_LL (n : Nat) : LL n asC := fun x hx => prim_lt (as_prim x hx)
theorem as_len : asC.length = 256 := by rw [asC_eq]; simp
theorem contains_spec (c : UInt8) : FDet Tryd.prog 118 [.c (.ptr 0 0), .c (.int .u8 (c.toNat : Int))] [(0, .ro asC)] 1 (.c (.bool (isP c))) [] 1 := by
  have hc : c.toNat < 256 := c.toNat_lt
  have hl := as_len
  have hg := as_getD c
  have hg : asC.getD (0 + ((c.toNat : Nat) : Int).toNat * 1) (.bool false) = .bool (isP c) := by rw [Int.toNat_natCast, Nat.zero_add, Nat.mul_one]; exact hg
  refine FSpec.of_body tok true Tryd.func118 rfl (by kernel_rfl) (by decide) (by simp [tupA, hpLt, tmLt, AV.lt, AE.lt, AC.lt, LL_cons, LL_nil, idOk, ABlk.lt, ints_LL, GB, tab64_LL, gC, wB, giC, noneB, gst, tC, pC, as_LL]) (by simp [tupA, hpLt, tmLt, AV.lt, AE.lt, AC.lt, LL_cons, LL_nil, idOk, ABlk.lt, ints_LL, GB, tab64_LL, gC, wB, giC, noneB, gst, tC, pC, as_LL]) (by show 2 ≤ _; decide) ?_
  refine Wk.on ?_
  rw [hg]
  exact AH.Fin.nil [] ⟨rfl, rfl, rfl⟩ (by first | exact trivial | (simp [tupA, hpLt, tmLt, AV.lt, AE.lt, AC.lt, LL_cons, LL_nil, idOk, ABlk.lt, ints_LL, GB, tab64_LL, gC, wB, giC, noneB, gst, tC, pC, as_LL]; done) | (simp [tupA, hpLt, tmLt, AV.lt, AE.lt, AC.lt, LL_cons, LL_nil, idOk, ABlk.lt, ints_LL, GB, tab64_LL, gC, wB, giC, noneB, gst, tC, pC, as_LL, rdn, wrn]; done)) trivial trivial rfl (by simp [GB])
def trimR (l : List UInt8) : List UInt8 := (l.reverse.dropWhile isP).reverse
theorem trimR_snoc (l : List UInt8) (c : UInt8) : trimR (l ++ [c]) = if isP c = true then trimR l else l ++ [c] := by
  simp only [trimR, List.reverse_append, List.reverse_cons, List.reverse_nil, List.nil_append, List.singleton_append, List.dropWhile_cons]
  split <;> simp
theorem trimR_spec (l : List UInt8) (hl : l.length ≤ 1000) : FDet Tryd.prog 106 [.c (.str (bs l)), .c (.ptr 0 0)] [(0, .ro asC)] 1 (.c (.str (bs (trimR l)))) [] 1 := by
  refine FSpec.of_body tok true Tryd.func106 rfl (by kernel_rfl) (by decide) (by simp [tupA, hpLt, tmLt, AV.lt, AE.lt, AC.lt, LL_cons, LL_nil, idOk, ABlk.lt, ints_LL, GB, tab64_LL, gC, wB, giC, noneB, gst, tC, pC, as_LL]) (by simp [tupA, hpLt, tmLt, AV.lt, AE.lt, AC.lt, LL_cons, LL_nil, idOk, ABlk.lt, ints_LL, GB, tab64_LL, gC, wB, giC, noneB, gst, tC, pC, as_LL]) (by show 2 ≤ _; decide) ?_
  refine Wk.on ?_
  refine Tr.loop (md := true) (X := List UInt8) (st := fun m => ⟨[(0, .c (.str (bs m))), (1, .c (.ptr 0 0))], [(0, .ro asC)], 1, 22, 1⟩) (inv := fun m => m.length ≤ 1000 ∧ trimR m = trimR l) (μ := fun m => m.length) (x0 := l) (l := []) tok ⟨hl, rfl⟩ ?_ ?_
  · exact Sub.nil ⟨rfl, rfl, (by simp [tab64_LL, gC, wB, giC, noneB, gst, tC, pC, as_LL]), rfl, (by simp [tupA, hpLt, tmLt, AV.lt, AE.lt, AC.lt, LL_cons, LL_nil, idOk, ABlk.lt, ints_LL, GB, tab64_LL, gC, wB, giC, noneB, gst, tC, pC, as_LL]), (by simp [tupA, hpLt, tmLt, AV.lt, AE.lt, AC.lt, LL_cons, LL_nil, idOk, ABlk.lt, ints_LL, GB, tab64_LL, gC, wB, giC, noneB, gst, tC, pC, as_LL])⟩ (by (repeat (first | exact trivial | refine ⟨trivial, ?_⟩ | refine ⟨rfl, ?_⟩))) (by (repeat (first | exact trivial | refine ⟨trivial, ?_⟩ | refine ⟨rfl, ?_⟩)))
  · rintro m ⟨hm, ht⟩
    have hs := bs_size m
    refine Wk.on ?_
    rw [hs]
    refine ⟨fun hc => ?_, fun hc => ?_⟩ <;> (try simp only [decide_eq_true_eq, decide_eq_false_iff_not, Decidable.not_not, Bool.not_true, Bool.not_false, ne_eq, cond_true, cond_false, Bool.not_eq_true', Bool.not_eq_false'] at hc)
    · obtain ⟨m0, c, rfl⟩ : ∃ m0 c, m = m0 ++ [c] := by
        have : m ≠ [] := fun e => by rw [e] at hc; simp at hc
        exact ⟨m.dropLast, m.getLast this, (List.dropLast_concat_getLast this).symm⟩
      rw [trimR_snoc] at ht
      have hlen : (m0 ++ [c]).length = m0.length + 1 := by simp
      rw [hlen] at hm hs
      have hat : (bs (m0 ++ [c])).data.toList.getD ((((m0.length + 1 : Nat) : Int) - 1).toNat) 0 = c := by
        rw [bs_at, show (((m0.length + 1 : Nat) : Int) - 1).toNat = m0.length by omega]
        simp [List.getD_eq_getElem?_getD]
      refine Wk.on ?_
      rw [hs, hat]
      refine CallA.ro [0] (.c (.bool (isP c))) (contains_spec c) (by first | rfl | exact congrArg AV.g (ints_ren _ _) | (simp [ints_ren, AV.ren, ABlk.ren, AC.ren, AE.ren, qq]; done)) rfl (by (repeat (first | exact trivial | refine ⟨⟨(by first | exact .inl (by decide) | exact .inr (by decide)), (by first | (refine Or.inl ?_; first | rfl | exact congrArg some (ints_ren _ _).symm | exact congrArg ABlk.own (ints_ren _ _).symm | exact congrArg some (tab64_ren _).symm | exact congrArg some as_ren.symm | exact as_ren.symm) | rfl | exact congrArg some (ints_ren _ _).symm | exact congrArg ABlk.own (ints_ren _ _).symm | exact congrArg some (tab64_ren _).symm | exact congrArg some as_ren.symm | exact as_ren.symm | exact Or.inr ⟨rfl, rfl⟩)⟩, ?_⟩))) (by first | rfl | exact congrArg AV.g (ints_ren _ _) | (simp [ints_ren, AV.ren, ABlk.ren, AC.ren, AE.ren, qq]; done)) ?_
      cases hp : isP c with
      | true =>
        rw [hp, if_pos rfl] at ht
        refine Wk.on ?_
        rw [hs]
        refine ⟨⟨Int.le_refl 0, by show (0 : Int) ≤ ((m0.length + 1 : Nat) : Int) - 1; omega, by show ((m0.length + 1 : Nat) : Int) - 1 ≤ ((m0.length + 1 : Nat) : Int); omega⟩, ?_⟩
        have e1 : (bs (m0 ++ [c])).extract ((none : Option Int).getD 0).toNat ((some (((m0.length + 1 : Nat) : Int) - 1)).getD ((m0.length + 1 : Nat) : Int)).toNat = bs m0 := by
          rw [bs, ext_bytes]
          simp only [Option.getD_none, Option.getD_some]
          rw [show (((m0.length + 1 : Nat) : Int) - 1).toNat = m0.length by omega]
          simp [bs]
        rw [e1]
        refine Wk.on ?_
        refine Again.mk (m0) (Sub.nil ⟨rfl, rfl, (by simp [tab64_LL, gC, wB, giC, noneB, gst, tC, pC, as_LL]), rfl, (by simp [tupA, hpLt, tmLt, AV.lt, AE.lt, AC.lt, LL_cons, LL_nil, idOk, ABlk.lt, ints_LL, GB, tab64_LL, gC, wB, giC, noneB, gst, tC, pC, as_LL]), (by simp [tupA, hpLt, tmLt, AV.lt, AE.lt, AC.lt, LL_cons, LL_nil, idOk, ABlk.lt, ints_LL, GB, tab64_LL, gC, wB, giC, noneB, gst, tC, pC, as_LL])⟩ (by (repeat (first | exact trivial | refine ⟨trivial, ?_⟩ | refine ⟨rfl, ?_⟩))) (by (repeat (first | exact trivial | refine ⟨trivial, ?_⟩ | refine ⟨rfl, ?_⟩)))) (⟨by omega, ht⟩) (by omega)
      | false =>
        rw [hp] at ht
        simp only [Bool.false_eq_true, if_false] at ht
        refine Wk.on ?_
        exact AH.Fin.nil [] ⟨by rw [← ht]; rfl, rfl, rfl⟩ (by first | exact trivial | (simp [tupA, hpLt, tmLt, AV.lt, AE.lt, AC.lt, LL_cons, LL_nil, idOk, ABlk.lt, ints_LL, GB, tab64_LL, gC, wB, giC, noneB, gst, tC, pC, as_LL]; done) | (simp [tupA, hpLt, tmLt, AV.lt, AE.lt, AC.lt, LL_cons, LL_nil, idOk, ABlk.lt, ints_LL, GB, tab64_LL, gC, wB, giC, noneB, gst, tC, pC, as_LL, rdn, wrn]; done)) trivial trivial rfl (by simp [GB])
    · have : m = [] := by
        cases m with
        | nil => rfl
        | cons a b => simp at hc
      subst this
      refine Wk.on ?_
      exact AH.Fin.nil [] ⟨by rw [← ht]; rfl, rfl, rfl⟩ (by first | exact trivial | (simp [tupA, hpLt, tmLt, AV.lt, AE.lt, AC.lt, LL_cons, LL_nil, idOk, ABlk.lt, ints_LL, GB, tab64_LL, gC, wB, giC, noneB, gst, tC, pC, as_LL]; done) | (simp [tupA, hpLt, tmLt, AV.lt, AE.lt, AC.lt, LL_cons, LL_nil, idOk, ABlk.lt, ints_LL, GB, tab64_LL, gC, wB, giC, noneB, gst, tC, pC, as_LL, rdn, wrn]; done)) trivial trivial rfl (by simp [GB])
theorem trimL_spec (l : List UInt8) (hl : l.length ≤ 1000) : FDet Tryd.prog 105 [.c (.str (bs l)), .c (.ptr 0 0)] [(0, .ro asC)] 1 (.c (.str (bs (l.dropWhile isP)))) [] 1 := by
  refine FSpec.of_body tok true Tryd.func105 rfl (by kernel_rfl) (by decide) (by simp [tupA, hpLt, tmLt, AV.lt, AE.lt, AC.lt, LL_cons, LL_nil, idOk, ABlk.lt, ints_LL, GB, tab64_LL, gC, wB, giC, noneB, gst, tC, pC, as_LL]) (by simp [tupA, hpLt, tmLt, AV.lt, AE.lt, AC.lt, LL_cons, LL_nil, idOk, ABlk.lt, ints_LL, GB, tab64_LL, gC, wB, giC, noneB, gst, tC, pC, as_LL]) (by show 2 ≤ _; decide) ?_
  refine Wk.on ?_
  refine Tr.loop (md := true) (X := List UInt8) (st := fun m => ⟨[(0, .c (.str (bs m))), (1, .c (.ptr 0 0))], [(0, .ro asC)], 1, 16, 1⟩) (inv := fun m => m.length ≤ 1000 ∧ m.dropWhile isP = l.dropWhile isP) (μ := fun m => m.length) (x0 := l) (l := []) tok ⟨hl, rfl⟩ ?_ ?_
  · exact Sub.nil ⟨rfl, rfl, (by simp [tab64_LL, gC, wB, giC, noneB, gst, tC, pC, as_LL]), rfl, (by simp [tupA, hpLt, tmLt, AV.lt, AE.lt, AC.lt, LL_cons, LL_nil, idOk, ABlk.lt, ints_LL, GB, tab64_LL, gC, wB, giC, noneB, gst, tC, pC, as_LL]), (by simp [tupA, hpLt, tmLt, AV.lt, AE.lt, AC.lt, LL_cons, LL_nil, idOk, ABlk.lt, ints_LL, GB, tab64_LL, gC, wB, giC, noneB, gst, tC, pC, as_LL])⟩ (by (repeat (first | exact trivial | refine ⟨trivial, ?_⟩ | refine ⟨rfl, ?_⟩))) (by (repeat (first | exact trivial | refine ⟨trivial, ?_⟩ | refine ⟨rfl, ?_⟩)))
  · rintro m ⟨hm, ht⟩
    have hs := bs_size m
    refine Wk.on ?_
    rw [hs]
    refine ⟨fun hc => ?_, fun hc => ?_⟩ <;> (try simp only [decide_eq_true_eq, decide_eq_false_iff_not, Decidable.not_not, Bool.not_true, Bool.not_false, ne_eq, cond_true, cond_false, Bool.not_eq_true', Bool.not_eq_false'] at hc)
    · obtain ⟨c, m0, rfl⟩ : ∃ c m0, m = c :: m0 := by
        cases m with
        | nil => simp at hc
        | cons a b => exact ⟨a, b, rfl⟩
      rw [List.dropWhile_cons] at ht
      have hlen : (c :: m0).length = m0.length + 1 := by simp
      rw [hlen] at hm hs
      have hat : (bs (c :: m0)).data.toList.getD (Int.toNat 0) 0 = c := rfl
      refine Wk.on ?_
      rw [hat]
      refine CallA.ro [0] (.c (.bool (isP c))) (contains_spec c) (by first | rfl | exact congrArg AV.g (ints_ren _ _) | (simp [ints_ren, AV.ren, ABlk.ren, AC.ren, AE.ren, qq]; done)) rfl (by (repeat (first | exact trivial | refine ⟨⟨(by first | exact .inl (by decide) | exact .inr (by decide)), (by first | (refine Or.inl ?_; first | rfl | exact congrArg some (ints_ren _ _).symm | exact congrArg ABlk.own (ints_ren _ _).symm | exact congrArg some (tab64_ren _).symm | exact congrArg some as_ren.symm | exact as_ren.symm) | rfl | exact congrArg some (ints_ren _ _).symm | exact congrArg ABlk.own (ints_ren _ _).symm | exact congrArg some (tab64_ren _).symm | exact congrArg some as_ren.symm | exact as_ren.symm | exact Or.inr ⟨rfl, rfl⟩)⟩, ?_⟩))) (by first | rfl | exact congrArg AV.g (ints_ren _ _) | (simp [ints_ren, AV.ren, ABlk.ren, AC.ren, AE.ren, qq]; done)) ?_
      cases hp : isP c with
      | true =>
        rw [hp, if_pos rfl] at ht
        refine Wk.on ?_
        rw [hs]
        refine ⟨⟨by decide, by show (1 : Int) ≤ ((m0.length + 1 : Nat) : Int); omega, Int.le_refl _⟩, ?_⟩
        have e1 : (bs (c :: m0)).extract ((some (1 : Int)).getD 0).toNat ((none : Option Int).getD ((m0.length + 1 : Nat) : Int)).toNat = bs m0 := by
          rw [bs, ext_bytes]
          simp only [Option.getD_none, Option.getD_some]
          rw [Int.toNat_natCast]
          simp [bs]
        rw [e1]
        refine Wk.on ?_
        refine Again.mk (m0) (Sub.nil ⟨rfl, rfl, (by simp [tab64_LL, gC, wB, giC, noneB, gst, tC, pC, as_LL]), rfl, (by simp [tupA, hpLt, tmLt, AV.lt, AE.lt, AC.lt, LL_cons, LL_nil, idOk, ABlk.lt, ints_LL, GB, tab64_LL, gC, wB, giC, noneB, gst, tC, pC, as_LL]), (by simp [tupA, hpLt, tmLt, AV.lt, AE.lt, AC.lt, LL_cons, LL_nil, idOk, ABlk.lt, ints_LL, GB, tab64_LL, gC, wB, giC, noneB, gst, tC, pC, as_LL])⟩ (by (repeat (first | exact trivial | refine ⟨trivial, ?_⟩ | refine ⟨rfl, ?_⟩))) (by (repeat (first | exact trivial | refine ⟨trivial, ?_⟩ | refine ⟨rfl, ?_⟩)))) (⟨by omega, ht⟩) (by omega)
      | false =>
        rw [hp] at ht
        simp only [Bool.false_eq_true, if_false] at ht
        refine Wk.on ?_
        exact AH.Fin.nil [] ⟨by rw [← ht]; rfl, rfl, rfl⟩ (by first | exact trivial | (simp [tupA, hpLt, tmLt, AV.lt, AE.lt, AC.lt, LL_cons, LL_nil, idOk, ABlk.lt, ints_LL, GB, tab64_LL, gC, wB, giC, noneB, gst, tC, pC, as_LL]; done) | (simp [tupA, hpLt, tmLt, AV.lt, AE.lt, AC.lt, LL_cons, LL_nil, idOk, ABlk.lt, ints_LL, GB, tab64_LL, gC, wB, giC, noneB, gst, tC, pC, as_LL, rdn, wrn]; done)) trivial trivial rfl (by simp [GB])
    · have : m = [] := by
        cases m with
        | nil => rfl
        | cons a b => simp at hc
      subst this
      refine Wk.on ?_
      exact AH.Fin.nil [] ⟨by rw [← ht]; rfl, rfl, rfl⟩ (by first | exact trivial | (simp [tupA, hpLt, tmLt, AV.lt, AE.lt, AC.lt, LL_cons, LL_nil, idOk, ABlk.lt, ints_LL, GB, tab64_LL, gC, wB, giC, noneB, gst, tC, pC, as_LL]; done) | (simp [tupA, hpLt, tmLt, AV.lt, AE.lt, AC.lt, LL_cons, LL_nil, idOk, ABlk.lt, ints_LL, GB, tab64_LL, gC, wB, giC, noneB, gst, tC, pC, as_LL, rdn, wrn]; done)) trivial trivial rfl (by simp [GB])
/-- What is left of a string. -/
def trimP (l : List UInt8) : List UInt8 := (trimR l).dropWhile isP
theorem dropWhile_nil {l : List UInt8} : l.dropWhile isP = [] ↔ ∀ c ∈ l, isP c = true := by
  induction l with
  | nil => simp
  | cons a l ih =>
    rw [List.dropWhile_cons]
    cases h : isP a <;> simp [h, ih]
theorem trimP_nil (l : List UInt8) : trimP l = [] ↔ ∀ c ∈ l, isP c = true := by
  rw [trimP, dropWhile_nil]
  constructor
  · intro h c hc
    have h1 : ∀ l : List UInt8, (∀ c ∈ l.dropWhile isP, isP c = true) → ∀ c ∈ l, isP c = true := by
      intro l
      induction l with
      | nil => simp
      | cons a l ih =>
        intro h
        rw [List.dropWhile_cons] at h
        cases ha : isP a with
        | true => rw [ha, if_pos rfl] at h; intro c hc; rcases List.mem_cons.1 hc with rfl | hc; exact ha; exact ih h c hc
        | false => rw [ha] at h; exact h
    exact h1 l.reverse (fun c hc => h c (by rw [trimR]; exact List.mem_reverse.2 hc)) c (List.mem_reverse.2 hc)
  · intro h c hc
    exact h c (by rw [trimR, List.mem_reverse] at hc; exact List.mem_reverse.1 ((List.dropWhile_sublist _).subset hc))
def asS : Nat → List AC
  | 0 => List.replicate 256 (.bool false)
  | 1 => (List.replicate 256 (AC.bool false)).set 46 (.bool true)
  | 2 => ((List.replicate 256 (AC.bool false)).set 46 (.bool true)).set 43 (.bool true)
  | _ => asC
theorem asS_LL (n : Nat) : ∀ i, LL n (asS i)
  | 0 => fun x hx => by rw [List.eq_of_mem_replicate hx]; trivial
  | 1 => fun x hx => by
    rcases List.mem_or_eq_of_mem_set hx with h | h
    · rw [List.eq_of_mem_replicate h]; trivial
    · rw [h]; trivial
  | 2 => fun x hx => by
    rcases List.mem_or_eq_of_mem_set hx with h | h
    · rcases List.mem_or_eq_of_mem_set h with h | h
      · rw [List.eq_of_mem_replicate h]; trivial
      · rw [h]; trivial
    · rw [h]; trivial
  | n + 3 => as_LL _
theorem make_spec : FDet Tryd.prog 104 [.c (.str ⟨#[46, 43, 45]⟩)] [] 0 (.t [.g asC, .c (.bool true)]) [] 0 := by
  have hl := as_len
  refine FSpec.of_body tok true Tryd.func104 rfl (by kernel_rfl) (by decide) (by simp [tupA, hpLt, tmLt, AV.lt, AE.lt, AC.lt, LL_cons, LL_nil, idOk, ABlk.lt, ints_LL, GB, tab64_LL, gC, wB, giC, noneB, gst, tC, pC, as_LL]) (by simp [tupA, hpLt, tmLt, AV.lt, AE.lt, AC.lt, LL_cons, LL_nil, idOk, ABlk.lt, ints_LL, GB, tab64_LL, gC, wB, giC, noneB, gst, tC, pC, as_LL]) (by show 1 ≤ _; decide) ?_
  refine Wk.on ?_
  refine Tr.loop (md := true) (X := Nat) (st := fun i => ⟨[(0, .c (.str ⟨#[46, 43, 45]⟩)), (2, .c (.ptr 0 0)), (4, .c (.int .i64 i))], [(0, .own (asS i))], 1, 21, 0⟩) (inv := fun i => i ≤ 3) (μ := fun i => 3 - i) (x0 := 0) (l := []) tok (by omega) ?_ ?_
  · exact Sub.nil ⟨rfl, rfl, (by simp), rfl, (by simp [tupA, hpLt, tmLt, AV.lt, AE.lt, AC.lt, LL_cons, LL_nil, idOk, ABlk.lt, ints_LL, GB, tab64_LL, gC, wB, giC, noneB, gst, tC, pC, as_LL]), (by refine ⟨.inl (by decide), ?_, trivial⟩; intro x hx; rw [List.eq_of_mem_replicate hx]; trivial)⟩ (by (repeat (first | exact trivial | refine ⟨trivial, ?_⟩ | refine ⟨rfl, ?_⟩))) (by (repeat (first | exact trivial | refine ⟨trivial, ?_⟩ | refine ⟨rfl, ?_⟩)))
  · intro i hi
    match i, hi with
    | 0, _ =>
      refine Wk.on ?_
      refine Again.mk (1) (Sub.nil ⟨rfl, rfl, (by simp), rfl, (by simp [tupA, hpLt, tmLt, AV.lt, AE.lt, AC.lt, LL_cons, LL_nil, idOk, ABlk.lt, ints_LL, GB, tab64_LL, gC, wB, giC, noneB, gst, tC, pC, as_LL]), ⟨.inl (by decide), asS_LL _ _, trivial⟩⟩ (by (repeat (first | exact trivial | refine ⟨trivial, ?_⟩ | refine ⟨rfl, ?_⟩))) ⟨rfl, trivial⟩) (by omega) (by omega)
    | 1, _ =>
      refine Wk.on ?_
      refine Again.mk (2) (Sub.nil ⟨rfl, rfl, (by simp), rfl, (by simp [tupA, hpLt, tmLt, AV.lt, AE.lt, AC.lt, LL_cons, LL_nil, idOk, ABlk.lt, ints_LL, GB, tab64_LL, gC, wB, giC, noneB, gst, tC, pC, as_LL]), ⟨.inl (by decide), asS_LL _ _, trivial⟩⟩ (by (repeat (first | exact trivial | refine ⟨trivial, ?_⟩ | refine ⟨rfl, ?_⟩))) ⟨rfl, trivial⟩) (by omega) (by omega)
    | 2, _ =>
      refine Wk.on ?_
      refine Again.mk (3) (Sub.nil ⟨rfl, rfl, (by simp), rfl, (by simp [tupA, hpLt, tmLt, AV.lt, AE.lt, AC.lt, LL_cons, LL_nil, idOk, ABlk.lt, ints_LL, GB, tab64_LL, gC, wB, giC, noneB, gst, tC, pC, as_LL]), ⟨.inl (by decide), asS_LL _ _, trivial⟩⟩ (by (repeat (first | exact trivial | refine ⟨trivial, ?_⟩ | refine ⟨rfl, ?_⟩))) ⟨rfl, trivial⟩) (by omega) (by omega)
    | 3, _ =>
      refine Wk.on ?_
      exact AH.Fin.nil [] ⟨rfl, rfl, rfl⟩ (by intro e he; simp at he; rcases he with rfl | rfl; exact as_LL _; trivial) trivial trivial rfl (by simp [GB])
end Go.Proofs.YtfphkpdobbffeaaDoor

/-
  Contracts: strings.Trim at the three signs; CheckPosition.
-/
namespace Go.Proofs.YtfphkpdobbffeaaDoor
open Go Go.AH
set_option maxRecDepth 100000
set_option maxHeartbeats 1000000

theorem bs_toList (l : List UInt8) : (bs l).toList = l := by rw [ByteArray.toList_eq]; rfl
theorem nil_toList : (⟨#[]⟩ : ByteArray).toList = [] := by rw [ByteArray.toList_eq]
theorem trim_spec (l : List UInt8) (hl : l.length ≤ 1000) : FDet Tryd.prog 85 [.c (.str (bs l)), .c (.str ⟨#[46, 43, 45]⟩)] [] 0 (.c (.str (bs (trimP l)))) [] 0 := by
  have hrl : (trimR l).length ≤ 1000 := by
    have := (List.dropWhile_sublist isP (l := l.reverse)).length_le
    simp only [trimR, List.length_reverse] at this ⊢
    omega
  have hT := trimR_spec l hl
  have hL := trimL_spec (trimR l) hrl
  refine FSpec.of_body tok true Tryd.func85 rfl (by kernel_rfl) (by decide) (by simp [tupA, hpLt, tmLt, AV.lt, AE.lt, AC.lt, LL_cons, LL_nil, idOk, ABlk.lt, ints_LL, GB, tab64_LL, gC, wB, giC, noneB, gst, tC, pC, as_LL]) (by simp [tupA, hpLt, tmLt, AV.lt, AE.lt, AC.lt, LL_cons, LL_nil, idOk, ABlk.lt, ints_LL, GB, tab64_LL, gC, wB, giC, noneB, gst, tC, pC, as_LL]) (by show 2 ≤ _; decide) ?_
  refine Wk.on ?_
  rw [bs_toList, nil_toList]
  cases l with
  | nil =>
    refine Wk.on ?_
    exact AH.Fin.nil [] ⟨rfl, rfl, rfl⟩ (by first | exact trivial | (simp [tupA, hpLt, tmLt, AV.lt, AE.lt, AC.lt, LL_cons, LL_nil, idOk, ABlk.lt, ints_LL, GB, tab64_LL, gC, wB, giC, noneB, gst, tC, pC, as_LL]; done) | (simp [tupA, hpLt, tmLt, AV.lt, AE.lt, AC.lt, LL_cons, LL_nil, idOk, ABlk.lt, ints_LL, GB, tab64_LL, gC, wB, giC, noneB, gst, tC, pC, as_LL, rdn, wrn]; done)) trivial trivial rfl (by simp [GB])
  | cons a l =>
    refine Wk.on ?_
    refine ⟨fun _ => ?_, fun h => absurd h (by simp)⟩
    refine Wk.on ?_
    intro _
    refine Wk.on ?_
    refine CallA.ro [] (.t [.g asC, .c (.bool true)]) (make_spec) (by first | rfl | exact congrArg AV.g (ints_ren _ _) | (simp [ints_ren, AV.ren, ABlk.ren, AC.ren, AE.ren, as_ren, qq]; done)) rfl (by (repeat (first | exact trivial | refine ⟨⟨(by first | exact .inl (by decide) | exact .inr (by decide)), (by first | (refine Or.inl ?_; first | rfl | exact congrArg some (ints_ren _ _).symm | exact congrArg ABlk.own (ints_ren _ _).symm | exact congrArg some (tab64_ren _).symm | exact congrArg some as_ren.symm | exact as_ren.symm | exact congrArg ABlk.own as_ren.symm) | rfl | exact congrArg some (ints_ren _ _).symm | exact congrArg ABlk.own (ints_ren _ _).symm | exact congrArg some (tab64_ren _).symm | exact congrArg some as_ren.symm | exact as_ren.symm | exact congrArg ABlk.own as_ren.symm | exact Or.inr ⟨rfl, rfl⟩)⟩, ?_⟩))) (by first | rfl | exact congrArg AV.g (ints_ren _ _) | (simp [ints_ren, AV.ren, ABlk.ren, AC.ren, AE.ren, as_ren, qq]; done)) ?_
    have hal := as_len
    refine Wk.on ?_
    refine CallA.ro [0] (.c (.str (bs (trimR (a :: l))))) (hT) (by first | rfl | exact congrArg AV.g (ints_ren _ _) | (simp [ints_ren, AV.ren, ABlk.ren, AC.ren, AE.ren, as_ren, qq]; done)) rfl (by (repeat (first | exact trivial | refine ⟨⟨(by first | exact .inl (by decide) | exact .inr (by decide)), (by first | (refine Or.inl ?_; first | rfl | exact congrArg some (ints_ren _ _).symm | exact congrArg ABlk.own (ints_ren _ _).symm | exact congrArg some (tab64_ren _).symm | exact congrArg some as_ren.symm | exact as_ren.symm | exact congrArg ABlk.own as_ren.symm) | rfl | exact congrArg some (ints_ren _ _).symm | exact congrArg ABlk.own (ints_ren _ _).symm | exact congrArg some (tab64_ren _).symm | exact congrArg some as_ren.symm | exact as_ren.symm | exact congrArg ABlk.own as_ren.symm | exact Or.inr ⟨rfl, rfl⟩)⟩, ?_⟩))) (by first | rfl | exact congrArg AV.g (ints_ren _ _) | (simp [ints_ren, AV.ren, ABlk.ren, AC.ren, AE.ren, as_ren, qq]; done)) ?_
    refine Wk.on ?_
    refine CallA.ro [0] (.c (.str (bs (trimP (a :: l))))) (hL) (by first | rfl | exact congrArg AV.g (ints_ren _ _) | (simp [ints_ren, AV.ren, ABlk.ren, AC.ren, AE.ren, as_ren, qq]; done)) rfl (by (repeat (first | exact trivial | refine ⟨⟨(by first | exact .inl (by decide) | exact .inr (by decide)), (by first | (refine Or.inl ?_; first | rfl | exact congrArg some (ints_ren _ _).symm | exact congrArg ABlk.own (ints_ren _ _).symm | exact congrArg some (tab64_ren _).symm | exact congrArg some as_ren.symm | exact as_ren.symm | exact congrArg ABlk.own as_ren.symm) | rfl | exact congrArg some (ints_ren _ _).symm | exact congrArg ABlk.own (ints_ren _ _).symm | exact congrArg some (tab64_ren _).symm | exact congrArg some as_ren.symm | exact as_ren.symm | exact congrArg ABlk.own as_ren.symm | exact Or.inr ⟨rfl, rfl⟩)⟩, ?_⟩))) (by first | rfl | exact congrArg AV.g (ints_ren _ _) | (simp [ints_ren, AV.ren, ABlk.ren, AC.ren, AE.ren, as_ren, qq]; done)) ?_
    refine Wk.on ?_
    exact AH.Fin.nil [] ⟨rfl, rfl, rfl⟩ (by first | exact trivial | (simp [tupA, hpLt, tmLt, AV.lt, AE.lt, AC.lt, LL_cons, LL_nil, idOk, ABlk.lt, ints_LL, GB, tab64_LL, gC, wB, giC, noneB, gst, tC, pC, as_LL]; done) | (simp [tupA, hpLt, tmLt, AV.lt, AE.lt, AC.lt, LL_cons, LL_nil, idOk, ABlk.lt, ints_LL, GB, tab64_LL, gC, wB, giC, noneB, gst, tC, pC, as_LL, rdn, wrn]; done)) trivial trivial rfl (by simp [GB])
/-- A position, as bytes. -/
def okPos (n : Nat) (l : List UInt8) : Bool := l.length == n && l.all isP
theorem checkPos_spec {g : Gm} (hg : g.game) (l : List UInt8) (hl : l.length ≤ 1000) : FDet Tryd.prog 47 [.g (gC g 0), .c (.str (bs l))] [(0, wB g), (100002, .ro tab64)] 1 (.c (.int .i64 (cond (okPos g.ws.length l) 0 1))) [] 1 := by
  have hs := bs_size l
  have hT := trim_spec l hl
  refine FSpec.of_body tok true Tryd.func47 rfl (by kernel_rfl) (by decide) (by simp [tupA, hpLt, tmLt, AV.lt, AE.lt, AC.lt, LL_cons, LL_nil, idOk, ABlk.lt, ints_LL, GB, tab64_LL, gC, wB, giC, noneB, gst, tC, pC, as_LL]) (by simp [tupA, hpLt, tmLt, AV.lt, AE.lt, AC.lt, LL_cons, LL_nil, idOk, ABlk.lt, ints_LL, GB, tab64_LL, gC, wB, giC, noneB, gst, tC, pC, as_LL]) (by show 2 ≤ _; decide) ?_
  refine Wk.on ?_
  refine CallA.ro [0] (.c (.int .i64 0)) (check_ok hg) (by first | rfl | exact congrArg AV.g (ints_ren _ _) | (simp [ints_ren, AV.ren, ABlk.ren, AC.ren, AE.ren, as_ren, qq]; done)) rfl (by (repeat (first | exact trivial | refine ⟨⟨(by first | exact .inl (by decide) | exact .inr (by decide)), (by first | (refine Or.inl ?_; first | rfl | exact congrArg some (ints_ren _ _).symm | exact congrArg ABlk.own (ints_ren _ _).symm | exact congrArg some (tab64_ren _).symm | exact congrArg some as_ren.symm | exact as_ren.symm | exact congrArg ABlk.own as_ren.symm) | rfl | exact congrArg some (ints_ren _ _).symm | exact congrArg ABlk.own (ints_ren _ _).symm | exact congrArg some (tab64_ren _).symm | exact congrArg some as_ren.symm | exact as_ren.symm | exact congrArg ABlk.own as_ren.symm | exact Or.inr ⟨rfl, rfl⟩)⟩, ?_⟩))) (by first | rfl | exact congrArg AV.g (ints_ren _ _) | (simp [ints_ren, AV.ren, ABlk.ren, AC.ren, AE.ren, as_ren, qq]; done)) ?_
  refine Wk.on ?_
  by_cases hn : l.length = g.ws.length
  · rw [show decide (((bs l).size : Int) ≠ (g.ws.length : Int)) = false from by rw [hs]; simp [hn]]
    refine Wk.on ?_
    refine CallA.ro [] (.c (.str (bs (trimP l)))) (hT) (by first | rfl | exact congrArg AV.g (ints_ren _ _) | (simp [ints_ren, AV.ren, ABlk.ren, AC.ren, AE.ren, as_ren, qq]; done)) rfl (by (repeat (first | exact trivial | refine ⟨⟨(by first | exact .inl (by decide) | exact .inr (by decide)), (by first | (refine Or.inl ?_; first | rfl | exact congrArg some (ints_ren _ _).symm | exact congrArg ABlk.own (ints_ren _ _).symm | exact congrArg some (tab64_ren _).symm | exact congrArg some as_ren.symm | exact as_ren.symm | exact congrArg ABlk.own as_ren.symm) | rfl | exact congrArg some (ints_ren _ _).symm | exact congrArg ABlk.own (ints_ren _ _).symm | exact congrArg some (tab64_ren _).symm | exact congrArg some as_ren.symm | exact as_ren.symm | exact congrArg ABlk.own as_ren.symm | exact Or.inr ⟨rfl, rfl⟩)⟩, ?_⟩))) (by first | rfl | exact congrArg AV.g (ints_ren _ _) | (simp [ints_ren, AV.ren, ABlk.ren, AC.ren, AE.ren, as_ren, qq]; done)) ?_
    refine Wk.on ?_
    rw [bs_toList, nil_toList]
    cases hq : trimP l with
    | nil =>
      have hok : okPos g.ws.length l = true := by
        have := (trimP_nil l).1 hq
        simp only [okPos, Bool.and_eq_true, beq_iff_eq, List.all_eq_true]
        exact ⟨hn, this⟩
      rw [hok]
      refine Wk.on ?_
      exact AH.Fin.nil [] ⟨rfl, rfl, rfl⟩ (by first | exact trivial | (simp [tupA, hpLt, tmLt, AV.lt, AE.lt, AC.lt, LL_cons, LL_nil, idOk, ABlk.lt, ints_LL, GB, tab64_LL, gC, wB, giC, noneB, gst, tC, pC, as_LL]; done) | (simp [tupA, hpLt, tmLt, AV.lt, AE.lt, AC.lt, LL_cons, LL_nil, idOk, ABlk.lt, ints_LL, GB, tab64_LL, gC, wB, giC, noneB, gst, tC, pC, as_LL, rdn, wrn]; done)) trivial trivial rfl (by simp [GB])
    | cons a m =>
      have hok : okPos g.ws.length l = false := by
        cases h : okPos g.ws.length l with
        | false => rfl
        | true =>
          simp only [okPos, Bool.and_eq_true, beq_iff_eq, List.all_eq_true] at h
          rw [(trimP_nil l).2 h.2] at hq
          cases hq
      rw [hok, show ((a :: m : List UInt8) == []) = false from rfl]
      refine Wk.on ?_
      exact AH.Fin.nil [] ⟨rfl, rfl, rfl⟩ (by first | exact trivial | (simp [tupA, hpLt, tmLt, AV.lt, AE.lt, AC.lt, LL_cons, LL_nil, idOk, ABlk.lt, ints_LL, GB, tab64_LL, gC, wB, giC, noneB, gst, tC, pC, as_LL]; done) | (simp [tupA, hpLt, tmLt, AV.lt, AE.lt, AC.lt, LL_cons, LL_nil, idOk, ABlk.lt, ints_LL, GB, tab64_LL, gC, wB, giC, noneB, gst, tC, pC, as_LL, rdn, wrn]; done)) trivial trivial rfl (by simp [GB])
  · have hok : okPos g.ws.length l = false := by simp [okPos, hn]
    rw [hok, show decide (((bs l).size : Int) ≠ (g.ws.length : Int)) = true from by rw [hs]; simp; omega]
    refine Wk.on ?_
    exact AH.Fin.nil [] ⟨rfl, rfl, rfl⟩ (by first | exact trivial | (simp [tupA, hpLt, tmLt, AV.lt, AE.lt, AC.lt, LL_cons, LL_nil, idOk, ABlk.lt, ints_LL, GB, tab64_LL, gC, wB, giC, noneB, gst, tC, pC, as_LL]; done) | (simp [tupA, hpLt, tmLt, AV.lt, AE.lt, AC.lt, LL_cons, LL_nil, idOk, ABlk.lt, ints_LL, GB, tab64_LL, gC, wB, giC, noneB, gst, tC, pC, as_LL, rdn, wrn]; done)) trivial trivial rfl (by simp [GB])
end Go.Proofs.YtfphkpdobbffeaaDoor

/-
  Contracts: a position, as sets; read.
-/
namespace Go.Proofs.YtfphkpdobbffeaaDoor
open Go Go.AH
set_option maxRecDepth 100000
set_option maxHeartbeats 1000000

def bitsN (q : Nat → Bool) : Nat → Nat
  | 0 => 0
  | i + 1 => if q i = true then bitsN q i ||| 2 ^ i else bitsN q i
theorem bitsN_bit (q : Nat → Bool) (j : Nat) : ∀ n, (bitsN q n).testBit j = (decide (j < n) && q j)
  | 0 => by simp [bitsN]
  | n + 1 => by
    have ih := bitsN_bit q j n
    rw [bitsN]
    split
    · rename_i h
      rw [Nat.testBit_or, ih, Nat.testBit_two_pow]
      by_cases e : n = j
      · subst e; simp [h]
      · have : decide (j < n + 1) = decide (j < n) := by simp; omega
        rw [this]; simp [e]
    · rename_i h
      rw [ih]
      by_cases e : n = j
      · subst e; simp [h]
      · have : decide (j < n + 1) = decide (j < n) := by simp; omega
        rw [this]
theorem bitsN_lt (q : Nat → Bool) : ∀ n, bitsN q n < 2 ^ n
  | 0 => by simp [bitsN]
  | n + 1 => by
    have ih := bitsN_lt q n
    have h2 : 2 ^ n < 2 ^ (n + 1) := (Nat.pow_lt_pow_iff_right (by omega)).2 (by omega)
    rw [bitsN]
    split
    · exact or_lt (by omega) h2
    · omega
/-- The free wires, and the kept ones, of bytes. -/
def fB (n : Nat) (l : List UInt8) : Nat := bitsN (fun i => l.getD i 0 == 46) n
def kB (n : Nat) (l : List UInt8) : Nat := bitsN (fun i => l.getD i 0 == 43) n
theorem fB_lt (n : Nat) (l : List UInt8) : fB n l < 2 ^ n := bitsN_lt _ _
theorem kB_lt (n : Nat) (l : List UInt8) : kB n l < 2 ^ n := bitsN_lt _ _
theorem fkB_dis (n : Nat) (l : List UInt8) (i : Nat) (h : (fB n l).testBit i = true) : (kB n l).testBit i = false := by
  rw [fB, bitsN_bit] at h
  rw [kB, bitsN_bit]
  simp only [Bool.and_eq_true, decide_eq_true_eq, beq_iff_eq] at h
  rw [h.2]; simp
theorem pos_of_ok {n : Nat} {l : List UInt8} (h : okPos n l = true) : l = posL n (fB n l) (kB n l) := by
  simp only [okPos, Bool.and_eq_true, beq_iff_eq, List.all_eq_true] at h
  apply List.ext_getElem (by rw [posL_len]; exact h.1)
  intro i h1 h2
  have h3 : i < n := by omega
  have hp := h.2 _ (List.getElem_mem h1)
  simp only [posL, List.getElem_map, List.getElem_range, fB, kB, bitsN_bit, h3, decide_true, Bool.true_and, List.getD_eq_getElem?_getD, List.getElem?_eq_getElem h1, Option.getD_some]
  simp only [isP, Bool.or_eq_true, beq_iff_eq] at hp
  rcases hp with (hp | hp) | hp <;> rw [hp] <;> decide
theorem ok_pos (n f k : Nat) : okPos n (posL n f k) = true := by
  simp only [okPos, Bool.and_eq_true, beq_iff_eq, List.all_eq_true]
  refine ⟨posL_len n f k, fun c hc => ?_⟩
  obtain ⟨i, _, rfl⟩ := List.mem_map.1 hc
  split
  · rfl
  · split <;> rfl
theorem pos_decode {n f k i : Nat} (h : i < n) : Utf8.decode (posB n f k) i = ((if f.testBit i = true then 46 else if k.testBit i = true then 43 else 45), 1) := by
  have hs := posB_size n f k
  have hl : i < (posB n f k).size := by omega
  have hg : (posB n f k)[i]'hl = (posL n f k).getD i 0 := by
    rw [List.getD_eq_getElem?_getD, List.getElem?_eq_getElem (by rw [posL_len]; exact h)]
    rfl
  rw [posL_getD h] at hg
  rw [decode_ascii _ _ hl (by rw [hg]; split; decide; split <;> decide), hg]
  split
  · rfl
  · split <;> rfl
theorem setTo_all0 {n f : Nat} (hf : f < 2 ^ n) : setTo n 0 f n = f := setTo_all hf fun i h => by simp at h
theorem read_spec {n f k : Nat} (hn : n ≤ 10) (hf : f < 2 ^ n) (hk : k < 2 ^ n) (hd : ∀ i, f.testBit i = true → k.testBit i = false) : FDet Tryd.prog 82 [.c (.str (posB n f k))] [] 0 (.g [.int .i64 f, .int .i64 k]) [] 0 := by
  have hsz := posB_size n f k
  refine FSpec.of_body tok true Tryd.func82 rfl (by kernel_rfl) (by decide) (by simp [tupA, hpLt, tmLt, AV.lt, AE.lt, AC.lt, LL_cons, LL_nil, idOk, ABlk.lt, ints_LL, GB, tab64_LL, gC, wB, giC, noneB, gst, tC, pC]) (by simp [tupA, hpLt, tmLt, AV.lt, AE.lt, AC.lt, LL_cons, LL_nil, idOk, ABlk.lt, ints_LL, GB, tab64_LL, gC, wB, giC, noneB, gst, tC, pC]) (by show 1 ≤ _; decide) ?_
  refine Wk.on ?_
  refine Tr.loop (md := true) (X := Nat) (st := fun i => ⟨[(0, .c (.str (posB n f k))), (2, .c (.ptr 0 0)), (3, .c (.ptr 1 0)), (7, .c (.ptr 2 0))], [(2, .si (posB n f k) i), (1, .own [.int .i64 (setTo n 0 f i), .int .i64 (setTo n f k i)]), (0, .own [.int .i64 0, .int .i64 0])], 3, 32, 0⟩) (inv := fun i => i ≤ n) (μ := fun i => n - i) (x0 := 0) (l := []) tok (by omega) ?_ ?_
  · exact Sub.nil ⟨rfl, rfl, (by simp [tab64_LL, gC, wB, giC, noneB, gst, tC, pC]), rfl, (by simp [tupA, hpLt, tmLt, AV.lt, AE.lt, AC.lt, LL_cons, LL_nil, idOk, ABlk.lt, ints_LL, GB, tab64_LL, gC, wB, giC, noneB, gst, tC, pC]), (by simp [tupA, hpLt, tmLt, AV.lt, AE.lt, AC.lt, LL_cons, LL_nil, idOk, ABlk.lt, ints_LL, GB, tab64_LL, gC, wB, giC, noneB, gst, tC, pC])⟩ (by (repeat (first | exact trivial | refine ⟨trivial, ?_⟩ | refine ⟨rfl, ?_⟩))) (by (repeat (first | exact trivial | refine ⟨trivial, ?_⟩ | refine ⟨rfl, ?_⟩)))
  · intro i hi
    refine Wk.on ?_
    rw [hsz]
    refine ⟨fun hc => ?_, fun hc => ?_⟩ <;> (try simp only [decide_eq_true_eq, decide_eq_false_iff_not, Decidable.not_not, Bool.not_true, Bool.not_false, ne_eq, cond_true, cond_false, Bool.not_eq_true', Bool.not_eq_false'] at hc)
    · have hde := pos_decode (f := f) (k := k) hc
      have hpi : 2 ^ i < 2048 := pow_small (by omega)
      have h1 := setTo_lt n 0 f i
      have h2 := setTo_lt n f k i
      have s1 : setTo n 0 f (i + 1) = if f.testBit i = true then setTo n 0 f i ||| 2 ^ i else setTo n 0 f i := by rw [setTo]; simp
      have s2 : setTo n f k (i + 1) = if f.testBit i = true then setTo n f k i else if k.testBit i = true then setTo n f k i ||| 2 ^ i else setTo n f k i := rfl
      rw [hde]
      by_cases hf1 : f.testBit i = true
      · rw [if_pos hf1] at s1 s2 ⊢
        refine Wk.on ?_
        rw [wrapU (by omega)]
        refine ⟨⟨by omega, by omega, by rw [shl1 rfl]; unfold I64; omega⟩, ?_⟩
        rw [shl1 rfl]
        refine Wk.on ?_
        refine Again.mk (i + 1) (Sub.nil ⟨rfl, rfl, (by simp [tab64_LL, gC, wB, giC, noneB, gst, tC, pC]), rfl, (by simp [tupA, hpLt, tmLt, AV.lt, AE.lt, AC.lt, LL_cons, LL_nil, idOk, ABlk.lt, ints_LL, GB, tab64_LL, gC, wB, giC, noneB, gst, tC, pC]), (by simp [tupA, hpLt, tmLt, AV.lt, AE.lt, AC.lt, LL_cons, LL_nil, idOk, ABlk.lt, ints_LL, GB, tab64_LL, gC, wB, giC, noneB, gst, tC, pC])⟩ (by (repeat (first | exact trivial | refine ⟨trivial, ?_⟩ | refine ⟨rfl, ?_⟩))) ⟨rfl, by show ABlk.own _ = ABlk.own _; rw [s1, s2]; rfl, rfl, trivial⟩) (by omega) (by omega)
      · rw [if_neg hf1] at s1 s2 ⊢
        by_cases hk1 : k.testBit i = true
        · rw [if_pos hk1] at s2 ⊢
          refine Wk.on ?_
          rw [wrapU (by omega)]
          refine ⟨⟨by omega, by omega, by rw [shl1 rfl]; unfold I64; omega⟩, ?_⟩
          rw [shl1 rfl]
          refine Wk.on ?_
          refine Again.mk (i + 1) (Sub.nil ⟨rfl, rfl, (by simp [tab64_LL, gC, wB, giC, noneB, gst, tC, pC]), rfl, (by simp [tupA, hpLt, tmLt, AV.lt, AE.lt, AC.lt, LL_cons, LL_nil, idOk, ABlk.lt, ints_LL, GB, tab64_LL, gC, wB, giC, noneB, gst, tC, pC]), (by simp [tupA, hpLt, tmLt, AV.lt, AE.lt, AC.lt, LL_cons, LL_nil, idOk, ABlk.lt, ints_LL, GB, tab64_LL, gC, wB, giC, noneB, gst, tC, pC])⟩ (by (repeat (first | exact trivial | refine ⟨trivial, ?_⟩ | refine ⟨rfl, ?_⟩))) ⟨rfl, by show ABlk.own _ = ABlk.own _; rw [s1, s2]; rfl, rfl, trivial⟩) (by omega) (by omega)
        · rw [if_neg hk1] at s2 ⊢
          refine Wk.on ?_
          refine Again.mk (i + 1) (Sub.nil ⟨rfl, rfl, (by simp [tab64_LL, gC, wB, giC, noneB, gst, tC, pC]), rfl, (by simp [tupA, hpLt, tmLt, AV.lt, AE.lt, AC.lt, LL_cons, LL_nil, idOk, ABlk.lt, ints_LL, GB, tab64_LL, gC, wB, giC, noneB, gst, tC, pC]), (by simp [tupA, hpLt, tmLt, AV.lt, AE.lt, AC.lt, LL_cons, LL_nil, idOk, ABlk.lt, ints_LL, GB, tab64_LL, gC, wB, giC, noneB, gst, tC, pC])⟩ (by (repeat (first | exact trivial | refine ⟨trivial, ?_⟩ | refine ⟨rfl, ?_⟩))) ⟨rfl, by show ABlk.own _ = ABlk.own _; rw [s1, s2], rfl, trivial⟩) (by omega) (by omega)
    · obtain rfl : i = n := by omega
      refine Wk.on ?_
      rw [setTo_all0 hf, setTo_all hk hd]
      exact AH.Fin.nil [] ⟨rfl, rfl, rfl⟩ (by first | exact trivial | (simp [tupA, hpLt, tmLt, AV.lt, AE.lt, AC.lt, LL_cons, LL_nil, idOk, ABlk.lt, ints_LL, GB, tab64_LL, gC, wB, giC, noneB, gst, tC, pC]; done) | (simp [tupA, hpLt, tmLt, AV.lt, AE.lt, AC.lt, LL_cons, LL_nil, idOk, ABlk.lt, ints_LL, GB, tab64_LL, gC, wB, giC, noneB, gst, tC, pC, rdn, wrn]; done)) trivial trivial rfl (by simp [GB])
end Go.Proofs.YtfphkpdobbffeaaDoor

/-
  Contracts: Position by the reference; the position of any string.
-/
namespace Go.Proofs.YtfphkpdobbffeaaDoor
open Go Go.AH
set_option maxRecDepth 100000
set_option maxHeartbeats 1000000

end Go.Proofs.YtfphkpdobbffeaaDoor

/-
  Contract: the position of any string.
-/
namespace Go.Proofs.YtfphkpdobbffeaaDoor
open Go Go.AH
set_option maxRecDepth 100000
set_option maxHeartbeats 1000000

def u8s (l : List UInt8) : List AC := l.map fun c => AC.int .u8 (c.toNat : Int)
theorem u8s_LL (n : Nat) (l : List UInt8) : LL n (u8s l) := fun x hx => by
  obtain ⟨c, _, rfl⟩ := List.mem_map.1 hx; trivial
theorem u8s_ren (q : Nat → Nat) (l : List UInt8) : (u8s l).map (AC.ren q) = u8s l := by
  simp only [u8s, List.map_map]; rfl
theorem u8s_len (l : List UInt8) : (u8s l).length = l.length := by simp [u8s]
theorem bytesA_u8s : ∀ (l : List UInt8) (k : List UInt8 → Prop), bytesA (u8s l) k ↔ k l
  | [], k => Iff.rfl
  | c :: l, k => by
    have hc : c.toNat < 256 := c.toNat_lt
    show ((0 ≤ (c.toNat : Int) ∧ (c.toNat : Int) < 256) ∧ bytesA (u8s l) fun m => k (UInt8.ofNat (c.toNat : Int).toNat :: m)) ↔ k (c :: l)
    rw [bytesA_u8s l, Int.toNat_natCast, UInt8.ofNat_toNat]
    constructor
    · exact fun h => h.2
    · exact fun h => ⟨⟨by omega, by omega⟩, h⟩
theorem u8Eq {e z : Nat} {q : Nat → Nat} {xs : List UInt8} {cs : List AC} (h : cs = u8s xs) : some (ABlk.row e z cs) = some ((ABlk.row e z (u8s xs)).ren q) := by
  simp only [ABlk.ren, u8s_ren, h]
/-- The sign of a byte. -/
def dig (l : List UInt8) (i : Nat) : UInt8 := if i < l.length then ([46, 43, 45] : List UInt8).getD ((l.getD i 0).toNat % 3) 0 else 46
def posOf (l : List UInt8) (n : Nat) : List UInt8 := (List.range n).map (dig l)
theorem posOf_succ (l : List UInt8) (i : Nat) : posOf l (i + 1) = posOf l i ++ [dig l i] := by simp [posOf, List.range_succ]
theorem posOf_len (l : List UInt8) (n : Nat) : (posOf l n).length = n := by simp [posOf]
theorem posOf_ok (l : List UInt8) (n : Nat) : okPos n (posOf l n) = true := by
  simp only [okPos, Bool.and_eq_true, beq_iff_eq, List.all_eq_true]
  refine ⟨posOf_len l n, fun c hc => ?_⟩
  obtain ⟨i, _, rfl⟩ := List.mem_map.1 hc
  rw [dig]
  split
  · have : (l.getD i 0).toNat % 3 < 3 := Nat.mod_lt _ (by omega)
    generalize (l.getD i 0).toNat % 3 = j at *
    rcases j with _ | _ | _ | j <;> first | rfl | omega
  · rfl
def uV : List UInt8 → AC
  | [] => .nils
  | _ :: l => .row 2 (l.length + 1)
def uH : List UInt8 → List (Nat × ABlk)
  | [] => []
  | x :: l => [(2, .row 5 1 (u8s (x :: l)))]
def uK : List UInt8 → Nat
  | [] => 2
  | _ => 3
theorem wBren (g : Gm) (q : Nat → Nat) : some (wB g) = some (ABlk.ren q (wB g)) := by rw [wB, ABlk.ren, ints_ren]
theorem wrapI {x : Nat} (h : x < 1000000) : IntKind.i64.wrap (x : Int) = x := by
  exact AH.wrap_small _ _ (by omega) (by show (x : Int) < 2 ^ 64; omega) (by intro _; show (x : Int) < 2 ^ 63; omega)
theorem mod3 (c : UInt8) : ((⟨#[46, 43, 45]⟩ : ByteArray).data.toList.getD (((c.toNat : Nat) : Int) % 3).toNat 0) = ([46, 43, 45] : List UInt8).getD (c.toNat % 3) 0 := by
  rw [show (((c.toNat : Nat) : Int) % 3).toNat = c.toNat % 3 by omega]
theorem position_spec {g : Gm} (hg : g.ok) (l : List UInt8) : FDet Tryd.prog 41 [.g (gC g 0), .c (.str (bs l))] [(0, wB g)] 1 (.c (.str (bs (posOf l g.ws.length)))) [] 1 := by
  have hs := bs_size l
  have hgl := hg.len
  refine FSpec.of_body tok true Tryd.func41 rfl (by kernel_rfl) (by decide) (by simp [tupA, hpLt, tmLt, AV.lt, AE.lt, AC.lt, LL_cons, LL_nil, idOk, ABlk.lt, ints_LL, GB, tab64_LL, gC, wB, giC, noneB, gst, tC, pC, u8s_LL, uV, uH, uK]) (by simp [tupA, hpLt, tmLt, AV.lt, AE.lt, AC.lt, LL_cons, LL_nil, idOk, ABlk.lt, ints_LL, GB, tab64_LL, gC, wB, giC, noneB, gst, tC, pC, u8s_LL, uV, uH, uK]) (by show 2 ≤ _; decide) ?_
  refine Wk.on ?_
  refine Tr.loop (md := true) (X := Nat × List UInt8) (st := fun p => ⟨[(1, .c (.str (bs l))), (2, .c (.ptr 1 0)), (5, .c (uV p.2)), (6, .c (.int .i64 p.1))], uH p.2 ++ [(1, .own (gC g 0)), (0, wB g)], uK p.2, 31, 1⟩) (inv := fun p => p.1 ≤ g.ws.length ∧ p.2 = posOf l p.1) (μ := fun p => g.ws.length - p.1) (x0 := (0, [])) (l := []) tok ⟨Nat.zero_le _, rfl⟩ ?_ ?_
  · exact Sub.nil ⟨rfl, rfl, (by simp [tab64_LL, gC, wB, giC, noneB, gst, tC, pC, u8s_LL, uV, uH, uK]), rfl, (by simp [tupA, hpLt, tmLt, AV.lt, AE.lt, AC.lt, LL_cons, LL_nil, idOk, ABlk.lt, ints_LL, GB, tab64_LL, gC, wB, giC, noneB, gst, tC, pC, u8s_LL, uV, uH, uK]), (by simp [tupA, hpLt, tmLt, AV.lt, AE.lt, AC.lt, LL_cons, LL_nil, idOk, ABlk.lt, ints_LL, GB, tab64_LL, gC, wB, giC, noneB, gst, tC, pC, u8s_LL, uV, uH, uK])⟩ ⟨rfl, rfl, rfl, rfl, trivial⟩ ⟨rfl, rfl, trivial⟩
  · rintro ⟨i, m⟩ ⟨hi, hm⟩
    dsimp only at hi hm
    have hml := posOf_len l i
    have hms := posOf_succ l i
    rw [← hm] at hml hms
    rcases m with _ | ⟨x, m⟩
    · dsimp only [uV, uH, uK, List.nil_append]
      refine Wk.on ?_
      refine ⟨fun hc => ?_, fun hc => ?_⟩ <;> (try simp only [decide_eq_true_eq, decide_eq_false_iff_not, Decidable.not_not, Bool.not_true, Bool.not_false, ne_eq, cond_true, cond_false, Bool.not_eq_true', Bool.not_eq_false'] at hc)
      · refine Wk.on ?_
        rw [hs]
        by_cases hi2 : i < l.length
        · have hdg : dig l i = ([46, 43, 45] : List UInt8).getD ((l.getD i 0).toNat % 3) 0 := by rw [dig, if_pos hi2]
          have hat : (bs l).data.toList.getD (Int.toNat (i : Int)) 0 = l.getD i 0 := by rw [Int.toNat_natCast]; rfl
          rw [decide_eq_true (show (i : Int) < (l.length : Int) by omega)]
          refine Wk.on ?_
          rw [hat, wrapI (by have := (l.getD i 0).toNat_lt; omega)]
          generalize l.getD i 0 = c at *
          have hc8 : c.toNat < 256 := c.toNat_lt
          refine ⟨⟨by omega, by decide⟩, ?_⟩
          refine ⟨⟨by omega, by show ((c.toNat : Nat) : Int) % 3 < 3; omega⟩, ?_⟩
          rw [mod3]
          obtain ⟨d, hd⟩ : ∃ d, d = ([46, 43, 45] : List UInt8).getD (c.toNat % 3) 0 := ⟨_, rfl⟩
          rw [← hd] at hdg ⊢
          refine Wk.on ?_
          refine Again.mk (i + 1, [d]) (Sub.new [(2, 3)] ⟨rfl, rfl, Nat.le_of_ble_eq_true rfl, Nat.le_of_ble_eq_true rfl⟩ rfl ⟨rfl, rfl, rfl, rfl, trivial⟩ ⟨u8Eq rfl, rfl, wBren _ _, trivial⟩ rfl (by simp [tupA, hpLt, tmLt, AV.lt, AE.lt, AC.lt, LL_cons, LL_nil, idOk, ABlk.lt, ints_LL, GB, tab64_LL, gC, wB, giC, noneB, gst, tC, pC, u8s_LL, uV, uH, uK]) (by simp [tupA, hpLt, tmLt, AV.lt, AE.lt, AC.lt, LL_cons, LL_nil, idOk, ABlk.lt, ints_LL, GB, tab64_LL, gC, wB, giC, noneB, gst, tC, pC, u8s_LL, uV, uH, uK])) ⟨by omega, by show [d] = posOf l (i + 1); rw [hms, hdg]; rfl⟩ (by show g.ws.length - (i + 1) < g.ws.length - i; omega)
        · have hdg : dig l i = 46 := by rw [dig, if_neg hi2]
          rw [decide_eq_false (show ¬ (i : Int) < (l.length : Int) by omega)]
          refine Wk.on ?_
          refine Again.mk (i + 1, [46]) (Sub.new [(2, 3)] ⟨rfl, rfl, Nat.le_of_ble_eq_true rfl, Nat.le_of_ble_eq_true rfl⟩ rfl ⟨rfl, rfl, rfl, rfl, trivial⟩ ⟨u8Eq rfl, rfl, wBren _ _, trivial⟩ rfl (by simp [tupA, hpLt, tmLt, AV.lt, AE.lt, AC.lt, LL_cons, LL_nil, idOk, ABlk.lt, ints_LL, GB, tab64_LL, gC, wB, giC, noneB, gst, tC, pC, u8s_LL, uV, uH, uK]) (by simp [tupA, hpLt, tmLt, AV.lt, AE.lt, AC.lt, LL_cons, LL_nil, idOk, ABlk.lt, ints_LL, GB, tab64_LL, gC, wB, giC, noneB, gst, tC, pC, u8s_LL, uV, uH, uK])) ⟨by omega, by show [46] = posOf l (i + 1); rw [hms, hdg]; rfl⟩ (by show g.ws.length - (i + 1) < g.ws.length - i; omega)
      · obtain rfl : i = g.ws.length := by omega
        refine Wk.on ?_
        exact AH.Fin.nil [] ⟨by rw [← hm]; rfl, rfl, rfl⟩ (by first | exact trivial | (simp [tupA, hpLt, tmLt, AV.lt, AE.lt, AC.lt, LL_cons, LL_nil, idOk, ABlk.lt, ints_LL, GB, tab64_LL, gC, wB, giC, noneB, gst, tC, pC, u8s_LL, uV, uH, uK]; done) | (simp [tupA, hpLt, tmLt, AV.lt, AE.lt, AC.lt, LL_cons, LL_nil, idOk, ABlk.lt, ints_LL, GB, tab64_LL, gC, wB, giC, noneB, gst, tC, pC, u8s_LL, uV, uH, uK, rdn, wrn]; done)) trivial trivial rfl (by simp [GB])
    · dsimp only [uV, uH, uK, List.cons_append, List.nil_append]
      refine Wk.on ?_
      refine ⟨fun hc => ?_, fun hc => ?_⟩ <;> (try simp only [decide_eq_true_eq, decide_eq_false_iff_not, Decidable.not_not, Bool.not_true, Bool.not_false, ne_eq, cond_true, cond_false, Bool.not_eq_true', Bool.not_eq_false'] at hc)
      · refine Wk.on ?_
        rw [hs]
        by_cases hi2 : i < l.length
        · have hdg : dig l i = ([46, 43, 45] : List UInt8).getD ((l.getD i 0).toNat % 3) 0 := by rw [dig, if_pos hi2]
          have hat : (bs l).data.toList.getD (Int.toNat (i : Int)) 0 = l.getD i 0 := by rw [Int.toNat_natCast]; rfl
          rw [decide_eq_true (show (i : Int) < (l.length : Int) by omega)]
          refine Wk.on ?_
          rw [hat, wrapI (by have := (l.getD i 0).toNat_lt; omega)]
          generalize l.getD i 0 = c at *
          have hc8 : c.toNat < 256 := c.toNat_lt
          refine ⟨⟨by omega, by decide⟩, ?_⟩
          refine ⟨⟨by omega, by show ((c.toNat : Nat) : Int) % 3 < 3; omega⟩, ?_⟩
          rw [mod3]
          obtain ⟨d, hd⟩ : ∃ d, d = ([46, 43, 45] : List UInt8).getD (c.toNat % 3) 0 := ⟨_, rfl⟩
          rw [← hd] at hdg ⊢
          refine Wk.on ?_
          refine ⟨⟨Nat.le_of_ble_eq_true rfl, rfl, rfl, by rw [u8s_len]; simp, by show ((m.length + 1 + 1 : Nat) : Int) * 1 ≤ _; have : m.length + 1 = i := hml; omega, by have : m.length + 1 = i := hml; omega⟩, ?_⟩
          refine Wk.on ?_
          have e : (m ++ [d]).length = m.length + 1 := by simp
          refine Again.mk (i + 1, x :: (m ++ [d])) (Sub.new [(2, 4)] ⟨rfl, rfl, Nat.le_of_ble_eq_true rfl, Nat.le_of_ble_eq_true rfl⟩ rfl ⟨rfl, rfl, by show some (AV.c (.row 4 (m.length + 1 + 1))) = some (AV.c (.row 4 ((m ++ [d]).length + 1))); rw [e], rfl, trivial⟩ ⟨u8Eq (by show u8s (x :: m) ++ [.int .u8 d.toNat] = _; simp [u8s]), rfl, wBren _ _, trivial⟩ rfl (by simp [tupA, hpLt, tmLt, AV.lt, AE.lt, AC.lt, LL_cons, LL_nil, idOk, ABlk.lt, ints_LL, GB, tab64_LL, gC, wB, giC, noneB, gst, tC, pC, u8s_LL, uV, uH, uK]) (by simp [tupA, hpLt, tmLt, AV.lt, AE.lt, AC.lt, LL_cons, LL_nil, idOk, ABlk.lt, ints_LL, GB, tab64_LL, gC, wB, giC, noneB, gst, tC, pC, u8s_LL, uV, uH, uK])) ⟨by omega, by show x :: (m ++ [d]) = posOf l (i + 1); rw [hms, hdg]; rfl⟩ (by show g.ws.length - (i + 1) < g.ws.length - i; omega)
        · have hdg : dig l i = 46 := by rw [dig, if_neg hi2]
          rw [decide_eq_false (show ¬ (i : Int) < (l.length : Int) by omega)]
          refine Wk.on ?_
          refine ⟨⟨Nat.le_of_ble_eq_true rfl, rfl, rfl, by rw [u8s_len]; simp, by show ((m.length + 1 + 1 : Nat) : Int) * 1 ≤ _; have : m.length + 1 = i := hml; omega, by have : m.length + 1 = i := hml; omega⟩, ?_⟩
          refine Wk.on ?_
          have e : (m ++ [(46 : UInt8)]).length = m.length + 1 := by simp
          refine Again.mk (i + 1, x :: (m ++ [46])) (Sub.new [(2, 4)] ⟨rfl, rfl, Nat.le_of_ble_eq_true rfl, Nat.le_of_ble_eq_true rfl⟩ rfl ⟨rfl, rfl, by show some (AV.c (.row 4 (m.length + 1 + 1))) = some (AV.c (.row 4 ((m ++ [(46 : UInt8)]).length + 1))); rw [e], rfl, trivial⟩ ⟨u8Eq (by show u8s (x :: m) ++ [.int .u8 46] = _; simp [u8s]), rfl, wBren _ _, trivial⟩ rfl (by simp [tupA, hpLt, tmLt, AV.lt, AE.lt, AC.lt, LL_cons, LL_nil, idOk, ABlk.lt, ints_LL, GB, tab64_LL, gC, wB, giC, noneB, gst, tC, pC, u8s_LL, uV, uH, uK]) (by simp [tupA, hpLt, tmLt, AV.lt, AE.lt, AC.lt, LL_cons, LL_nil, idOk, ABlk.lt, ints_LL, GB, tab64_LL, gC, wB, giC, noneB, gst, tC, pC, u8s_LL, uV, uH, uK])) ⟨by omega, by show x :: (m ++ [46]) = posOf l (i + 1); rw [hms, hdg]; rfl⟩ (by show g.ws.length - (i + 1) < g.ws.length - i; omega)
      · obtain rfl : i = g.ws.length := by omega
        refine Wk.on ?_
        refine ⟨by rw [u8s_len]; simp, ?_⟩
        rw [List.take_of_length_le (by rw [u8s_len]; simp), bytesA_u8s]
        refine Wk.on ?_
        exact AH.Fin.nil [] ⟨by rw [← hm]; rfl, rfl, rfl⟩ (by first | exact trivial | (simp [tupA, hpLt, tmLt, AV.lt, AE.lt, AC.lt, LL_cons, LL_nil, idOk, ABlk.lt, ints_LL, GB, tab64_LL, gC, wB, giC, noneB, gst, tC, pC, u8s_LL, uV, uH, uK]; done) | (simp [tupA, hpLt, tmLt, AV.lt, AE.lt, AC.lt, LL_cons, LL_nil, idOk, ABlk.lt, ints_LL, GB, tab64_LL, gC, wB, giC, noneB, gst, tC, pC, u8s_LL, uV, uH, uK, rdn, wrn]; done)) trivial trivial rfl (by simp [GB])
end Go.Proofs.YtfphkpdobbffeaaDoor

/-
  Contracts: Joined, Wins, Best, of any string.
-/
namespace Go.Proofs.YtfphkpdobbffeaaDoor
open Go Go.AH
set_option maxRecDepth 100000
set_option maxHeartbeats 1000000

theorem chk_pos {g : Gm} (hg : g.game) (f k : Nat) : FDet Tryd.prog 47 [.g (gC g 0), .c (.str (posB g.ws.length f k))] [(0, wB g), (100002, .ro tab64)] 1 (.c (.int .i64 0)) [] 1 := by
  have := checkPos_spec hg (posL g.ws.length f k) (by rw [posL_len]; have := hg.ok.len; omega)
  rw [ok_pos] at this
  exact this
theorem winsP_spec {g : Gm} (hg : g.game) {f k : Nat} (hf : f < 2 ^ g.ws.length) (hk : k < 2 ^ g.ws.length) (hd : ∀ i, f.testBit i = true → k.testBit i = false) (c : Bool) : FDet Tryd.prog 40 [.g (gC g 0), .c (.str (posB g.ws.length f k)), .c (.bool c)] [(0, wB g), (100002, .ro tab64)] 1 (.t [.c (.bool (W g f k c)), .c (.int .i64 0)]) [] 1 := by
  have hc := chk_pos hg f k
  have hr := read_spec hg.ok.len hf hk hd
  have hS := short_all hg.ok f hf k c hk
  refine FSpec.of_body tok true Tryd.func40 rfl (by kernel_rfl) (by decide) (by simp [tupA, hpLt, tmLt, AV.lt, AE.lt, AC.lt, LL_cons, LL_nil, idOk, ABlk.lt, ints_LL, GB, tab64_LL, gC, wB, giC, noneB, gst, tC, pC]) (by simp [tupA, hpLt, tmLt, AV.lt, AE.lt, AC.lt, LL_cons, LL_nil, idOk, ABlk.lt, ints_LL, GB, tab64_LL, gC, wB, giC, noneB, gst, tC, pC]) (by show 3 ≤ _; decide) ?_
  refine Wk.on ?_
  refine CallA.ro [0] (.c (.int .i64 0)) (hc) (by first | rfl | exact congrArg AV.g (ints_ren _ _) | (simp [ints_ren, AV.ren, ABlk.ren, AC.ren, AE.ren, qq]; done)) rfl (by (repeat (first | exact trivial | refine ⟨⟨(by first | exact .inl (by decide) | exact .inr (by decide)), (by first | (refine Or.inl ?_; first | rfl | exact congrArg some (ints_ren _ _).symm | exact congrArg ABlk.own (ints_ren _ _).symm | exact congrArg some (tab64_ren _).symm) | rfl | exact congrArg some (ints_ren _ _).symm | exact congrArg ABlk.own (ints_ren _ _).symm | exact congrArg some (tab64_ren _).symm | exact Or.inr ⟨rfl, rfl⟩)⟩, ?_⟩))) (by first | rfl | exact congrArg AV.g (ints_ren _ _) | (simp [ints_ren, AV.ren, ABlk.ren, AC.ren, AE.ren, qq]; done)) ?_
  refine Wk.on ?_
  refine CallA.det [0] (.c (.ptr 3 0)) ([(1, .own (gC g 0)), (0, wB g), (100002, .ro tab64), (2, .mi (MI g)), (3, .own (pC g 0 2))]) (newP_mi g) (by first | rfl | exact congrArg AV.g (ints_ren _ _) | (simp [ints_ren, AV.ren, ABlk.ren, AC.ren, AE.ren, qq]; done)) rfl (by (repeat (first | exact trivial | refine ⟨⟨(by first | exact .inl (by decide) | exact .inr (by decide)), (by first | (refine Or.inl ?_; first | rfl | exact congrArg some (ints_ren _ _).symm | exact congrArg ABlk.own (ints_ren _ _).symm | exact congrArg some (tab64_ren _).symm) | rfl | exact congrArg some (ints_ren _ _).symm | exact congrArg ABlk.own (ints_ren _ _).symm | exact congrArg some (tab64_ren _).symm | exact Or.inr ⟨rfl, rfl⟩)⟩, ?_⟩))) (by first | rfl | exact congrArg AV.g (ints_ren _ _) | (simp [ints_ren, AV.ren, ABlk.ren, AC.ren, AE.ren, qq]; done)) (by first | rfl | (simp [behind, gone, lk, up, del, qq, ABlk.wr, GB, ints_ren, AV.ren, ABlk.ren, AC.ren, AE.ren]; done) | (simp [behind, gone, lk, up, del, qq, ABlk.wr, GB, ints_ren, AV.ren, ABlk.ren, AC.ren, AE.ren]; rfl)) ?_
  refine Wk.on ?_
  refine CallA.ro [] (.g [.int .i64 f, .int .i64 k]) (hr) (by first | rfl | exact congrArg AV.g (ints_ren _ _) | (simp [ints_ren, AV.ren, ABlk.ren, AC.ren, AE.ren, qq]; done)) rfl (by (repeat (first | exact trivial | refine ⟨⟨(by first | exact .inl (by decide) | exact .inr (by decide)), (by first | (refine Or.inl ?_; first | rfl | exact congrArg some (ints_ren _ _).symm | exact congrArg ABlk.own (ints_ren _ _).symm | exact congrArg some (tab64_ren _).symm) | rfl | exact congrArg some (ints_ren _ _).symm | exact congrArg ABlk.own (ints_ren _ _).symm | exact congrArg some (tab64_ren _).symm | exact Or.inr ⟨rfl, rfl⟩)⟩, ?_⟩))) (by first | rfl | exact congrArg AV.g (ints_ren _ _) | (simp [ints_ren, AV.ren, ABlk.ren, AC.ren, AE.ren, qq]; done)) ?_
  refine Wk.on ?_
  refine CallA.det [0, 3, 2] (.c (.bool (W g f k c))) ([(1, .own (gC g 0)), (0, wB g), (100002, .ro tab64), (3, .own (pC g 0 2)), (2, .mi (MI g))]) (hS) (by first | rfl | exact congrArg AV.g (ints_ren _ _) | (simp [ints_ren, AV.ren, ABlk.ren, AC.ren, AE.ren, qq]; done)) rfl (by (repeat (first | exact trivial | refine ⟨⟨(by first | exact .inl (by decide) | exact .inr (by decide)), (by first | (refine Or.inl ?_; first | rfl | exact congrArg some (ints_ren _ _).symm | exact congrArg ABlk.own (ints_ren _ _).symm | exact congrArg some (tab64_ren _).symm) | rfl | exact congrArg some (ints_ren _ _).symm | exact congrArg ABlk.own (ints_ren _ _).symm | exact congrArg some (tab64_ren _).symm | exact Or.inr ⟨rfl, rfl⟩)⟩, ?_⟩))) (by first | rfl | exact congrArg AV.g (ints_ren _ _) | (simp [ints_ren, AV.ren, ABlk.ren, AC.ren, AE.ren, qq]; done)) (by first | rfl | (simp [behind, gone, lk, up, del, qq, ABlk.wr, GB, ints_ren, AV.ren, ABlk.ren, AC.ren, AE.ren]; done) | (simp [behind, gone, lk, up, del, qq, ABlk.wr, GB, ints_ren, AV.ren, ABlk.ren, AC.ren, AE.ren]; rfl)) ?_
  refine Wk.on ?_
  exact AH.Fin.nil [] ⟨rfl, rfl, rfl⟩ (by first | exact trivial | (simp [tupA, hpLt, tmLt, AV.lt, AE.lt, AC.lt, LL_cons, LL_nil, idOk, ABlk.lt, ints_LL, GB, tab64_LL, gC, wB, giC, noneB, gst, tC, pC]; done) | (simp [tupA, hpLt, tmLt, AV.lt, AE.lt, AC.lt, LL_cons, LL_nil, idOk, ABlk.lt, ints_LL, GB, tab64_LL, gC, wB, giC, noneB, gst, tC, pC, rdn, wrn]; done)) trivial trivial rfl (by simp [GB])
end Go.Proofs.YtfphkpdobbffeaaDoor

/-
  Contracts at games without wires; the law SwitchPositions, as a contract.
-/
namespace Go.Proofs.YtfphkpdobbffeaaDoor
open Go Go.AH
set_option maxRecDepth 100000
set_option maxHeartbeats 1000000

theorem nilW {g : Gm} (h : g.ws = []) {fn : FuncId} {args : List AV} {r : AV} {k' : Nat} (h1 : FDet Tryd.prog fn (.g (gC g 0) :: args) [(0, wB g), (100002, .ro tab64)] 1 r [] k')
    (hw : wkVs [(0, .ro []), (100002, .ro tab64)] args args) (ha : ∀ v ∈ args, v.all (· ≠ 0)) (hr : r.all (· ≠ 0)) : FDet Tryd.prog fn (.g (gN g) :: args) [(100002, .ro tab64)] 1 r [] k' := by
  rw [show wB g = .ro [] by rw [wB, h]; rfl] at h1
  refine FDet.nil0 h1 _ 100002 tab64 rfl ⟨.inr ⟨rfl, rfl, rfl, by show g.ws.length = 0; rw [h]; rfl, trivial⟩, hw⟩ ?_ ?_ hr
  · intro v hv
    rcases List.mem_cons.1 hv with rfl | hv
    · exact gN_all g _ _ (by simp)
    · exact ha v hv
  · intro p hp; simp at hp; subst hp; exact ⟨by decide, tab_all _⟩
theorem nilR {g : Gm} (h : g.ws = []) {fn : FuncId} {args : List AV} {r : AV} {k' : Nat} (h1 : FDet Tryd.prog fn (.g (gC g 0) :: args) [(0, wB g)] 1 r [] k')
    (hw : wkVs [(0, wB g), (100002, .ro tab64)] args args) (hw2 : wkVs [(0, .ro []), (100002, .ro tab64)] args args) (ha : ∀ v ∈ args, v.all (· ≠ 0)) (hr : r.all (· ≠ 0)) : FDet Tryd.prog fn (.g (gN g) :: args) [(100002, .ro tab64)] 1 r [] k' :=
  nilW h (FDet.wk h1 (args' := .g (gC g 0) :: args) (hp' := [(0, wB g), (100002, .ro tab64)]) ⟨.inl rfl, hw⟩ ⟨.inl rfl, trivial⟩) hw2 ha hr
theorem all1 (x : ByteArray) (p : Nat → Prop) : ∀ v ∈ [AV.c (.str x)], v.all p := by
  intro v hv; simp at hv; subst hv; trivial
theorem position_nil {g : Gm} (hg : g.ok) (h : g.ws = []) (l : List UInt8) : FDet Tryd.prog 41 [.g (gN g), .c (.str (bs l))] [(100002, .ro tab64)] 1 (.c (.str (bs (posOf l g.ws.length)))) [] 1 :=
  nilR h (position_spec hg l) ⟨rfl, trivial⟩ ⟨rfl, trivial⟩ (all1 _ _) trivial
end Go.Proofs.YtfphkpdobbffeaaDoor

/-
  Plain law: a tree on some places, by both.
-/
namespace Go.Proofs.YtfphkpdobbffeaaDoor
open Go Go.AH
set_option maxRecDepth 100000
set_option maxHeartbeats 1000000

/-- All places of pl lie in one group. -/
def oneG (xs : List Int) (pl : Nat) : Prop := ∀ u v, pl.testBit u = true → pl.testBit v = true → root xs u = root xs v
def rootsIn (xs : List Int) (pl n : Nat) : Nat := (List.range n).countP fun u => decide (root xs u = u) && pl.testBit u
end Go.Proofs.YtfphkpdobbffeaaDoor

/-
  Plain law: a cut tree is mended by a wire of the other one.
-/
namespace Go.Proofs.YtfphkpdobbffeaaDoor
open Go Go.AH
set_option maxRecDepth 100000
set_option maxHeartbeats 1000000

theorem or_bit (a w i : Nat) : (a ||| 2 ^ w).testBit i = (a.testBit i || decide (i = w)) := by
  rw [Nat.testBit_or, Nat.testBit_two_pow]
  congr 1
  exact decide_eq_decide.2 ⟨Eq.symm, Eq.symm⟩
end Go.Proofs.YtfphkpdobbffeaaDoor

/-
  Wires that join places: what is joined, how many groups there are, forests. (Plain.)
-/
namespace Go.Wire

/-- The least place that is joined to a place. -/
def lb {α : Type} (e : α → Nat × Nat) : List α → Nat → Nat
  | [], u => u
  | i :: l, u => if lb e l u = max (lb e l (e i).1) (lb e l (e i).2) then min (lb e l (e i).1) (lb e l (e i).2) else lb e l u
def Jn {α : Type} (e : α → Nat × Nat) (l : List α) (u v : Nat) : Prop := lb e l u = lb e l v
variable {α : Type} {e : α → Nat × Nat}
theorem lb_le : ∀ (l : List α) (u : Nat), lb e l u ≤ u
  | [], u => Nat.le_refl u
  | i :: l, u => by
    have h := lb_le l u
    rw [lb]
    split
    · omega
    · exact h
theorem lb_hit {i : α} {l : List α} {u : Nat} (h : lb e l u = max (lb e l (e i).1) (lb e l (e i).2)) : lb e (i :: l) u = min (lb e l (e i).1) (lb e l (e i).2) := by rw [lb, if_pos h]
theorem lb_mis {i : α} {l : List α} {u : Nat} (h : lb e l u ≠ max (lb e l (e i).1) (lb e l (e i).2)) : lb e (i :: l) u = lb e l u := by rw [lb, if_neg h]
theorem lb_lb : ∀ (l : List α) (u : Nat), lb e l (lb e l u) = lb e l u
  | [], u => rfl
  | i :: l, u => by
    have h := lb_lb l u
    have hm : lb e l (min (lb e l (e i).1) (lb e l (e i).2)) = min (lb e l (e i).1) (lb e l (e i).2) := by
      rcases Nat.le_total (lb e l (e i).1) (lb e l (e i).2) with k | k
      · rw [Nat.min_eq_left k]; exact lb_lb l _
      · rw [Nat.min_eq_right k]; exact lb_lb l _
    by_cases c : lb e l u = max (lb e l (e i).1) (lb e l (e i).2)
    · rw [lb_hit c]
      by_cases d : lb e l (min (lb e l (e i).1) (lb e l (e i).2)) = max (lb e l (e i).1) (lb e l (e i).2)
      · exact lb_hit d
      · rw [lb_mis d, hm]
    · rw [lb_mis c, lb_mis (by rw [h]; exact c), h]
theorem jn_cons {i : α} {l : List α} {u v : Nat} : Jn e (i :: l) u v ↔ Jn e l u v ∨ (Jn e l u (e i).1 ∧ Jn e l (e i).2 v) ∨ (Jn e l u (e i).2 ∧ Jn e l (e i).1 v) := by
  unfold Jn
  simp only [lb]
  generalize lb e l u = x
  generalize lb e l v = y
  generalize lb e l (e i).1 = A
  generalize lb e l (e i).2 = B
  split <;> split <;> omega
theorem Jn.refl (l : List α) (u : Nat) : Jn e l u u := rfl
theorem Jn.symm {l : List α} {u v : Nat} (h : Jn e l u v) : Jn e l v u := Eq.symm h
theorem Jn.trans {l : List α} {u v w : Nat} (h : Jn e l u v) (k : Jn e l v w) : Jn e l u w := Eq.trans h k
theorem jn_mem : ∀ {l : List α} {i : α}, i ∈ l → Jn e l (e i).1 (e i).2
  | j :: l, i, h => by
    rw [jn_cons]
    rcases List.mem_cons.1 h with rfl | h
    · exact .inr (.inl ⟨rfl, rfl⟩)
    · exact .inl (jn_mem h)
structure Eqv (R : Nat → Nat → Prop) : Prop where
  refl : ∀ u, R u u
  symm : ∀ {u v}, R u v → R v u
  trans : ∀ {u v w}, R u v → R v w → R u w
theorem Jn.eqv (l : List α) : Eqv (Jn e l) := ⟨fun _ => rfl, Eq.symm, Eq.trans⟩
theorem jn_least {R : Nat → Nat → Prop} (hR : Eqv R) : ∀ {l : List α} {u v : Nat}, (∀ i ∈ l, R (e i).1 (e i).2) → Jn e l u v → R u v
  | [], u, v, _, h => by have : u = v := h; subst this; exact hR.refl u
  | i :: l, u, v, hl, h => by
    have ih : ∀ {x y}, Jn e l x y → R x y := fun h => jn_least hR (fun j hj => hl j (List.mem_cons_of_mem _ hj)) h
    have hi := hl i (List.mem_cons_self ..)
    rcases jn_cons.1 h with h | ⟨h1, h2⟩ | ⟨h1, h2⟩
    · exact ih h
    · exact hR.trans (ih h1) (hR.trans hi (ih h2))
    · exact hR.trans (ih h1) (hR.trans (hR.symm hi) (ih h2))
theorem jn_mono {l l' : List α} {u v : Nat} (hs : ∀ i ∈ l, i ∈ l') (h : Jn e l u v) : Jn e l' u v := jn_least (Jn.eqv l') (fun _ hi => jn_mem (hs _ hi)) h
theorem jn_perm {l l' : List α} {u v : Nat} (hp : l.Perm l') : Jn e l u v ↔ Jn e l' u v := ⟨jn_mono fun _ h => hp.mem_iff.1 h, jn_mono fun _ h => hp.mem_iff.2 h⟩
theorem lb_congr {l l' : List α} (h : ∀ u v, Jn e l u v ↔ Jn e l' u v) (u : Nat) : lb e l u = lb e l' u := by
  have h1 : Jn e l' u (lb e l u) := (h _ _).1 (lb_lb l u).symm
  have h2 : Jn e l u (lb e l' u) := (h _ _).2 (lb_lb l' u).symm
  have h3 : lb e l' u ≤ lb e l u := by rw [show lb e l' u = lb e l' (lb e l u) from h1]; exact lb_le _ _
  have h4 : lb e l u ≤ lb e l' u := by rw [show lb e l u = lb e l (lb e l' u) from h2]; exact lb_le _ _
  omega
/-- How many groups there are. -/
def cp {α : Type} (e : α → Nat × Nat) (n : Nat) (l : List α) : Nat := (List.range n).countP fun u => decide (lb e l u = u)
theorem cp_congr {n : Nat} {l l' : List α} (h : ∀ u v, Jn e l u v ↔ Jn e l' u v) : cp e n l = cp e n l' := by
  unfold cp
  refine List.countP_congr fun u _ => ?_
  rw [lb_congr h]
theorem cp_nil (n : Nat) : cp e n [] = n := by
  have : (List.range n).countP (fun u => decide (lb e [] u = u)) = (List.range n).length := List.countP_eq_length.2 fun u _ => decide_eq_true rfl
  rw [cp, this, List.length_range]
theorem cnt_rm (p : Nat → Bool) (M : Nat) (hp : p M = true) : ∀ n, (List.range n).countP (fun u => p u && decide (u ≠ M)) + (if M < n then 1 else 0) = (List.range n).countP p
  | 0 => rfl
  | n + 1 => by
    have ih := cnt_rm p M hp n
    simp only [List.range_succ, List.countP_append, List.countP_cons, List.countP_nil]
    by_cases e : n = M
    · subst e
      simp [hp] at ih ⊢
      omega
    · simp only [show (decide (n ≠ M)) = true by simp [e], Bool.and_true]
      rw [show (if M < n + 1 then 1 else 0) = (if M < n then 1 else 0) from by simp only [show (M < n + 1) ↔ M < n by omega]]
      omega
theorem cp_same {n : Nat} {i : α} {l : List α} (h : Jn e l (e i).1 (e i).2) : cp e n (i :: l) = cp e n l := by
  refine cp_congr fun u v => ⟨fun k => ?_, jn_mono fun j hj => List.mem_cons_of_mem _ hj⟩
  rcases jn_cons.1 k with k | ⟨k1, k2⟩ | ⟨k1, k2⟩
  · exact k
  · exact k1.trans (h.trans k2)
  · exact k1.trans (h.symm.trans k2)
theorem cp_less {n : Nat} {i : α} {l : List α} (h : ¬ Jn e l (e i).1 (e i).2) (ha : (e i).1 < n) (hb : (e i).2 < n) : cp e n (i :: l) + 1 = cp e n l := by
  have hA := lb_lb (e := e) l (e i).1
  have hB := lb_lb (e := e) l (e i).2
  have lA := lb_le (e := e) l (e i).1
  have lB := lb_le (e := e) l (e i).2
  have hne : lb e l (e i).1 ≠ lb e l (e i).2 := h
  have hM : lb e l (max (lb e l (e i).1) (lb e l (e i).2)) = max (lb e l (e i).1) (lb e l (e i).2) := by
    rcases Nat.le_total (lb e l (e i).1) (lb e l (e i).2) with k | k
    · rw [Nat.max_eq_right k]; exact hB
    · rw [Nat.max_eq_left k]; exact hA
  have hm : lb e l (min (lb e l (e i).1) (lb e l (e i).2)) = min (lb e l (e i).1) (lb e l (e i).2) := by
    rcases Nat.le_total (lb e l (e i).1) (lb e l (e i).2) with k | k
    · rw [Nat.min_eq_left k]; exact hA
    · rw [Nat.min_eq_right k]; exact hB
  have := cnt_rm (fun u => decide (lb e l u = u)) (max (lb e l (e i).1) (lb e l (e i).2)) (decide_eq_true hM) n
  rw [if_pos (by omega)] at this
  rw [cp, cp, ← this]
  congr 1
  refine List.countP_congr fun u _ => ?_
  rw [Bool.and_eq_true, decide_eq_true_eq, decide_eq_true_eq, decide_eq_true_eq]
  by_cases c : lb e l u = max (lb e l (e i).1) (lb e l (e i).2)
  · rw [lb_hit c]
    constructor
    · intro k; rw [← k, hm] at c; omega
    · rintro ⟨k1, k2⟩; omega
  · rw [lb_mis c]
    constructor
    · intro k; exact ⟨k, by omega⟩
    · exact fun k => k.1
theorem cp_pos {n : Nat} (hn : 0 < n) (l : List α) : 0 < cp e n l := by
  rw [cp, List.countP_pos_iff]
  exact ⟨0, List.mem_range.2 hn, decide_eq_true (by have := lb_le (e := e) l 0; omega)⟩
/-- The wires' ends are places. -/
def In {α : Type} (e : α → Nat × Nat) (n : Nat) (l : List α) : Prop := ∀ i ∈ l, (e i).1 < n ∧ (e i).2 < n
theorem In.tail {n : Nat} {i : α} {l : List α} (h : In e n (i :: l)) : In e n l := fun j hj => h j (List.mem_cons_of_mem _ hj)
theorem In.sub {n : Nat} {l l' : List α} (h : In e n l) (hs : ∀ i ∈ l', i ∈ l) : In e n l' := fun j hj => h j (hs j hj)
theorem cp_ge {n : Nat} : ∀ {l : List α}, In e n l → n ≤ cp e n l + l.length
  | [], _ => by rw [cp_nil]; exact Nat.le_refl _
  | i :: l, h => by
    have ih := cp_ge h.tail
    have hi := h i (List.mem_cons_self ..)
    rw [List.length_cons]
    by_cases c : Jn e l (e i).1 (e i).2
    · rw [cp_same c]; omega
    · have := cp_less c hi.1 hi.2; omega
/-- Wires without a ring. -/
def Fo {α : Type} (e : α → Nat × Nat) (n : Nat) (l : List α) : Prop := In e n l ∧ cp e n l + l.length = n
theorem Fo.nil (n : Nat) : Fo e n [] := ⟨fun i hi => absurd hi List.not_mem_nil, by rw [cp_nil]; rfl⟩
theorem fo_cons {n : Nat} {i : α} {l : List α} (hi : (e i).1 < n ∧ (e i).2 < n) : Fo e n (i :: l) ↔ Fo e n l ∧ ¬ Jn e l (e i).1 (e i).2 := by
  constructor
  · rintro ⟨h1, h2⟩
    have := cp_ge h1.tail
    rw [List.length_cons] at h2
    by_cases c : Jn e l (e i).1 (e i).2
    · rw [cp_same c] at h2; omega
    · have h3 := cp_less c hi.1 hi.2
      exact ⟨⟨h1.tail, by omega⟩, c⟩
  · rintro ⟨⟨h1, h2⟩, c⟩
    have h3 := cp_less c hi.1 hi.2
    refine ⟨fun j hj => ?_, by rw [List.length_cons]; omega⟩
    rcases List.mem_cons.1 hj with rfl | hj
    · exact hi
    · exact h1 j hj
theorem Fo.perm {n : Nat} {l l' : List α} (hp : l.Perm l') (h : Fo e n l) : Fo e n l' := by
  refine ⟨h.1.sub fun i hi => hp.mem_iff.2 hi, ?_⟩
  rw [cp_congr (fun u v => (jn_perm hp.symm)), ← hp.length_eq]; exact h.2
theorem Fo.tail {n : Nat} {i : α} {l : List α} (h : Fo e n (i :: l)) : Fo e n l := ((fo_cons (h.1 i (List.mem_cons_self ..))).1 h).1
theorem Fo.head {n : Nat} {i : α} {l : List α} (h : Fo e n (i :: l)) : ¬ Jn e l (e i).1 (e i).2 := ((fo_cons (h.1 i (List.mem_cons_self ..))).1 h).2
theorem Fo.sub {n : Nat} {l l' : List α} (hs : l'.Sublist l) : Fo e n l → Fo e n l' := by
  induction hs with
  | slnil => exact id
  | cons a _ ih => exact fun h => ih h.tail
  | cons_cons a hs ih =>
    intro h
    exact (fo_cons (h.1 _ (List.mem_cons_self ..))).2 ⟨ih h.tail, fun k => h.head (jn_mono (fun j hj => hs.subset hj) k)⟩
theorem Fo.nodup {n : Nat} : ∀ {l : List α}, Fo e n l → l.Nodup
  | [], _ => List.nodup_nil
  | i :: l, h => List.nodup_cons.2 ⟨fun hi => h.head (jn_mem hi), Fo.nodup h.tail⟩
theorem Fo.len {n : Nat} {l : List α} (hn : 0 < n) (h : Fo e n l) : l.length + 1 ≤ n := by
  have := cp_pos (e := e) hn l
  have := h.2
  omega
/-- Wires of which none can be spared. -/
theorem least_join [DecidableEq α] {x y : Nat} : ∀ (k : Nat) (l : List α), l.length ≤ k → Jn e l x y → ∃ M, M.Sublist l ∧ Jn e M x y ∧ ∀ f ∈ M, ¬ Jn e (M.erase f) x y
  | 0, l, hk, h => ⟨l, List.Sublist.refl l, h, fun f hf => by
      have : l = [] := List.length_eq_zero_iff.1 (by omega)
      rw [this] at hf
      exact absurd hf List.not_mem_nil⟩
  | k + 1, l, hk, h => by
    by_cases c : ∃ f ∈ l, Jn e (l.erase f) x y
    · obtain ⟨f, hf, hj⟩ := c
      obtain ⟨M, h1, h2, h3⟩ := least_join k (l.erase f) (by rw [List.length_erase_of_mem hf]; omega) hj
      exact ⟨M, h1.trans List.erase_sublist, h2, h3⟩
    · exact ⟨l, List.Sublist.refl l, h, fun f hf hj => c ⟨f, hf, hj⟩⟩
theorem Fo.spare [DecidableEq α] {n : Nat} {l M : List α} {x y : Nat} {f : α} (h : Fo e n l) (hM : M.Sublist l) (hf : f ∈ M) (h1 : Jn e M x y) (h2 : ¬ Jn e (M.erase f) x y) : ¬ Jn e (l.erase f) x y := by
  intro k
  have hfl := hM.subset hf
  have h0 : Fo e n (f :: l.erase f) := Fo.perm (List.perm_cons_erase hfl) h
  have hs : ∀ j ∈ M.erase f, j ∈ l.erase f := fun j hj => (hM.erase f).subset hj
  have h3 := (jn_perm (List.perm_cons_erase hf)).1 h1
  rcases jn_cons.1 h3 with h3 | ⟨h3, h4⟩ | ⟨h3, h4⟩
  · exact h2 h3
  · exact h0.head ((jn_mono hs h3).symm.trans (k.trans (jn_mono hs h4).symm))
  · exact h0.head ((jn_mono hs h4).trans (k.symm.trans (jn_mono hs h3)))
/-- One wire in another one's place. -/
theorem Fo.turn [DecidableEq α] {n : Nat} {i f : α} {l : List α} (h : Fo e n l) (hi : (e i).1 < n ∧ (e i).2 < n) (hf : f ∈ l) (hn : ¬ Jn e (l.erase f) (e i).1 (e i).2) : Fo e n (i :: l.erase f) :=
  (fo_cons hi).2 ⟨h.sub List.erase_sublist, hn⟩
end Go.Wire

/-
  Two trees on all places, or a way to divide the places that too few wires cross. (Plain.)
-/
namespace Go.Wire
variable {e : Nat → Nat × Nat} {n m : Nat}

/-- Two forests without a common wire. -/
structure Pk (e : Nat → Nat × Nat) (n m : Nat) (P : Bool → List Nat) : Prop where
  fo : ∀ b, Fo e n (P b)
  lt : ∀ b, ∀ i ∈ P b, i < m
  dj : ∀ b, ∀ i ∈ P b, i ∉ P (!b)
def szP (P : Bool → List Nat) : Nat := (P true).length + (P false).length
def upd (P : Bool → List Nat) (b : Bool) (l : List Nat) : Bool → List Nat := fun c => if c = b then l else P c
theorem upd_eq (P : Bool → List Nat) (b : Bool) (l : List Nat) : upd P b l b = l := if_pos rfl
theorem upd_ne (P : Bool → List Nat) (b : Bool) (l : List Nat) : upd P b l (!b) = P (!b) := by cases b <;> rfl
theorem szP_b (P : Bool → List Nat) (b : Bool) : szP P = (P b).length + (P (!b)).length := by
  cases b
  · exact Nat.add_comm _ _
  · rfl
structure Opt (e : Nat → Nat × Nat) (n m : Nat) (P : Bool → List Nat) : Prop extends Pk e n m P where
  most : ∀ Q, Pk e n m Q → szP Q ≤ szP P
theorem Pk.put {P : Bool → List Nat} {b : Bool} {l : List Nat} (h : Pk e n m P) (hl : Fo e n l) (hm : ∀ i ∈ l, i < m) (hd : ∀ i ∈ l, i ∉ P (!b)) : Pk e n m (upd P b l) := by
  refine ⟨fun c => ?_, fun c i hi => ?_, fun c i hi => ?_⟩
  · by_cases k : c = b
    · subst k; rw [upd_eq]; exact hl
    · have k : c = !b := by revert k; cases c <;> cases b <;> simp
      subst k; rw [upd_ne]; exact h.fo _
  · by_cases k : c = b
    · subst k; rw [upd_eq] at hi; exact hm i hi
    · have k : c = !b := by revert k; cases c <;> cases b <;> simp
      subst k; rw [upd_ne] at hi; exact h.lt _ i hi
  · by_cases k : c = b
    · subst k; rw [upd_eq] at hi; rw [upd_ne]; exact hd i hi
    · have k : c = !b := by revert k; cases c <;> cases b <;> simp
      subst k; rw [upd_ne] at hi; rw [Bool.not_not, upd_eq]; exact fun hi2 => hd i hi2 hi
/-- One wire that is not used in another one's place. -/
def turnP (P : Bool → List Nat) (b : Bool) (i f : Nat) : Bool → List Nat := upd P b (i :: (P b).erase f)
inductive Rc (e : Nat → Nat × Nat) (n m : Nat) (P : Bool → List Nat) : (Bool → List Nat) → Prop
  | base : Rc e n m P P
  | turn {Q : Bool → List Nat} {b : Bool} {i f : Nat} : Rc e n m P Q → i < m → (∀ c, i ∉ Q c) → f ∈ Q b → Fo e n (i :: (Q b).erase f) → Rc e n m P (turnP Q b i f)
/-- The wires' ends are places. -/
def Ends (e : Nat → Nat × Nat) (n m : Nat) : Prop := ∀ i, i < m → (e i).1 < n ∧ (e i).2 < n
theorem Opt.turn {Q : Bool → List Nat} {b : Bool} {i f : Nat} (h : Opt e n m Q) (hi : i < m) (hn : ∀ c, i ∉ Q c) (hf : f ∈ Q b) (hfo : Fo e n (i :: (Q b).erase f)) : Opt e n m (turnP Q b i f) ∧ ∀ c, f ∉ turnP Q b i f c := by
  have hfi : f ≠ i := fun k => hn b (k ▸ hf)
  have hnd := (h.fo b).nodup
  refine ⟨⟨h.put hfo (fun j hj => ?_) (fun j hj => ?_), fun Z hZ => ?_⟩, fun c => ?_⟩
  · rcases List.mem_cons.1 hj with rfl | hj
    · exact hi
    · exact h.lt b j (List.mem_of_mem_erase hj)
  · rcases List.mem_cons.1 hj with rfl | hj
    · exact hn _
    · exact h.dj b j (List.mem_of_mem_erase hj)
  · refine Nat.le_trans (h.most Z hZ) ?_
    rw [szP_b Q b, szP_b (turnP Q b i f) b]
    unfold turnP
    rw [upd_eq, upd_ne, List.length_cons, List.length_erase_of_mem hf]
    have := List.length_pos_of_mem hf
    omega
  · unfold turnP
    by_cases k : c = b
    · subst k
      rw [upd_eq]
      intro hc
      rcases List.mem_cons.1 hc with hc | hc
      · exact hfi hc
      · exact (List.Nodup.not_mem_erase hnd) hc
    · have k : c = !b := by revert k; cases c <;> cases b <;> simp
      subst k; rw [upd_ne]; exact h.dj b f hf
theorem Rc.opt {P Q : Bool → List Nat} (hP : Opt e n m P) (h : Rc e n m P Q) : Opt e n m Q := by
  induction h with
  | base => exact hP
  | turn _ hi hn hf hfo ih => exact (ih.turn hi hn hf hfo).1
/-- A wire that some pair does not use. -/
def Lo (e : Nat → Nat × Nat) (n m : Nat) (P : Bool → List Nat) (i : Nat) : Prop := ∃ Q, Rc e n m P Q ∧ i < m ∧ ∀ c, i ∉ Q c
theorem Opt.joined {Q : Bool → List Nat} (he : Ends e n m) (h : Opt e n m Q) {i : Nat} (hi : i < m) (hn : ∀ c, i ∉ Q c) (b : Bool) : Jn e (Q b) (e i).1 (e i).2 := by
  apply Classical.byContradiction
  intro k
  have hfo := (fo_cons (he i hi)).2 ⟨h.fo b, k⟩
  have h2 := h.most _ (h.toPk.put (b := b) hfo (fun j hj => by
    rcases List.mem_cons.1 hj with rfl | hj
    · exact hi
    · exact h.lt b j hj) (fun j hj => by
    rcases List.mem_cons.1 hj with rfl | hj
    · exact hn _
    · exact h.dj b j hj))
  rw [szP_b Q b, szP_b (upd Q b (i :: Q b)) b, upd_eq, upd_ne, List.length_cons] at h2
  omega
/-- A way of wires that some pair does not use. -/
theorem loose_way {P Q : Bool → List Nat} (he : Ends e n m) (hP : Opt e n m P) (hQ : Rc e n m P Q) {i : Nat} (hi : i < m) (hn : ∀ c, i ∉ Q c) (b : Bool) : ∃ M : List Nat, (∀ f ∈ M, f ∈ Q b ∧ Lo e n m P f) ∧ Jn e M (e i).1 (e i).2 := by
  have hO := hQ.opt hP
  obtain ⟨M, h1, h2, h3⟩ := least_join _ (Q b) (Nat.le_refl _) (hO.joined he hi hn b)
  refine ⟨M, fun f hf => ⟨h1.subset hf, ?_⟩, h2⟩
  have hfo := (hO.fo b).turn (he i hi) (h1.subset hf) ((hO.fo b).spare h1 hf h2 (h3 f hf))
  exact ⟨_, .turn hQ hi hn (h1.subset hf) hfo, hO.lt b f (h1.subset hf), (hO.turn hi hn (h1.subset hf) hfo).2⟩
/-- Joined by such wires of a forest. -/
def Jl (e : Nat → Nat × Nat) (n m : Nat) (P Q : Bool → List Nat) (b : Bool) (u v : Nat) : Prop := ∃ M : List Nat, (∀ f ∈ M, f ∈ Q b ∧ Lo e n m P f) ∧ Jn e M u v
theorem Jl.eqv (e : Nat → Nat × Nat) (n m : Nat) (P Q : Bool → List Nat) (b : Bool) : Eqv (Jl e n m P Q b) where
  refl u := ⟨[], fun f hf => absurd hf List.not_mem_nil, rfl⟩
  symm := fun ⟨M, h1, h2⟩ => ⟨M, h1, h2.symm⟩
  trans := fun ⟨M, h1, h2⟩ ⟨N, k1, k2⟩ => ⟨M ++ N, fun f hf => (List.mem_append.1 hf).elim (h1 f) (k1 f), (jn_mono (fun _ hj => List.mem_append_left _ hj) h2).trans (jn_mono (fun _ hj => List.mem_append_right _ hj) k2)⟩
theorem Jl.one {P Q : Bool → List Nat} {b : Bool} {f : Nat} (h1 : f ∈ Q b) (h2 : Lo e n m P f) : Jl e n m P Q b (e f).1 (e f).2 := ⟨[f], fun g hg => by rw [List.mem_singleton.1 hg]; exact ⟨h1, h2⟩, jn_mem (List.mem_singleton.2 rfl)⟩
theorem Jl.turn {P Q : Bool → List Nat} {b : Bool} {i f : Nat} (he : Ends e n m) (hP : Opt e n m P) (hQ : Rc e n m P Q) (hi : i < m) (hn : ∀ c, i ∉ Q c) (hf : f ∈ Q b) (hfo : Fo e n (i :: (Q b).erase f)) (c : Bool) (u v : Nat) : Jl e n m P (turnP Q b i f) c u v ↔ Jl e n m P Q c u v := by
  have hO := hQ.opt hP
  have hR : Rc e n m P (turnP Q b i f) := .turn hQ hi hn hf hfo
  have hfn := (hO.turn hi hn hf hfo).2
  have hfm := hO.lt b f hf
  have hLi : Lo e n m P i := ⟨Q, hQ, hi, hn⟩
  by_cases k : c = b
  · subst k
    constructor
    · rintro ⟨M, h1, h2⟩
      refine jn_least (Jl.eqv e n m P Q c) (fun j hj => ?_) h2
      obtain ⟨h3, h4⟩ := h1 j hj
      unfold turnP at h3
      rw [upd_eq] at h3
      rcases List.mem_cons.1 h3 with rfl | h3
      · exact loose_way he hP hQ hi hn c
      · exact Jl.one (List.mem_of_mem_erase h3) h4
    · rintro ⟨M, h1, h2⟩
      refine jn_least (Jl.eqv e n m P (turnP Q c i f) c) (fun j hj => ?_) h2
      obtain ⟨h3, h4⟩ := h1 j hj
      by_cases hjf : j = f
      · subst hjf
        exact loose_way he hP hR hfm hfn c
      · refine Jl.one ?_ h4
        unfold turnP
        rw [upd_eq]
        exact List.mem_cons_of_mem _ ((List.mem_erase_of_ne hjf).2 h3)
  · have k : c = !b := by revert k; cases c <;> cases b <;> simp
    subst k
    unfold Jl turnP
    rw [upd_ne]
theorem Jl.same {P Q : Bool → List Nat} (he : Ends e n m) (hP : Opt e n m P) (hQ : Rc e n m P Q) : ∀ (c : Bool) (u v : Nat), Jl e n m P Q c u v ↔ Jl e n m P P c u v := by
  induction hQ with
  | base => exact fun c u v => Iff.rfl
  | turn hQ hi hn hf hfo ih => exact fun c u v => (Jl.turn he hP hQ hi hn hf hfo c u v).trans (ih c u v)
theorem Jl.lo {P : Bool → List Nat} (he : Ends e n m) (hP : Opt e n m P) {i : Nat} (h : Lo e n m P i) (c : Bool) : Jl e n m P P c (e i).1 (e i).2 := by
  obtain ⟨Q, hQ, hi, hn⟩ := h
  exact (Jl.same he hP hQ c _ _).1 (loose_way he hP hQ hi hn c)
/-- A tree on all places. -/
def Tree (e : Nat → Nat × Nat) (n : Nat) (l : List Nat) : Prop := Fo e n l ∧ cp e n l = 1
/-- How many wires join places with different numbers. -/
def crs (e : Nat → Nat × Nat) (m : Nat) (q : Nat → Nat) : Nat := (List.range m).countP fun i => decide (q (e i).1 ≠ q (e i).2)
end Go.Wire
