/-
  Plain law: who wins, without shortcuts.
-/
import Derived.Test.YtfphkpdobbffeaaDoorSw4
import Derived.Test.YtfphkpdobbffeaaDoorAh6
import Derived.Laws.RangeString
set_option linter.unusedSimpArgs false
set_option linter.unusedVariables false
namespace Go.Proofs.YtfphkpdobbffeaaDoor
open Go Go.AH
set_option maxRecDepth 100000
set_option maxHeartbeats 1000000

theorem fold_root {g : Gm} (hg : g.ok) (ρ : Nat → Nat) : ∀ (l : List Int) (xs : List Int), Grp xs → (∀ y ∈ l, y.toNat < g.ws.length) → (∀ y ∈ l, ρ (g.ws.getD y.toNat (0, 0)).1 = ρ (g.ws.getD y.toNat (0, 0)).2) →
    (∀ u v, u < 8 → v < 8 → root xs u = root xs v → ρ u = ρ v) → ∀ u v, u < 8 → v < 8 → root (l.foldl (joinF g) xs) u = root (l.foldl (joinF g) xs) v → ρ u = ρ v
  | [], xs, _, _, _, h => h
  | i :: l, xs, hG, hl, hρ, h => by
    have he := hg.ends _ (hl i (by simp))
    have h8 := hg.n8
    have ha : (g.ws.getD i.toNat (0, 0)).1 < 8 := by omega
    have hb : (g.ws.getD i.toNat (0, 0)).2 < 8 := by omega
    refine fold_root hg ρ l (joinF g xs i) (hG.join ha hb) (fun y hy => hl y (by simp [hy])) (fun y hy => hρ y (by simp [hy])) fun u v hu hv huv => ?_
    have hr := root_joinL hG ha hb
    rw [show joinL xs (g.ws.getD i.toNat (0, 0)).1 (g.ws.getD i.toNat (0, 0)).2 = joinF g xs i from rfl] at hr
    rw [hr u hu, hr v hv] at huv
    have hab := hρ i (by simp)
    have hA := fun u hu => h u _ hu ha
    have hB := fun u hu => h u _ hu hb
    have hra := root_le hG ha
    have hrb := root_le hG hb
    generalize root xs (g.ws.getD i.toNat (0, 0)).1 = ra at *
    generalize root xs (g.ws.getD i.toNat (0, 0)).2 = rb at *
    generalize (g.ws.getD i.toNat (0, 0)).1 = a at *
    generalize (g.ws.getD i.toNat (0, 0)).2 = b at *
    have key : ∀ u, u < 8 → (root xs u = ra ∨ root xs u = rb) → ρ u = ρ a := fun u hu h => by
      rcases h with h | h
      · exact hA u hu h
      · rw [hB u hu h, hab]
    by_cases e1 : root xs u = max ra rb
    · rw [if_pos e1] at huv
      by_cases e2 : root xs v = max ra rb
      · exact h u v hu hv (by omega)
      · rw [if_neg e2] at huv
        rw [key u hu (by omega), key v hv (by omega)]
    · rw [if_neg e1] at huv
      by_cases e2 : root xs v = max ra rb
      · rw [if_pos e2] at huv
        rw [key u hu (by omega), key v hv (by omega)]
      · rw [if_neg e2] at huv
        exact h u v hu hv huv
theorem fold_keep {g : Gm} (hg : g.ok) : ∀ (l : List Int) (xs : List Int), Grp xs → (∀ y ∈ l, y.toNat < g.ws.length) → ∀ u v, u < 8 → v < 8 → root xs u = root xs v → root (l.foldl (joinF g) xs) u = root (l.foldl (joinF g) xs) v
  | [], xs, _, _, u, v, _, _, h => h
  | i :: l, xs, hG, hl, u, v, hu, hv, h => by
    have he := hg.ends _ (hl i (by simp))
    have h8 := hg.n8
    refine fold_keep hg l (joinF g xs i) (hG.join (by omega) (by omega)) (fun y hy => hl y (by simp [hy])) u v hu hv ?_
    have hr := root_joinL hG (show (g.ws.getD i.toNat (0, 0)).1 < 8 by omega) (show (g.ws.getD i.toNat (0, 0)).2 < 8 by omega)
    rw [show joinL xs (g.ws.getD i.toNat (0, 0)).1 (g.ws.getD i.toNat (0, 0)).2 = joinF g xs i from rfl] at hr
    rw [hr u hu, hr v hv, h]
theorem fold_ends {g : Gm} (hg : g.ok) : ∀ (l : List Int) (xs : List Int), Grp xs → (∀ y ∈ l, y.toNat < g.ws.length) → ∀ i ∈ l, root (l.foldl (joinF g) xs) (g.ws.getD i.toNat (0, 0)).1 = root (l.foldl (joinF g) xs) (g.ws.getD i.toNat (0, 0)).2
  | [], _, _, _, i, hi => by simp at hi
  | j :: l, xs, hG, hl, i, hi => by
    have he := hg.ends _ (hl j (by simp))
    have h8 := hg.n8
    have ha : (g.ws.getD j.toNat (0, 0)).1 < 8 := by omega
    have hb : (g.ws.getD j.toNat (0, 0)).2 < 8 := by omega
    rcases List.mem_cons.1 hi with e | hi
    · subst e
      refine fold_keep hg l (joinF g xs i) (hG.join ha hb) (fun y hy => hl y (by simp [hy])) _ _ ha hb ?_
      have hr := root_joinL hG ha hb
      rw [show joinL xs (g.ws.getD i.toNat (0, 0)).1 (g.ws.getD i.toNat (0, 0)).2 = joinF g xs i from rfl] at hr
      rw [hr _ ha, hr _ hb]
      split <;> split <;> omega
    · exact fold_ends hg l (joinF g xs j) (hG.join ha hb) (fun y hy => hl y (by simp [hy])) i hi
theorem mem_iff {n : Nat} (hn : n < 1024) {y : Int} : y ∈ mem n ↔ ∃ i : Nat, y = (i : Int) ∧ n.testBit i = true := by
  constructor
  · intro h
    obtain ⟨i, hi, rfl⟩ := List.mem_map.1 h
    exact ⟨i, rfl, (List.mem_filter.1 hi).2⟩
  · rintro ⟨i, rfl, hi⟩
    exact List.mem_map.2 ⟨i, List.mem_filter.2 ⟨List.mem_range.2 (lt_len (k := 10) (by omega) hi), hi⟩, rfl⟩
/-- Who wins, by playing to the end. -/
def WR (g : Gm) : Nat → Nat → Nat → Bool → Bool
  | 0, _, k, _ => joinedB g k
  | n + 1, f, k, c => if f = 0 then joinedB g k else ((mem f).any fun w => WR g n (offN f w.toNat) (if c then k else k ||| 2 ^ w.toNat) (!c) != c) != c
theorem offN_bit {f w i : Nat} (hf : f < 1024) (hw : w < 10) : (offN f w).testBit i = (f.testBit i && decide (i ≠ w)) := by
  have : ∀ f, f < 1024 → ∀ w, w < 10 → ∀ i, i < 10 → (offN f w).testBit i = (f.testBit i && decide (i ≠ w)) := by decide +kernel
  have hlt : ∀ f, f < 1024 → ∀ w, w < 10 → offN f w < 1024 := by decide +kernel
  by_cases hi : i < 10
  · exact this f hf w hw i hi
  · have a : f.testBit i = false := by
      cases h : f.testBit i with
      | false => rfl
      | true => have := lt_len (k := 10) (by omega) h; omega
    have b : (offN f w).testBit i = false := by
      cases h : (offN f w).testBit i with
      | false => rfl
      | true => have := lt_len (k := 10) (hlt f hf w hw) h; omega
    rw [a, b]; rfl
end Go.Proofs.YtfphkpdobbffeaaDoor

/-
  Contracts: positions as strings, for the reference.
-/
namespace Go.Proofs.YtfphkpdobbffeaaDoor
open Go Go.AH
set_option maxRecDepth 100000
set_option maxHeartbeats 1000000

def posL (n f k : Nat) : List UInt8 := (List.range n).map fun i => if f.testBit i then 46 else if k.testBit i then 43 else 45
def posB (n f k : Nat) : ByteArray := ⟨(posL n f k).toArray⟩
def dots (i : Nat) : ByteArray := ⟨(List.replicate i (46 : UInt8)).toArray⟩
/-- The number of a position. -/
def codeN : Nat → Nat → Nat → Nat
  | 0, _, _ => 0
  | n + 1, f, k => 3 * codeN n f k + if f.testBit n then 0 else if k.testBit n then 1 else 2
theorem codeN_lt (f k : Nat) : ∀ n, codeN n f k < 3 ^ n
  | 0 => by simp [codeN]
  | n + 1 => by
    have := codeN_lt f k n
    rw [codeN, Nat.pow_succ]
    split
    · omega
    · split <;> omega
end Go.Proofs.YtfphkpdobbffeaaDoor

/-
  Contracts: the free wires of a position, the reference's Joined, Known, Put.
-/
namespace Go.Proofs.YtfphkpdobbffeaaDoor
open Go Go.AH
set_option maxRecDepth 100000
set_option maxHeartbeats 1000000

/-- The kept wires among the first. -/
def setTo (n f k : Nat) : Nat → Nat
  | 0 => 0
  | i + 1 => if f.testBit i = true then setTo n f k i else if k.testBit i = true then setTo n f k i ||| 2 ^ i else setTo n f k i
end Go.Proofs.YtfphkpdobbffeaaDoor

/-
  Contracts: the room for what is known, the free wires, a wire put.
-/
namespace Go.Proofs.YtfphkpdobbffeaaDoor
open Go Go.AH
set_option maxRecDepth 100000
set_option maxHeartbeats 1000000

end Go.Proofs.YtfphkpdobbffeaaDoor

/-
  Contract: the free wires of a position, for the reference.
-/
namespace Go.Proofs.YtfphkpdobbffeaaDoor
open Go Go.AH
set_option maxRecDepth 100000
set_option maxHeartbeats 1000000

def freeTo (f i : Nat) : List Int := ((List.range i).filter f.testBit).map Int.ofNat
def frV : List Int → AC
  | [] => .nils
  | _ :: l => .row 0 (l.length + 1)
def frH : List Int → List (Nat × ABlk)
  | [] => []
  | x :: l => [(0, .row 3 1 (ints (x :: l)))]
def frK : List Int → Nat
  | [] => 0
  | _ => 1
end Go.Proofs.YtfphkpdobbffeaaDoor

/-
  Contract: a wire put into a position, for the reference.
-/
namespace Go.Proofs.YtfphkpdobbffeaaDoor
open Go Go.AH
set_option maxRecDepth 100000
set_option maxHeartbeats 1000000

end Go.Proofs.YtfphkpdobbffeaaDoor

/-
  Plain law: positions with a wire cut or kept; the number of a position tells it.
-/
namespace Go.Proofs.YtfphkpdobbffeaaDoor
open Go Go.AH
set_option maxRecDepth 100000
set_option maxHeartbeats 1000000

theorem codeN_inj {f k f' k' : Nat} : ∀ n, codeN n f k = codeN n f' k' → ∀ i, i < n → f.testBit i = f'.testBit i ∧ (f.testBit i = false → k.testBit i = k'.testBit i)
  | 0, _, i, hi => by omega
  | n + 1, h, i, hi => by
    simp only [codeN] at h
    have hq : codeN n f k = codeN n f' k' ∧ (if f.testBit n then 0 else if k.testBit n then 1 else 2) = (if f'.testBit n then 0 else if k'.testBit n then 1 else 2) := by
      have h1 : (if f.testBit n then 0 else if k.testBit n then 1 else 2) < 3 := by split <;> (try split) <;> omega
      have h2 : (if f'.testBit n then 0 else if k'.testBit n then 1 else 2) < 3 := by split <;> (try split) <;> omega
      omega
    by_cases e : i = n
    · subst e
      have := hq.2
      revert this
      cases f.testBit i <;> cases f'.testBit i <;> cases k.testBit i <;> cases k'.testBit i <;> simp
    · exact codeN_inj n hq.1 i (by omega)
theorem pos_eq {n f k f' k' : Nat} (hf : f < 2 ^ n) (hk : k < 2 ^ n) (hf' : f' < 2 ^ n) (hk' : k' < 2 ^ n) (hd : ∀ i, f.testBit i = true → k.testBit i = false) (hd' : ∀ i, f'.testBit i = true → k'.testBit i = false) (h : codeN n f k = codeN n f' k') : f = f' ∧ k = k' := by
  have hi := codeN_inj n h
  have big : ∀ (a i : Nat), a < 2 ^ n → ¬ i < n → a.testBit i = false := fun a i ha hn => by
    cases h : a.testBit i with
    | false => rfl
    | true => exact absurd (lt_len ha h) hn
  refine ⟨Nat.eq_of_testBit_eq fun i => ?_, Nat.eq_of_testBit_eq fun i => ?_⟩
  · by_cases e : i < n
    · exact (hi i e).1
    · rw [big f i hf e, big f' i hf' e]
  · by_cases e : i < n
    · obtain ⟨a, b⟩ := hi i e
      cases h : f.testBit i with
      | true => rw [hd i h, hd' i (by rw [← a]; exact h)]
      | false => exact b h
    · rw [big k i hk e, big k' i hk' e]
/-- What is known: 1 where Short wins, 2 where not. -/
def KI (g : Gm) (L : List Int) : Prop := L.length = 2 * 3 ^ g.ws.length ∧ ∀ f k c, f < 2 ^ g.ws.length → k < 2 ^ g.ws.length → (∀ i, f.testBit i = true → k.testBit i = false) →
  L.getD (2 * codeN g.ws.length f k + c.toNat) 0 = 0 ∨ L.getD (2 * codeN g.ws.length f k + c.toNat) 0 = if W g f k c then 1 else 2
theorem KI.zero (g : Gm) : KI g (List.replicate (2 * 3 ^ g.ws.length) 0) := ⟨by simp, fun f k c _ _ _ => .inl (by
  simp only [List.getD_eq_getElem?_getD, List.getElem?_replicate]
  split <;> rfl)⟩
theorem KI.set {g : Gm} {L : List Int} (h : KI g L) {f k : Nat} {c : Bool} (hf : f < 2 ^ g.ws.length) (hk : k < 2 ^ g.ws.length) (hd : ∀ i, f.testBit i = true → k.testBit i = false) : KI g (L.set (2 * codeN g.ws.length f k + c.toNat) (if W g f k c then 1 else 2)) := by
  refine ⟨by rw [List.length_set]; exact h.1, fun f' k' c' hf' hk' hd' => ?_⟩
  have hl := codeN_lt f k g.ws.length
  have hc : c.toNat < 2 := by cases c <;> decide
  have hc' : c'.toNat < 2 := by cases c' <;> decide
  simp only [List.getD_eq_getElem?_getD, List.getElem?_set]
  by_cases e : 2 * codeN g.ws.length f k + c.toNat = 2 * codeN g.ws.length f' k' + c'.toNat
  · rw [if_pos e, if_pos (by rw [h.1]; omega)]
    obtain ⟨rfl, rfl⟩ := pos_eq hf hk hf' hk' hd hd' (by omega)
    have : c = c' := by
      have : c.toNat = c'.toNat := by omega
      revert this; cases c <;> cases c' <;> simp
    subst this
    exact .inr rfl
  · rw [if_neg e, ← List.getD_eq_getElem?_getD]
    exact h.2 f' k' c' hf' hk' hd'
end Go.Proofs.YtfphkpdobbffeaaDoor

/-
  Contract: who wins, by the reference.
-/
namespace Go.Proofs.YtfphkpdobbffeaaDoor
open Go Go.AH
set_option maxRecDepth 100000
set_option maxHeartbeats 1000000

def NK (g : Gm) : Nat := 2 * 3 ^ g.ws.length
def WOk (g : Gm) (f : Nat) : Prop := ∀ k c L, k < 2 ^ g.ws.length → (∀ i, f.testBit i = true → k.testBit i = false) → KI g L →
  FSpec Tryd.prog 44 [.g (gC g 0), .c (.str (posB g.ws.length f k)), .c (.bool c), .c (.sl 1 0 (NK g) (some (NK g)))] [(0, wB g), (1, .own (ints L))] 2
    (fun r2 hq k' => ∃ L' : List Int, KI g L' ∧ r2 = .c (.bool (W g f k c)) ∧ hq = [(1, .own (ints L'))] ∧ k' = 2)
end Go.Proofs.YtfphkpdobbffeaaDoor

/-
  Contract: the kind of a game, by the reference; the law SwitchKinds, as a contract.
-/
namespace Go.Proofs.YtfphkpdobbffeaaDoor
open Go Go.AH
set_option maxRecDepth 100000
set_option maxHeartbeats 1000000

end Go.Proofs.YtfphkpdobbffeaaDoor

/-
  Contracts: whether a string is a position, by the program.
-/
namespace Go.Proofs.YtfphkpdobbffeaaDoor
open Go Go.AH
set_option maxRecDepth 100000
set_option maxHeartbeats 1000000

def bs (l : List UInt8) : ByteArray := ⟨l.toArray⟩
def isP (c : UInt8) : Bool := c == 46 || c == 43 || c == 45
/-- The set of the three signs. -/
def asC : List AC := (((List.replicate 256 (AC.bool false)).set 46 (.bool true)).set 43 (.bool true)).set 45 (.bool true)
def trimR (l : List UInt8) : List UInt8 := (l.reverse.dropWhile isP).reverse
/-- What is left of a string. -/
def trimP (l : List UInt8) : List UInt8 := (trimR l).dropWhile isP
def asS : Nat → List AC
  | 0 => List.replicate 256 (.bool false)
  | 1 => (List.replicate 256 (AC.bool false)).set 46 (.bool true)
  | 2 => ((List.replicate 256 (AC.bool false)).set 46 (.bool true)).set 43 (.bool true)
  | _ => asC
end Go.Proofs.YtfphkpdobbffeaaDoor

/-
  Contracts: strings.Trim at the three signs; CheckPosition.
-/
namespace Go.Proofs.YtfphkpdobbffeaaDoor
open Go Go.AH
set_option maxRecDepth 100000
set_option maxHeartbeats 1000000

/-- A position, as bytes. -/
def okPos (n : Nat) (l : List UInt8) : Bool := l.length == n && l.all isP
end Go.Proofs.YtfphkpdobbffeaaDoor

/-
  Contracts: a position, as sets; read.
-/
namespace Go.Proofs.YtfphkpdobbffeaaDoor
open Go Go.AH
set_option maxRecDepth 100000
set_option maxHeartbeats 1000000

def bitsN (q : Nat → Bool) : Nat → Nat
  | 0 => 0
  | i + 1 => if q i = true then bitsN q i ||| 2 ^ i else bitsN q i
/-- The free wires, and the kept ones, of bytes. -/
def fB (n : Nat) (l : List UInt8) : Nat := bitsN (fun i => l.getD i 0 == 46) n
def kB (n : Nat) (l : List UInt8) : Nat := bitsN (fun i => l.getD i 0 == 43) n
end Go.Proofs.YtfphkpdobbffeaaDoor

/-
  Contracts: Position by the reference; the position of any string.
-/
namespace Go.Proofs.YtfphkpdobbffeaaDoor
open Go Go.AH
set_option maxRecDepth 100000
set_option maxHeartbeats 1000000

end Go.Proofs.YtfphkpdobbffeaaDoor

/-
  Contract: the position of any string.
-/
namespace Go.Proofs.YtfphkpdobbffeaaDoor
open Go Go.AH
set_option maxRecDepth 100000
set_option maxHeartbeats 1000000

def u8s (l : List UInt8) : List AC := l.map fun c => AC.int .u8 (c.toNat : Int)
/-- The sign of a byte. -/
def dig (l : List UInt8) (i : Nat) : UInt8 := if i < l.length then ([46, 43, 45] : List UInt8).getD ((l.getD i 0).toNat % 3) 0 else 46
def posOf (l : List UInt8) (n : Nat) : List UInt8 := (List.range n).map (dig l)
def uV : List UInt8 → AC
  | [] => .nils
  | _ :: l => .row 2 (l.length + 1)
def uH : List UInt8 → List (Nat × ABlk)
  | [] => []
  | x :: l => [(2, .row 5 1 (u8s (x :: l)))]
def uK : List UInt8 → Nat
  | [] => 2
  | _ => 3
theorem wBren (g : Gm) (q : Nat → Nat) : some (wB g) = some (ABlk.ren q (wB g)) := by rw [wB, ABlk.ren, ints_ren]
end Go.Proofs.YtfphkpdobbffeaaDoor

/-
  Contracts: Joined, Wins, Best, of any string.
-/
namespace Go.Proofs.YtfphkpdobbffeaaDoor
open Go Go.AH
set_option maxRecDepth 100000
set_option maxHeartbeats 1000000

end Go.Proofs.YtfphkpdobbffeaaDoor

/-
  Contracts at games without wires; the law SwitchPositions, as a contract.
-/
namespace Go.Proofs.YtfphkpdobbffeaaDoor
open Go Go.AH
set_option maxRecDepth 100000
set_option maxHeartbeats 1000000

end Go.Proofs.YtfphkpdobbffeaaDoor

/-
  Plain law: a tree on some places, by both.
-/
namespace Go.Proofs.YtfphkpdobbffeaaDoor
open Go Go.AH
set_option maxRecDepth 100000
set_option maxHeartbeats 1000000

theorem scan_gen (l : List Int) (pl n : Nat) : ∀ f k (first : Int), f + k = n → 0 ≤ first → (scanF l pl f k first = true ↔ ∀ j, k ≤ j → j < n → pl.testBit j = true → l.getD j 0 = first)
  | 0, k, first, h, _ => by
    simp only [scanF, true_iff]
    exact fun j h1 h2 => by omega
  | f + 1, k, first, h, h0 => by
    have hb := bit_test pl k
    have hb1 := bit_01 pl k
    rw [scanF]
    split
    · rename_i e
      rw [scan_gen l pl n f (k + 1) first (by omega) h0]
      constructor
      · intro h j h1 h2 h3
        by_cases hj : j = k
        · subst hj; rw [hb.2 h3] at e; omega
        · exact h j (by omega) h2 h3
      · exact fun h j h1 h2 => h j (by omega) h2
    · rename_i e
      simp only [if_neg (show ¬ first < 0 by omega)]
      split
      · rename_i e
        rw [scan_gen l pl n f (k + 1) first (by omega) h0]
        constructor
        · intro h j h1 h2 h3
          by_cases hj : j = k
          · rw [hj]; exact e
          · exact h j (by omega) h2 h3
        · exact fun h j h1 h2 => h j (by omega) h2
      · rename_i e2
        simp only [Bool.false_eq_true, false_iff]
        exact fun h => e2 (h k (by omega) (by omega) (hb.1 (by omega)))
theorem scan_start (l : List Int) (pl n : Nat) (hl : ∀ i, i < n → 0 ≤ l.getD i 0) : ∀ f k, f + k = n → (scanF l pl f k (-1) = true ↔ ∀ i j, k ≤ i → i < n → k ≤ j → j < n → pl.testBit i = true → pl.testBit j = true → l.getD i 0 = l.getD j 0)
  | 0, k, h => by
    simp only [scanF, true_iff]
    exact fun i j h1 h2 => by omega
  | f + 1, k, h => by
    have hb := bit_test pl k
    have hb1 := bit_01 pl k
    rw [scanF]
    split
    · rename_i e
      rw [scan_start l pl n hl f (k + 1) (by omega)]
      have ne : ∀ i, pl.testBit i = true → i ≠ k := fun i hi e2 => by subst e2; rw [hb.2 hi] at e; omega
      constructor
      · intro h i j h1 h2 h3 h4 h5 h6
        exact h i j (by have := ne i h5; omega) h2 (by have := ne j h6; omega) h4 h5 h6
      · exact fun h i j h1 h2 h3 h4 => h i j (by omega) h2 (by omega) h4
    · rename_i e
      simp only [show (-1 : Int) < 0 from by decide, if_true]
      rw [scan_gen l pl n f (k + 1) _ (by omega) (hl k (by omega))]
      have hk := hb.1 (by omega)
      constructor
      · intro h i j h1 h2 h3 h4 h5 h6
        have key : ∀ i, k ≤ i → i < n → pl.testBit i = true → l.getD i 0 = l.getD k 0 := fun i h1 h2 h5 => by
          by_cases e : i = k
          · rw [e]
          · exact h i (by omega) h2 h5
        rw [key i h1 h2 h5, key j h3 h4 h6]
      · exact fun h j h1 h2 h3 => h j k (by omega) h2 (by omega) (by omega) h3 hk
theorem countP_split (p q : Nat → Bool) : ∀ l : List Nat, l.countP p = l.countP (fun u => p u && q u) + l.countP (fun u => p u && !q u)
  | [] => rfl
  | a :: l => by
    simp only [List.countP_cons, countP_split p q l]
    cases p a <;> cases q a <;> simp <;> omega
theorem pop_cnt {pl n : Nat} (hn : n ≤ 10) (h : pl < 2 ^ n) : (List.range n).countP pl.testBit = pop pl := by
  rw [pop, memN, range_filter _ 10 hn fun i hi => by
    cases h2 : pl.testBit i with
    | false => rfl
    | true => have := lt_len h h2; omega, List.countP_eq_length_filter]
theorem cnt_is (r : Nat) : ∀ n, (List.range n).countP (fun u => decide (u = r)) = if r < n then 1 else 0
  | 0 => by simp
  | n + 1 => by
    have e1 : [n].countP (fun u => decide (u = r)) = if n = r then 1 else 0 := by simp [List.countP_cons]
    rw [List.range_succ, List.countP_append, cnt_is r n, e1]
    split <;> split <;> split <;> omega
/-- All places of pl lie in one group. -/
def oneG (xs : List Int) (pl : Nat) : Prop := ∀ u v, pl.testBit u = true → pl.testBit v = true → root xs u = root xs v
def rootsIn (xs : List Int) (pl n : Nat) : Nat := (List.range n).countP fun u => decide (root xs u = u) && pl.testBit u
theorem rootsIn_one {xs : List Int} (h : Grp xs) {pl n : Nat} (hn : n ≤ 8) (hpl : pl < 2 ^ n) (h0 : pl ≠ 0) (hL : ∀ u, u < 8 → pl.testBit u = false → ∀ v, v < 8 → v ≠ u → root xs v ≠ u) : rootsIn xs pl n = 1 ↔ oneG xs pl := by
  have inn : ∀ u, pl.testBit u = true → u < n := fun u hu => lt_len hpl hu
  have rin : ∀ u, pl.testBit u = true → pl.testBit (root xs u) = true := fun u hu => by
    have hu8 := inn u hu
    have hr := root_le h (show u < 8 by omega)
    cases e : pl.testBit (root xs u) with
    | true => rfl
    | false =>
      exact absurd rfl (hL (root xs u) (by omega) e u (by omega) (fun e2 => by rw [← e2, hu] at e; cases e))
  constructor
  · intro hk u v hu hv
    have hu8 := inn u hu
    have hv8 := inn v hv
    have hru := root_le h (show u < 8 by omega)
    have hrv := root_le h (show v < 8 by omega)
    have hm := cnt_rm (fun u => decide (root xs u = u) && pl.testBit u) (root xs u) (by simp [root_root h (show u < 8 by omega), rin u hu]) n
    rw [if_pos (by omega)] at hm
    unfold rootsIn at hk
    have hz : (List.range n).countP (fun w => (decide (root xs w = w) && pl.testBit w) && decide (w ≠ root xs u)) = 0 := by omega
    rw [List.countP_eq_zero] at hz
    have := hz (root xs v) (List.mem_range.2 (by omega))
    rw [root_root h (by omega), rin v hv] at this
    simp at this
    exact this.symm
  · intro ho
    obtain ⟨u0, hu0⟩ : ∃ u0, pl.testBit u0 = true := Nat.exists_testBit_of_ne_zero h0
    have hu8 := inn u0 hu0
    have hr0 := root_le h (show u0 < 8 by omega)
    unfold rootsIn
    rw [List.countP_congr (q := fun u => decide (u = root xs u0)) fun u hu => ?_, cnt_is, if_pos (by omega)]
    simp only [Bool.and_eq_true, decide_eq_true_eq]
    constructor
    · rintro ⟨h1, h2⟩
      rw [← h1]; exact ho u u0 h2 hu0
    · rintro rfl
      exact ⟨root_root h (by omega), rin u0 hu0⟩
theorem tree_pl {g : Gm} (hg : g.ok) {b pl : Nat} (hb : b < 2 ^ g.ws.length) (hpl : pl < 2 ^ g.n) (h2 : 2 ≤ pop pl) : isTreeB g b pl = treeR g b pl := by
  have h8 := hg.n8
  have hl10 := hg.len
  have hG : Grp (keptL g b) := Grp.fold hg (mem b) _ Grp.alone fun y hy => (mem_lt hl10 hb hy).2
  have hac := acy_comps hg (mem b) (aloneSt 8) Grp.alone fun y hy => (mem_lt hl10 hb hy).2
  rw [show (mem b).foldl (joinF g) (aloneSt 8) = keptL g b from rfl, comps_alone h8, show (mem b).length = pop b from by simp [mem, pop]] at hac
  have hlab := labels hg b g.ws.length (Nat.le_refl _)
  rw [← kept_eq hg hb] at hlab
  have hp0 : pl ≠ 0 := fun e => by subst e; revert h2; decide
  have hp2 : 2 ^ g.ws.length ≤ 1024 := Nat.pow_le_pow_right (by omega) hl10
  have hpc := pop_cnt (show g.n ≤ 10 by omega) hpl
  have tch : ∀ u, u < 8 → (mem b).any (endOf g u) = false → root (keptL g b) u = u ∧ ∀ v, v < 8 → v ≠ u → root (keptL g b) v ≠ u := fun u hu hf =>
    lone hg hu (mem b) (aloneSt 8) Grp.alone (fun y hy => (mem_lt hl10 hb hy).2) (fun y hy => by
      cases h : endOf g u y with
      | false => rfl
      | true => rw [List.any_eq_false] at hf; exact absurd h (hf y hy)) (alone_root (by omega)) (fun v hv hne => by rw [alone_root hv]; exact hne)
  have hpb : ∀ u, (placesN g b).testBit u = (mem b).any (endOf g u) := fun u => by rw [placesN, places_bit, Nat.zero_testBit, Bool.false_or]
  -- the groups, counted
  have cnt : (∀ u, u < 8 → pl.testBit u = false → (mem b).any (endOf g u) = false) → comps (keptL g b) g.n + pop pl = rootsIn (keptL g b) pl g.n + g.n := fun H => by
    have e1 := countP_split (fun u => decide (root (keptL g b) u = u)) pl.testBit (List.range g.n)
    have e2 : (List.range g.n).countP (fun u => decide (root (keptL g b) u = u) && !pl.testBit u) = (List.range g.n).countP (fun u => true && !pl.testBit u) := List.countP_congr fun u hu => by
      have hu8 := List.mem_range.1 hu
      cases e : pl.testBit u with
      | true => simp
      | false => simp [(tch u (by omega) (H u (by omega) e)).1]
    have e3 := countP_split (fun _ => true) pl.testBit (List.range g.n)
    have e4 : (List.range g.n).countP (fun u => true && pl.testBit u) = pop pl := by rw [← hpc]; exact List.countP_congr fun u _ => by simp
    have e5 : (List.range g.n).countP (fun _ => true) = g.n := by simp
    unfold comps rootsIn
    rw [e1, e2]
    omega
  have one := fun (H : ∀ u, u < 8 → pl.testBit u = false → (mem b).any (endOf g u) = false) => rootsIn_one hG h8 hpl hp0 (fun u hu hf v hv hne => (tch u hu (H u hu hf)).2 v hv hne)
  have hsc : scanF (grpR g b g.ws.length) pl g.n 0 (-1) = true ↔ oneG (keptL g b) pl := by
    rw [scan_start _ _ g.n (fun i hi => by rw [hlab i hi]; omega) g.n 0 (by omega)]
    constructor
    · intro h u v hu hv
      have hu8 := lt_len hpl hu
      have hv8 := lt_len hpl hv
      have := h u v (by omega) hu8 (by omega) hv8 hu hv
      rw [hlab u hu8, hlab v hv8] at this
      omega
    · intro h i j _ h1 _ h2 h3 h4
      rw [hlab i h1, hlab j h2, h i j h3 h4]
  have wok : (∀ i, i < g.ws.length → wOk g b pl i = true) ↔ ∀ u, (mem b).any (endOf g u) = true → pl.testBit u = true := by
    constructor
    · intro h u hu
      obtain ⟨y, hy, he⟩ := List.any_eq_true.1 hu
      obtain ⟨i, rfl, hi⟩ := (mem_iff (by omega)).1 hy
      have hil := lt_len hb hi
      have := h i hil
      rw [wOk, (bit_test b i).2 hi] at this
      simp only [endOf, Int.toNat_natCast, Bool.or_eq_true, decide_eq_true_eq] at he
      obtain ⟨w1, hw1⟩ : ∃ w, w = (g.ws.getD i (0, 0)).1 := ⟨_, rfl⟩
      obtain ⟨w2, hw2⟩ : ∃ w, w = (g.ws.getD i (0, 0)).2 := ⟨_, rfl⟩
      rw [← hw1, ← hw2] at this he
      simp at this
      have b1 := bit_01 pl w1
      have b2 := bit_01 pl w2
      rcases he with rfl | rfl
      · exact (bit_test _ _).1 (by omega)
      · exact (bit_test _ _).1 (by omega)
    · intro h i hi
      rw [wOk]
      cases hbi : b.testBit i with
      | false =>
        have : ¬ bit b i = 1 := fun e => by rw [(bit_test b i).1 e] at hbi; cases hbi
        rw [decide_eq_false this]; rfl
      | true =>
        have hm : (i : Int) ∈ mem b := (mem_iff (by omega)).2 ⟨i, rfl, hbi⟩
        have k1 := h (g.ws.getD i (0, 0)).1 (List.any_eq_true.2 ⟨_, hm, by simp [endOf]⟩)
        have k2 := h (g.ws.getD i (0, 0)).2 (List.any_eq_true.2 ⟨_, hm, by simp [endOf]⟩)
        rw [← bit_test] at k1 k2
        rw [k1, k2]; simp
  rw [Bool.eq_iff_iff]
  simp only [isTreeB, treeR, Bool.and_eq_true, decide_eq_true_eq, hac.2, hsc, wok]
  constructor
  · rintro ⟨⟨h3, h4⟩, h5⟩
    have H : ∀ u, u < 8 → pl.testBit u = false → (mem b).any (endOf g u) = false := fun u _ hu => by rw [← hpb, h3]; exact hu
    have hc := cnt H
    exact ⟨⟨fun u hu => by rw [← hpb, h3] at hu; exact hu, (one H).1 (by omega)⟩, h4⟩
  · rintro ⟨⟨h3, h4⟩, h5⟩
    have H : ∀ u, u < 8 → pl.testBit u = false → (mem b).any (endOf g u) = false := fun u _ hu => by
      cases e : (mem b).any (endOf g u) with
      | false => rfl
      | true => rw [h3 u e] at hu; cases hu
    have hc := cnt H
    have hk := (one H).2 h4
    refine ⟨⟨Nat.eq_of_testBit_eq fun u => ?_, h5⟩, by omega⟩
    rw [hpb]
    cases e : pl.testBit u with
    | false =>
      cases e2 : (mem b).any (endOf g u) with
      | false => rfl
      | true => rw [h3 u e2] at e; cases e
    | true =>
      cases e2 : (mem b).any (endOf g u) with
      | true => rfl
      | false =>
        exfalso
        have hu8 := lt_len hpl e
        obtain ⟨t1, t2⟩ := tch u (by omega) e2
        obtain ⟨v, hv, hvu⟩ : ∃ v, pl.testBit v = true ∧ v ≠ u := by
          refine Classical.byContradiction fun hno => ?_
          have hle : (List.range g.n).countP pl.testBit ≤ (List.range g.n).countP (fun v => decide (v = u)) := List.countP_mono_left fun v _ hv => by
            refine decide_eq_true (Classical.byContradiction fun hne => hno ⟨v, hv, hne⟩)
          rw [cnt_is, if_pos hu8, hpc] at hle
          omega
        have hv8 := lt_len hpl hv
        exact t2 v (by omega) hvu (by rw [h4 v u hv e, t1])
end Go.Proofs.YtfphkpdobbffeaaDoor

/-
  Plain law: a cut tree is mended by a wire of the other one.
-/
namespace Go.Proofs.YtfphkpdobbffeaaDoor
open Go Go.AH
set_option maxRecDepth 100000
set_option maxHeartbeats 1000000

theorem treeR_iff {g : Gm} (hg : g.ok) {b pl : Nat} (hb : b < 2 ^ g.ws.length) (hpl : pl < 2 ^ g.n) : treeR g b pl = true ↔ (∀ u, (mem b).any (endOf g u) = true → pl.testBit u = true) ∧ oneG (keptL g b) pl ∧ (pop b : Int) = pop pl - 1 := by
  have h8 := hg.n8
  have hl10 := hg.len
  have hp2 : 2 ^ g.ws.length ≤ 1024 := Nat.pow_le_pow_right (by omega) hl10
  have hlab := labels hg b g.ws.length (Nat.le_refl _)
  rw [← kept_eq hg hb] at hlab
  have hsc : scanF (grpR g b g.ws.length) pl g.n 0 (-1) = true ↔ oneG (keptL g b) pl := by
    rw [scan_start _ _ g.n (fun i hi => by rw [hlab i hi]; omega) g.n 0 (by omega)]
    constructor
    · intro h u v hu hv
      have hu8 := lt_len hpl hu
      have hv8 := lt_len hpl hv
      have := h u v (by omega) hu8 (by omega) hv8 hu hv
      rw [hlab u hu8, hlab v hv8] at this
      omega
    · intro h i j _ h1 _ h2 h3 h4
      rw [hlab i h1, hlab j h2, h i j h3 h4]
  have wok : (∀ i, i < g.ws.length → wOk g b pl i = true) ↔ ∀ u, (mem b).any (endOf g u) = true → pl.testBit u = true := by
    constructor
    · intro h u hu
      obtain ⟨y, hy, he⟩ := List.any_eq_true.1 hu
      obtain ⟨i, rfl, hi⟩ := (mem_iff (by omega)).1 hy
      have hil := lt_len hb hi
      have := h i hil
      rw [wOk, (bit_test b i).2 hi] at this
      simp only [endOf, Int.toNat_natCast, Bool.or_eq_true, decide_eq_true_eq] at he
      obtain ⟨w1, hw1⟩ : ∃ w, w = (g.ws.getD i (0, 0)).1 := ⟨_, rfl⟩
      obtain ⟨w2, hw2⟩ : ∃ w, w = (g.ws.getD i (0, 0)).2 := ⟨_, rfl⟩
      rw [← hw1, ← hw2] at this he
      simp at this
      have b1 := bit_01 pl w1
      have b2 := bit_01 pl w2
      rcases he with rfl | rfl
      · exact (bit_test _ _).1 (by omega)
      · exact (bit_test _ _).1 (by omega)
    · intro h i hi
      rw [wOk]
      cases hbi : b.testBit i with
      | false =>
        have : ¬ bit b i = 1 := fun e => by rw [(bit_test b i).1 e] at hbi; cases hbi
        rw [decide_eq_false this]; rfl
      | true =>
        have hm : (i : Int) ∈ mem b := (mem_iff (by omega)).2 ⟨i, rfl, hbi⟩
        have k1 := h (g.ws.getD i (0, 0)).1 (List.any_eq_true.2 ⟨_, hm, by simp [endOf]⟩)
        have k2 := h (g.ws.getD i (0, 0)).2 (List.any_eq_true.2 ⟨_, hm, by simp [endOf]⟩)
        rw [← bit_test] at k1 k2
        rw [k1, k2]; simp
  rw [treeR, Bool.and_eq_true, Bool.and_eq_true, decide_eq_true_eq, decide_eq_true_eq, hsc, wok, and_assoc]
theorem pop_on {a w : Nat} (ha : a < 1024) (hw : w < 10) (h : a.testBit w = false) : pop (a ||| 2 ^ w) = pop a + 1 := by
  have : ∀ a, a < 1024 → ∀ w, w < 10 → a.testBit w = false → pop (a ||| 2 ^ w) = pop a + 1 := by decide +kernel
  exact this a ha w hw h
theorem or_bit (a w i : Nat) : (a ||| 2 ^ w).testBit i = (a.testBit i || decide (i = w)) := by
  rw [Nat.testBit_or, Nat.testBit_two_pow]
  congr 1
  exact decide_eq_decide.2 ⟨Eq.symm, Eq.symm⟩
theorem places_any {g : Gm} (b u : Nat) : (placesN g b).testBit u = (mem b).any (endOf g u) := by rw [placesN, places_bit, Nat.zero_testBit, Bool.false_or]
/-- Classes of fewer wires lie in those of more. -/
theorem root_mono {g : Gm} (hg : g.ok) {n m : Nat} (hn : n < 2 ^ g.ws.length) (hm : m < 2 ^ g.ws.length) (h : ∀ i, n.testBit i = true → m.testBit i = true) {u v : Nat} (hu : u < 8) (hv : v < 8) (huv : root (keptL g n) u = root (keptL g n) v) : root (keptL g m) u = root (keptL g m) v := by
  have hp : 2 ^ g.ws.length ≤ 1024 := Nat.pow_le_pow_right (by omega) hg.len
  have hl : ∀ k, k < 2 ^ g.ws.length → ∀ y ∈ mem k, y.toNat < g.ws.length := fun k hk y hy => (mem_lt hg.len hk hy).2
  refine fold_root hg (root (keptL g m)) (mem n) (aloneSt 8) Grp.alone (hl n hn) (fun y hy => ?_) (fun u v hu hv huv => ?_) u v hu hv huv
  · obtain ⟨i, rfl, hi⟩ := (mem_iff (by omega)).1 hy
    exact fold_ends hg (mem m) (aloneSt 8) Grp.alone (hl m hm) i ((mem_iff (by omega)).2 ⟨i, rfl, h i hi⟩)
  · rw [alone_root hu, alone_root hv] at huv
    rw [huv]
theorem root_edge {g : Gm} (hg : g.ok) {m i : Nat} (hm : m < 2 ^ g.ws.length) (hi : m.testBit i = true) : root (keptL g m) (g.ws.getD i (0, 0)).1 = root (keptL g m) (g.ws.getD i (0, 0)).2 := by
  have hp : 2 ^ g.ws.length ≤ 1024 := Nat.pow_le_pow_right (by omega) hg.len
  have := fold_ends hg (mem m) (aloneSt 8) Grp.alone (fun y hy => (mem_lt hg.len hm hy).2) (i : Int) ((mem_iff (by omega)).2 ⟨i, rfl, hi⟩)
  exact this
theorem exchange {g : Gm} (hg : g.ok) {a b pl c : Nat} (ha : a < 2 ^ g.ws.length) (hb : b < 2 ^ g.ws.length) (hpl : pl < 2 ^ g.n) (h2 : 2 ≤ pop pl) (hab : a &&& b = 0)
    (hta : treeR g a pl = true) (htb : treeR g b pl = true) (hc : a.testBit c = true) : ∃ w, b.testBit w = true ∧ treeR g (offN a c ||| 2 ^ w) pl = true := by
  have h8 := hg.n8
  have hl10 := hg.len
  have hp2 : 2 ^ g.ws.length ≤ 1024 := Nat.pow_le_pow_right (by omega) hl10
  have hcl := lt_len ha hc
  obtain ⟨a1, a2, a3⟩ := (treeR_iff hg ha hpl).1 hta
  obtain ⟨b1, b2, b3⟩ := (treeR_iff hg hb hpl).1 htb
  have hlb : ∀ i, (offN a c).testBit i = (a.testBit i && decide (i ≠ c)) := fun i => offN_bit (by omega) (by omega)
  have hcm : (c : Int) ∈ mem a := (mem_iff (by omega)).2 ⟨c, rfl, hc⟩
  have hlp : pop (offN a c) = pop a - 1 ∧ offN a c < a := by
    have := off_mem (show a < 1024 by omega) hcm
    rwa [Int.toNat_natCast] at this
  have hap : 0 < pop a := pop_pos a (by omega) (by omega)
  have hl : offN a c < 2 ^ g.ws.length := by omega
  have dis : ∀ i, b.testBit i = true → a.testBit i = false := fun i hi => by
    have : (a &&& b).testBit i = false := by rw [hab]; exact Nat.zero_testBit i
    rw [Nat.testBit_and, hi, Bool.and_true] at this
    exact this
  have endIn : ∀ m i : Nat, m < 2 ^ g.ws.length → (∀ u, (mem m).any (endOf g u) = true → pl.testBit u = true) → m.testBit i = true → pl.testBit (g.ws.getD i (0, 0)).1 = true ∧ pl.testBit (g.ws.getD i (0, 0)).2 = true := fun m i hm h hi => by
    have hmm : (i : Int) ∈ mem m := (mem_iff (by omega)).2 ⟨i, rfl, hi⟩
    exact ⟨h _ (List.any_eq_true.2 ⟨_, hmm, by simp [endOf]⟩), h _ (List.any_eq_true.2 ⟨_, hmm, by simp [endOf]⟩)⟩
  -- any wire of the other tree with which all are joined does
  suffices H : ∃ w, b.testBit w = true ∧ oneG (keptL g (offN a c ||| 2 ^ w)) pl by
    obtain ⟨w, hw, ho⟩ := H
    have hwl := lt_len hb hw
    have hor : offN a c ||| 2 ^ w < 2 ^ g.ws.length := or_lt hl ((Nat.pow_lt_pow_iff_right (by omega)).2 hwl)
    refine ⟨w, hw, (treeR_iff hg hor hpl).2 ⟨fun u hu => ?_, ho, ?_⟩⟩
    · obtain ⟨y, hy, he⟩ := List.any_eq_true.1 hu
      obtain ⟨i, rfl, hi⟩ := (mem_iff (by omega)).1 hy
      rw [or_bit, hlb, Bool.or_eq_true, Bool.and_eq_true] at hi
      rcases hi with hi | hi
      · exact a1 u (List.any_eq_true.2 ⟨_, (mem_iff (by omega)).2 ⟨i, rfl, hi.1⟩, he⟩)
      · have hi := of_decide_eq_true hi
        subst hi
        exact b1 u (List.any_eq_true.2 ⟨_, (mem_iff (by omega)).2 ⟨i, rfl, hw⟩, he⟩)
    · rw [pop_on (by omega) (by omega) (by rw [hlb, dis w hw]; rfl), hlp.1]
      omega
  -- the ends of the cut wire
  obtain ⟨c1, hc1⟩ : ∃ x, x = (g.ws.getD c (0, 0)).1 := ⟨_, rfl⟩
  obtain ⟨c2, hc2⟩ : ∃ x, x = (g.ws.getD c (0, 0)).2 := ⟨_, rfl⟩
  have hcin := endIn a c ha a1 hc
  rw [← hc1, ← hc2] at hcin
  have inn : ∀ u, pl.testBit u = true → u < 8 := fun u hu => by have := lt_len hpl hu; omega
  have two : ∀ u, pl.testBit u = true → root (keptL g (offN a c)) u = root (keptL g (offN a c)) c1 ∨ root (keptL g (offN a c)) u = root (keptL g (offN a c)) c2 := fun u hu => by
    have key := fold_root hg (fun x => if root (keptL g (offN a c)) x = root (keptL g (offN a c)) c2 then root (keptL g (offN a c)) c1 else root (keptL g (offN a c)) x) (mem a) (aloneSt 8) Grp.alone (fun y hy => (mem_lt hl10 ha hy).2) (fun y hy => ?_) (fun u v hu hv huv => ?_) u c1 (inn u hu) (inn c1 hcin.1) (a2 u c1 hu hcin.1)
    · skip
      by_cases e : root (keptL g (offN a c)) u = root (keptL g (offN a c)) c2
      · exact .inr e
      · rw [if_neg e] at key
        left
        rw [key]
        split <;> rfl
    · obtain ⟨i, rfl, hi⟩ := (mem_iff (by omega)).1 hy
      simp only [Int.toNat_natCast]
      by_cases e : i = c
      · subst e
        rw [← hc1, ← hc2, if_pos rfl]
        split <;> rfl
      · rw [root_edge hg hl (i := i) (by rw [hlb, hi]; simp [e])]
    · rw [alone_root hu, alone_root hv] at huv
      rw [huv]
  -- joined, if both ends' groups are
  have done : ∀ w, b.testBit w = true → root (keptL g (offN a c ||| 2 ^ w)) c1 = root (keptL g (offN a c ||| 2 ^ w)) c2 → oneG (keptL g (offN a c ||| 2 ^ w)) pl := fun w hw h u v hu hv => by
    have hwl := lt_len hb hw
    have hor : offN a c ||| 2 ^ w < 2 ^ g.ws.length := or_lt hl ((Nat.pow_lt_pow_iff_right (by omega)).2 hwl)
    have up : ∀ u v, u < 8 → v < 8 → root (keptL g (offN a c)) u = root (keptL g (offN a c)) v → root (keptL g (offN a c ||| 2 ^ w)) u = root (keptL g (offN a c ||| 2 ^ w)) v := fun u v h1 h2 h3 =>
      root_mono hg hl hor (fun i hi => by rw [or_bit, hi]; rfl) h1 h2 h3
    have one : ∀ u, pl.testBit u = true → root (keptL g (offN a c ||| 2 ^ w)) u = root (keptL g (offN a c ||| 2 ^ w)) c1 := fun u hu => by
      rcases two u hu with e | e
      · exact up u c1 (inn u hu) (inn c1 hcin.1) e
      · rw [up u c2 (inn u hu) (inn c2 hcin.2) e, h]
    rw [one u hu, one v hv]
  by_cases e : root (keptL g (offN a c)) c1 = root (keptL g (offN a c)) c2
  · have hbp : 0 < b := by
      rcases Nat.eq_zero_or_pos b with e0 | e0
      · subst e0; rw [show pop 0 = 0 from by decide] at b3; omega
      · exact e0
    obtain ⟨w, hw⟩ : ∃ w, b.testBit w = true := Nat.exists_testBit_of_ne_zero (by omega)
    have hwl := lt_len hb hw
    have hor : offN a c ||| 2 ^ w < 2 ^ g.ws.length := or_lt hl ((Nat.pow_lt_pow_iff_right (by omega)).2 hwl)
    exact ⟨w, hw, done w hw (root_mono hg hl hor (fun i hi => by rw [or_bit, hi]; rfl) (inn c1 hcin.1) (inn c2 hcin.2) e)⟩
  · -- some wire of the other tree leads over
    obtain ⟨w, hw, hne⟩ : ∃ w, b.testBit w = true ∧ root (keptL g (offN a c)) (g.ws.getD w (0, 0)).1 ≠ root (keptL g (offN a c)) (g.ws.getD w (0, 0)).2 := by
      refine Classical.byContradiction fun hno => e ?_
      refine fold_root hg (root (keptL g (offN a c))) (mem b) (aloneSt 8) Grp.alone (fun y hy => (mem_lt hl10 hb hy).2) (fun y hy => ?_) (fun u v hu hv huv => ?_) c1 c2 (inn c1 hcin.1) (inn c2 hcin.2) (b2 c1 c2 hcin.1 hcin.2)
      · obtain ⟨i, rfl, hi⟩ := (mem_iff (by omega)).1 hy
        exact Classical.byContradiction fun h => hno ⟨i, hi, h⟩
      · rw [alone_root hu, alone_root hv] at huv
        rw [huv]
    have hwl := lt_len hb hw
    have hor : offN a c ||| 2 ^ w < 2 ^ g.ws.length := or_lt hl ((Nat.pow_lt_pow_iff_right (by omega)).2 hwl)
    have hwin := endIn b w hb b1 hw
    have hed := root_edge hg hor (i := w) (by rw [or_bit]; simp)
    have up : ∀ u v, u < 8 → v < 8 → root (keptL g (offN a c)) u = root (keptL g (offN a c)) v → root (keptL g (offN a c ||| 2 ^ w)) u = root (keptL g (offN a c ||| 2 ^ w)) v := fun u v h1 h2 h3 =>
      root_mono hg hl hor (fun i hi => by rw [or_bit, hi]; rfl) h1 h2 h3
    obtain ⟨w1, hw1⟩ : ∃ x, x = (g.ws.getD w (0, 0)).1 := ⟨_, rfl⟩
    obtain ⟨w2, hw2⟩ : ∃ x, x = (g.ws.getD w (0, 0)).2 := ⟨_, rfl⟩
    rw [← hw1, ← hw2] at hne hwin hed
    refine ⟨w, hw, done w hw ?_⟩
    rcases two w1 hwin.1 with h1 | h1 <;> rcases two w2 hwin.2 with h3 | h3
    · exact absurd (h1.trans h3.symm) hne
    · rw [← up w1 c1 (inn _ hwin.1) (inn _ hcin.1) h1, ← up w2 c2 (inn _ hwin.2) (inn _ hcin.2) h3, hed]
    · rw [← up w1 c2 (inn _ hwin.1) (inn _ hcin.2) h1, ← up w2 c1 (inn _ hwin.2) (inn _ hcin.1) h3, hed]
    · exact absurd (h1.trans h3.symm) hne
theorem places_ltn {g : Gm} (hg : g.ok) {a : Nat} (ha : a < 2 ^ g.ws.length) : placesN g a < 2 ^ g.n := by
  have hp2 : 2 ^ g.ws.length ≤ 1024 := Nat.pow_le_pow_right (by omega) hg.len
  refine Nat.lt_of_not_le fun h => ?_
  obtain ⟨i, hi, hb⟩ := Nat.exists_ge_and_testBit_of_ge_two_pow h
  rw [places_any] at hb
  obtain ⟨y, hy, he⟩ := List.any_eq_true.1 hb
  obtain ⟨j, rfl, hj⟩ := (mem_iff (by omega)).1 hy
  have := hg.ends j (lt_len ha hj)
  simp only [endOf, Int.toNat_natCast, Bool.or_eq_true, decide_eq_true_eq] at he
  omega
theorem pop_two {pl s t : Nat} (hpl : pl < 256) (hst : s ≠ t) (hs : pl.testBit s = true) (ht : pl.testBit t = true) : 2 ≤ pop pl := by
  have : ∀ pl, pl < 256 → ∀ s, s < 8 → ∀ t, t < 8 → s = t ∨ pl.testBit s = false ∨ pl.testBit t = false ∨ 2 ≤ pop pl := by decide +kernel
  rcases this pl hpl s (lt_len (k := 8) hpl hs) t (lt_len (k := 8) hpl ht) with h | h | h | h
  · exact absurd h hst
  · rw [hs] at h; cases h
  · rw [ht] at h; cases h
  · exact h
/-- Two sets are two trees. -/
theorem ends_iff {pl s t : Nat} : pl &&& (2 ^ s ||| 2 ^ t) = 2 ^ s ||| 2 ^ t ↔ pl.testBit s = true ∧ pl.testBit t = true := by
  constructor
  · intro h
    have k : ∀ i, (2 ^ s ||| 2 ^ t).testBit i = true → pl.testBit i = true := fun i hi => by
      rw [← h, Nat.testBit_and, Bool.and_eq_true] at hi; exact hi.1
    exact ⟨k s (by simp [Nat.testBit_or, Nat.testBit_two_pow]), k t (by simp [Nat.testBit_or, Nat.testBit_two_pow])⟩
  · rintro ⟨h1, h2⟩
    refine Nat.eq_of_testBit_eq fun i => ?_
    rw [Nat.testBit_and, Nat.testBit_or, Nat.testBit_two_pow, Nat.testBit_two_pow]
    by_cases e1 : s = i
    · subst e1; simp [h1]
    · by_cases e2 : t = i
      · subst e2; simp [h2]
      · simp [e1, e2]
end Go.Proofs.YtfphkpdobbffeaaDoor

/-
  Wires that join places: what is joined, how many groups there are, forests. (Plain.)
-/
namespace Go.Wire

/-- The least place that is joined to a place. -/
def lb {α : Type} (e : α → Nat × Nat) : List α → Nat → Nat
  | [], u => u
  | i :: l, u => if lb e l u = max (lb e l (e i).1) (lb e l (e i).2) then min (lb e l (e i).1) (lb e l (e i).2) else lb e l u
def Jn {α : Type} (e : α → Nat × Nat) (l : List α) (u v : Nat) : Prop := lb e l u = lb e l v
variable {α : Type} {e : α → Nat × Nat}
theorem lb_le : ∀ (l : List α) (u : Nat), lb e l u ≤ u
  | [], u => Nat.le_refl u
  | i :: l, u => by
    have h := lb_le l u
    rw [lb]
    split
    · omega
    · exact h
theorem lb_hit {i : α} {l : List α} {u : Nat} (h : lb e l u = max (lb e l (e i).1) (lb e l (e i).2)) : lb e (i :: l) u = min (lb e l (e i).1) (lb e l (e i).2) := by rw [lb, if_pos h]
theorem lb_mis {i : α} {l : List α} {u : Nat} (h : lb e l u ≠ max (lb e l (e i).1) (lb e l (e i).2)) : lb e (i :: l) u = lb e l u := by rw [lb, if_neg h]
theorem lb_lb : ∀ (l : List α) (u : Nat), lb e l (lb e l u) = lb e l u
  | [], u => rfl
  | i :: l, u => by
    have h := lb_lb l u
    have hm : lb e l (min (lb e l (e i).1) (lb e l (e i).2)) = min (lb e l (e i).1) (lb e l (e i).2) := by
      rcases Nat.le_total (lb e l (e i).1) (lb e l (e i).2) with k | k
      · rw [Nat.min_eq_left k]; exact lb_lb l _
      · rw [Nat.min_eq_right k]; exact lb_lb l _
    by_cases c : lb e l u = max (lb e l (e i).1) (lb e l (e i).2)
    · rw [lb_hit c]
      by_cases d : lb e l (min (lb e l (e i).1) (lb e l (e i).2)) = max (lb e l (e i).1) (lb e l (e i).2)
      · exact lb_hit d
      · rw [lb_mis d, hm]
    · rw [lb_mis c, lb_mis (by rw [h]; exact c), h]
theorem jn_cons {i : α} {l : List α} {u v : Nat} : Jn e (i :: l) u v ↔ Jn e l u v ∨ (Jn e l u (e i).1 ∧ Jn e l (e i).2 v) ∨ (Jn e l u (e i).2 ∧ Jn e l (e i).1 v) := by
  unfold Jn
  simp only [lb]
  generalize lb e l u = x
  generalize lb e l v = y
  generalize lb e l (e i).1 = A
  generalize lb e l (e i).2 = B
  split <;> split <;> omega
theorem Jn.refl (l : List α) (u : Nat) : Jn e l u u := rfl
theorem Jn.symm {l : List α} {u v : Nat} (h : Jn e l u v) : Jn e l v u := Eq.symm h
theorem Jn.trans {l : List α} {u v w : Nat} (h : Jn e l u v) (k : Jn e l v w) : Jn e l u w := Eq.trans h k
theorem jn_mem : ∀ {l : List α} {i : α}, i ∈ l → Jn e l (e i).1 (e i).2
  | j :: l, i, h => by
    rw [jn_cons]
    rcases List.mem_cons.1 h with rfl | h
    · exact .inr (.inl ⟨rfl, rfl⟩)
    · exact .inl (jn_mem h)
structure Eqv (R : Nat → Nat → Prop) : Prop where
  refl : ∀ u, R u u
  symm : ∀ {u v}, R u v → R v u
  trans : ∀ {u v w}, R u v → R v w → R u w
theorem Jn.eqv (l : List α) : Eqv (Jn e l) := ⟨fun _ => rfl, Eq.symm, Eq.trans⟩
theorem jn_least {R : Nat → Nat → Prop} (hR : Eqv R) : ∀ {l : List α} {u v : Nat}, (∀ i ∈ l, R (e i).1 (e i).2) → Jn e l u v → R u v
  | [], u, v, _, h => by have : u = v := h; subst this; exact hR.refl u
  | i :: l, u, v, hl, h => by
    have ih : ∀ {x y}, Jn e l x y → R x y := fun h => jn_least hR (fun j hj => hl j (List.mem_cons_of_mem _ hj)) h
    have hi := hl i (List.mem_cons_self ..)
    rcases jn_cons.1 h with h | ⟨h1, h2⟩ | ⟨h1, h2⟩
    · exact ih h
    · exact hR.trans (ih h1) (hR.trans hi (ih h2))
    · exact hR.trans (ih h1) (hR.trans (hR.symm hi) (ih h2))
theorem jn_mono {l l' : List α} {u v : Nat} (hs : ∀ i ∈ l, i ∈ l') (h : Jn e l u v) : Jn e l' u v := jn_least (Jn.eqv l') (fun _ hi => jn_mem (hs _ hi)) h
theorem jn_perm {l l' : List α} {u v : Nat} (hp : l.Perm l') : Jn e l u v ↔ Jn e l' u v := ⟨jn_mono fun _ h => hp.mem_iff.1 h, jn_mono fun _ h => hp.mem_iff.2 h⟩
theorem lb_congr {l l' : List α} (h : ∀ u v, Jn e l u v ↔ Jn e l' u v) (u : Nat) : lb e l u = lb e l' u := by
  have h1 : Jn e l' u (lb e l u) := (h _ _).1 (lb_lb l u).symm
  have h2 : Jn e l u (lb e l' u) := (h _ _).2 (lb_lb l' u).symm
  have h3 : lb e l' u ≤ lb e l u := by rw [show lb e l' u = lb e l' (lb e l u) from h1]; exact lb_le _ _
  have h4 : lb e l u ≤ lb e l' u := by rw [show lb e l u = lb e l (lb e l' u) from h2]; exact lb_le _ _
  omega
/-- How many groups there are. -/
def cp {α : Type} (e : α → Nat × Nat) (n : Nat) (l : List α) : Nat := (List.range n).countP fun u => decide (lb e l u = u)
theorem cp_congr {n : Nat} {l l' : List α} (h : ∀ u v, Jn e l u v ↔ Jn e l' u v) : cp e n l = cp e n l' := by
  unfold cp
  refine List.countP_congr fun u _ => ?_
  rw [lb_congr h]
theorem cp_nil (n : Nat) : cp e n [] = n := by
  have : (List.range n).countP (fun u => decide (lb e [] u = u)) = (List.range n).length := List.countP_eq_length.2 fun u _ => decide_eq_true rfl
  rw [cp, this, List.length_range]
theorem cnt_rm (p : Nat → Bool) (M : Nat) (hp : p M = true) : ∀ n, (List.range n).countP (fun u => p u && decide (u ≠ M)) + (if M < n then 1 else 0) = (List.range n).countP p
  | 0 => rfl
  | n + 1 => by
    have ih := cnt_rm p M hp n
    simp only [List.range_succ, List.countP_append, List.countP_cons, List.countP_nil]
    by_cases e : n = M
    · subst e
      simp [hp] at ih ⊢
      omega
    · simp only [show (decide (n ≠ M)) = true by simp [e], Bool.and_true]
      rw [show (if M < n + 1 then 1 else 0) = (if M < n then 1 else 0) from by simp only [show (M < n + 1) ↔ M < n by omega]]
      omega
theorem cp_same {n : Nat} {i : α} {l : List α} (h : Jn e l (e i).1 (e i).2) : cp e n (i :: l) = cp e n l := by
  refine cp_congr fun u v => ⟨fun k => ?_, jn_mono fun j hj => List.mem_cons_of_mem _ hj⟩
  rcases jn_cons.1 k with k | ⟨k1, k2⟩ | ⟨k1, k2⟩
  · exact k
  · exact k1.trans (h.trans k2)
  · exact k1.trans (h.symm.trans k2)
theorem cp_less {n : Nat} {i : α} {l : List α} (h : ¬ Jn e l (e i).1 (e i).2) (ha : (e i).1 < n) (hb : (e i).2 < n) : cp e n (i :: l) + 1 = cp e n l := by
  have hA := lb_lb (e := e) l (e i).1
  have hB := lb_lb (e := e) l (e i).2
  have lA := lb_le (e := e) l (e i).1
  have lB := lb_le (e := e) l (e i).2
  have hne : lb e l (e i).1 ≠ lb e l (e i).2 := h
  have hM : lb e l (max (lb e l (e i).1) (lb e l (e i).2)) = max (lb e l (e i).1) (lb e l (e i).2) := by
    rcases Nat.le_total (lb e l (e i).1) (lb e l (e i).2) with k | k
    · rw [Nat.max_eq_right k]; exact hB
    · rw [Nat.max_eq_left k]; exact hA
  have hm : lb e l (min (lb e l (e i).1) (lb e l (e i).2)) = min (lb e l (e i).1) (lb e l (e i).2) := by
    rcases Nat.le_total (lb e l (e i).1) (lb e l (e i).2) with k | k
    · rw [Nat.min_eq_left k]; exact hA
    · rw [Nat.min_eq_right k]; exact hB
  have := cnt_rm (fun u => decide (lb e l u = u)) (max (lb e l (e i).1) (lb e l (e i).2)) (decide_eq_true hM) n
  rw [if_pos (by omega)] at this
  rw [cp, cp, ← this]
  congr 1
  refine List.countP_congr fun u _ => ?_
  rw [Bool.and_eq_true, decide_eq_true_eq, decide_eq_true_eq, decide_eq_true_eq]
  by_cases c : lb e l u = max (lb e l (e i).1) (lb e l (e i).2)
  · rw [lb_hit c]
    constructor
    · intro k; rw [← k, hm] at c; omega
    · rintro ⟨k1, k2⟩; omega
  · rw [lb_mis c]
    constructor
    · intro k; exact ⟨k, by omega⟩
    · exact fun k => k.1
theorem cp_pos {n : Nat} (hn : 0 < n) (l : List α) : 0 < cp e n l := by
  rw [cp, List.countP_pos_iff]
  exact ⟨0, List.mem_range.2 hn, decide_eq_true (by have := lb_le (e := e) l 0; omega)⟩
/-- The wires' ends are places. -/
def In {α : Type} (e : α → Nat × Nat) (n : Nat) (l : List α) : Prop := ∀ i ∈ l, (e i).1 < n ∧ (e i).2 < n
theorem In.tail {n : Nat} {i : α} {l : List α} (h : In e n (i :: l)) : In e n l := fun j hj => h j (List.mem_cons_of_mem _ hj)
theorem In.sub {n : Nat} {l l' : List α} (h : In e n l) (hs : ∀ i ∈ l', i ∈ l) : In e n l' := fun j hj => h j (hs j hj)
theorem cp_ge {n : Nat} : ∀ {l : List α}, In e n l → n ≤ cp e n l + l.length
  | [], _ => by rw [cp_nil]; exact Nat.le_refl _
  | i :: l, h => by
    have ih := cp_ge h.tail
    have hi := h i (List.mem_cons_self ..)
    rw [List.length_cons]
    by_cases c : Jn e l (e i).1 (e i).2
    · rw [cp_same c]; omega
    · have := cp_less c hi.1 hi.2; omega
/-- Wires without a ring. -/
def Fo {α : Type} (e : α → Nat × Nat) (n : Nat) (l : List α) : Prop := In e n l ∧ cp e n l + l.length = n
theorem Fo.nil (n : Nat) : Fo e n [] := ⟨fun i hi => absurd hi List.not_mem_nil, by rw [cp_nil]; rfl⟩
theorem fo_cons {n : Nat} {i : α} {l : List α} (hi : (e i).1 < n ∧ (e i).2 < n) : Fo e n (i :: l) ↔ Fo e n l ∧ ¬ Jn e l (e i).1 (e i).2 := by
  constructor
  · rintro ⟨h1, h2⟩
    have := cp_ge h1.tail
    rw [List.length_cons] at h2
    by_cases c : Jn e l (e i).1 (e i).2
    · rw [cp_same c] at h2; omega
    · have h3 := cp_less c hi.1 hi.2
      exact ⟨⟨h1.tail, by omega⟩, c⟩
  · rintro ⟨⟨h1, h2⟩, c⟩
    have h3 := cp_less c hi.1 hi.2
    refine ⟨fun j hj => ?_, by rw [List.length_cons]; omega⟩
    rcases List.mem_cons.1 hj with rfl | hj
    · exact hi
    · exact h1 j hj
theorem Fo.perm {n : Nat} {l l' : List α} (hp : l.Perm l') (h : Fo e n l) : Fo e n l' := by
  refine ⟨h.1.sub fun i hi => hp.mem_iff.2 hi, ?_⟩
  rw [cp_congr (fun u v => (jn_perm hp.symm)), ← hp.length_eq]; exact h.2
theorem Fo.tail {n : Nat} {i : α} {l : List α} (h : Fo e n (i :: l)) : Fo e n l := ((fo_cons (h.1 i (List.mem_cons_self ..))).1 h).1
theorem Fo.head {n : Nat} {i : α} {l : List α} (h : Fo e n (i :: l)) : ¬ Jn e l (e i).1 (e i).2 := ((fo_cons (h.1 i (List.mem_cons_self ..))).1 h).2
theorem Fo.sub {n : Nat} {l l' : List α} (hs : l'.Sublist l) : Fo e n l → Fo e n l' := by
  induction hs with
  | slnil => exact id
  | cons a _ ih => exact fun h => ih h.tail
  | cons_cons a hs ih =>
    intro h
    exact (fo_cons (h.1 _ (List.mem_cons_self ..))).2 ⟨ih h.tail, fun k => h.head (jn_mono (fun j hj => hs.subset hj) k)⟩
theorem Fo.nodup {n : Nat} : ∀ {l : List α}, Fo e n l → l.Nodup
  | [], _ => List.nodup_nil
  | i :: l, h => List.nodup_cons.2 ⟨fun hi => h.head (jn_mem hi), Fo.nodup h.tail⟩
theorem Fo.len {n : Nat} {l : List α} (hn : 0 < n) (h : Fo e n l) : l.length + 1 ≤ n := by
  have := cp_pos (e := e) hn l
  have := h.2
  omega
/-- Wires of which none can be spared. -/
theorem least_join [DecidableEq α] {x y : Nat} : ∀ (k : Nat) (l : List α), l.length ≤ k → Jn e l x y → ∃ M, M.Sublist l ∧ Jn e M x y ∧ ∀ f ∈ M, ¬ Jn e (M.erase f) x y
  | 0, l, hk, h => ⟨l, List.Sublist.refl l, h, fun f hf => by
      have : l = [] := List.length_eq_zero_iff.1 (by omega)
      rw [this] at hf
      exact absurd hf List.not_mem_nil⟩
  | k + 1, l, hk, h => by
    by_cases c : ∃ f ∈ l, Jn e (l.erase f) x y
    · obtain ⟨f, hf, hj⟩ := c
      obtain ⟨M, h1, h2, h3⟩ := least_join k (l.erase f) (by rw [List.length_erase_of_mem hf]; omega) hj
      exact ⟨M, h1.trans List.erase_sublist, h2, h3⟩
    · exact ⟨l, List.Sublist.refl l, h, fun f hf hj => c ⟨f, hf, hj⟩⟩
theorem Fo.spare [DecidableEq α] {n : Nat} {l M : List α} {x y : Nat} {f : α} (h : Fo e n l) (hM : M.Sublist l) (hf : f ∈ M) (h1 : Jn e M x y) (h2 : ¬ Jn e (M.erase f) x y) : ¬ Jn e (l.erase f) x y := by
  intro k
  have hfl := hM.subset hf
  have h0 : Fo e n (f :: l.erase f) := Fo.perm (List.perm_cons_erase hfl) h
  have hs : ∀ j ∈ M.erase f, j ∈ l.erase f := fun j hj => (hM.erase f).subset hj
  have h3 := (jn_perm (List.perm_cons_erase hf)).1 h1
  rcases jn_cons.1 h3 with h3 | ⟨h3, h4⟩ | ⟨h3, h4⟩
  · exact h2 h3
  · exact h0.head ((jn_mono hs h3).symm.trans (k.trans (jn_mono hs h4).symm))
  · exact h0.head ((jn_mono hs h4).trans (k.symm.trans (jn_mono hs h3)))
/-- One wire in another one's place. -/
theorem Fo.turn [DecidableEq α] {n : Nat} {i f : α} {l : List α} (h : Fo e n l) (hi : (e i).1 < n ∧ (e i).2 < n) (hf : f ∈ l) (hn : ¬ Jn e (l.erase f) (e i).1 (e i).2) : Fo e n (i :: l.erase f) :=
  (fo_cons hi).2 ⟨h.sub List.erase_sublist, hn⟩
end Go.Wire

/-
  Two trees on all places, or a way to divide the places that too few wires cross. (Plain.)
-/
namespace Go.Wire
variable {e : Nat → Nat × Nat} {n m : Nat}

/-- Two forests without a common wire. -/
structure Pk (e : Nat → Nat × Nat) (n m : Nat) (P : Bool → List Nat) : Prop where
  fo : ∀ b, Fo e n (P b)
  lt : ∀ b, ∀ i ∈ P b, i < m
  dj : ∀ b, ∀ i ∈ P b, i ∉ P (!b)
def szP (P : Bool → List Nat) : Nat := (P true).length + (P false).length
def upd (P : Bool → List Nat) (b : Bool) (l : List Nat) : Bool → List Nat := fun c => if c = b then l else P c
theorem upd_eq (P : Bool → List Nat) (b : Bool) (l : List Nat) : upd P b l b = l := if_pos rfl
theorem upd_ne (P : Bool → List Nat) (b : Bool) (l : List Nat) : upd P b l (!b) = P (!b) := by cases b <;> rfl
theorem szP_b (P : Bool → List Nat) (b : Bool) : szP P = (P b).length + (P (!b)).length := by
  cases b
  · exact Nat.add_comm _ _
  · rfl
structure Opt (e : Nat → Nat × Nat) (n m : Nat) (P : Bool → List Nat) : Prop extends Pk e n m P where
  most : ∀ Q, Pk e n m Q → szP Q ≤ szP P
theorem Pk.put {P : Bool → List Nat} {b : Bool} {l : List Nat} (h : Pk e n m P) (hl : Fo e n l) (hm : ∀ i ∈ l, i < m) (hd : ∀ i ∈ l, i ∉ P (!b)) : Pk e n m (upd P b l) := by
  refine ⟨fun c => ?_, fun c i hi => ?_, fun c i hi => ?_⟩
  · by_cases k : c = b
    · subst k; rw [upd_eq]; exact hl
    · have k : c = !b := by revert k; cases c <;> cases b <;> simp
      subst k; rw [upd_ne]; exact h.fo _
  · by_cases k : c = b
    · subst k; rw [upd_eq] at hi; exact hm i hi
    · have k : c = !b := by revert k; cases c <;> cases b <;> simp
      subst k; rw [upd_ne] at hi; exact h.lt _ i hi
  · by_cases k : c = b
    · subst k; rw [upd_eq] at hi; rw [upd_ne]; exact hd i hi
    · have k : c = !b := by revert k; cases c <;> cases b <;> simp
      subst k; rw [upd_ne] at hi; rw [Bool.not_not, upd_eq]; exact fun hi2 => hd i hi2 hi
/-- One wire that is not used in another one's place. -/
def turnP (P : Bool → List Nat) (b : Bool) (i f : Nat) : Bool → List Nat := upd P b (i :: (P b).erase f)
inductive Rc (e : Nat → Nat × Nat) (n m : Nat) (P : Bool → List Nat) : (Bool → List Nat) → Prop
  | base : Rc e n m P P
  | turn {Q : Bool → List Nat} {b : Bool} {i f : Nat} : Rc e n m P Q → i < m → (∀ c, i ∉ Q c) → f ∈ Q b → Fo e n (i :: (Q b).erase f) → Rc e n m P (turnP Q b i f)
/-- The wires' ends are places. -/
def Ends (e : Nat → Nat × Nat) (n m : Nat) : Prop := ∀ i, i < m → (e i).1 < n ∧ (e i).2 < n
theorem Opt.turn {Q : Bool → List Nat} {b : Bool} {i f : Nat} (h : Opt e n m Q) (hi : i < m) (hn : ∀ c, i ∉ Q c) (hf : f ∈ Q b) (hfo : Fo e n (i :: (Q b).erase f)) : Opt e n m (turnP Q b i f) ∧ ∀ c, f ∉ turnP Q b i f c := by
  have hfi : f ≠ i := fun k => hn b (k ▸ hf)
  have hnd := (h.fo b).nodup
  refine ⟨⟨h.put hfo (fun j hj => ?_) (fun j hj => ?_), fun Z hZ => ?_⟩, fun c => ?_⟩
  · rcases List.mem_cons.1 hj with rfl | hj
    · exact hi
    · exact h.lt b j (List.mem_of_mem_erase hj)
  · rcases List.mem_cons.1 hj with rfl | hj
    · exact hn _
    · exact h.dj b j (List.mem_of_mem_erase hj)
  · refine Nat.le_trans (h.most Z hZ) ?_
    rw [szP_b Q b, szP_b (turnP Q b i f) b]
    unfold turnP
    rw [upd_eq, upd_ne, List.length_cons, List.length_erase_of_mem hf]
    have := List.length_pos_of_mem hf
    omega
  · unfold turnP
    by_cases k : c = b
    · subst k
      rw [upd_eq]
      intro hc
      rcases List.mem_cons.1 hc with hc | hc
      · exact hfi hc
      · exact (List.Nodup.not_mem_erase hnd) hc
    · have k : c = !b := by revert k; cases c <;> cases b <;> simp
      subst k; rw [upd_ne]; exact h.dj b f hf
theorem Rc.opt {P Q : Bool → List Nat} (hP : Opt e n m P) (h : Rc e n m P Q) : Opt e n m Q := by
  induction h with
  | base => exact hP
  | turn _ hi hn hf hfo ih => exact (ih.turn hi hn hf hfo).1
/-- A wire that some pair does not use. -/
def Lo (e : Nat → Nat × Nat) (n m : Nat) (P : Bool → List Nat) (i : Nat) : Prop := ∃ Q, Rc e n m P Q ∧ i < m ∧ ∀ c, i ∉ Q c
theorem Opt.joined {Q : Bool → List Nat} (he : Ends e n m) (h : Opt e n m Q) {i : Nat} (hi : i < m) (hn : ∀ c, i ∉ Q c) (b : Bool) : Jn e (Q b) (e i).1 (e i).2 := by
  apply Classical.byContradiction
  intro k
  have hfo := (fo_cons (he i hi)).2 ⟨h.fo b, k⟩
  have h2 := h.most _ (h.toPk.put (b := b) hfo (fun j hj => by
    rcases List.mem_cons.1 hj with rfl | hj
    · exact hi
    · exact h.lt b j hj) (fun j hj => by
    rcases List.mem_cons.1 hj with rfl | hj
    · exact hn _
    · exact h.dj b j hj))
  rw [szP_b Q b, szP_b (upd Q b (i :: Q b)) b, upd_eq, upd_ne, List.length_cons] at h2
  omega
/-- A way of wires that some pair does not use. -/
theorem loose_way {P Q : Bool → List Nat} (he : Ends e n m) (hP : Opt e n m P) (hQ : Rc e n m P Q) {i : Nat} (hi : i < m) (hn : ∀ c, i ∉ Q c) (b : Bool) : ∃ M : List Nat, (∀ f ∈ M, f ∈ Q b ∧ Lo e n m P f) ∧ Jn e M (e i).1 (e i).2 := by
  have hO := hQ.opt hP
  obtain ⟨M, h1, h2, h3⟩ := least_join _ (Q b) (Nat.le_refl _) (hO.joined he hi hn b)
  refine ⟨M, fun f hf => ⟨h1.subset hf, ?_⟩, h2⟩
  have hfo := (hO.fo b).turn (he i hi) (h1.subset hf) ((hO.fo b).spare h1 hf h2 (h3 f hf))
  exact ⟨_, .turn hQ hi hn (h1.subset hf) hfo, hO.lt b f (h1.subset hf), (hO.turn hi hn (h1.subset hf) hfo).2⟩
/-- Joined by such wires of a forest. -/
def Jl (e : Nat → Nat × Nat) (n m : Nat) (P Q : Bool → List Nat) (b : Bool) (u v : Nat) : Prop := ∃ M : List Nat, (∀ f ∈ M, f ∈ Q b ∧ Lo e n m P f) ∧ Jn e M u v
theorem Jl.eqv (e : Nat → Nat × Nat) (n m : Nat) (P Q : Bool → List Nat) (b : Bool) : Eqv (Jl e n m P Q b) where
  refl u := ⟨[], fun f hf => absurd hf List.not_mem_nil, rfl⟩
  symm := fun ⟨M, h1, h2⟩ => ⟨M, h1, h2.symm⟩
  trans := fun ⟨M, h1, h2⟩ ⟨N, k1, k2⟩ => ⟨M ++ N, fun f hf => (List.mem_append.1 hf).elim (h1 f) (k1 f), (jn_mono (fun _ hj => List.mem_append_left _ hj) h2).trans (jn_mono (fun _ hj => List.mem_append_right _ hj) k2)⟩
theorem Jl.one {P Q : Bool → List Nat} {b : Bool} {f : Nat} (h1 : f ∈ Q b) (h2 : Lo e n m P f) : Jl e n m P Q b (e f).1 (e f).2 := ⟨[f], fun g hg => by rw [List.mem_singleton.1 hg]; exact ⟨h1, h2⟩, jn_mem (List.mem_singleton.2 rfl)⟩
theorem Jl.turn {P Q : Bool → List Nat} {b : Bool} {i f : Nat} (he : Ends e n m) (hP : Opt e n m P) (hQ : Rc e n m P Q) (hi : i < m) (hn : ∀ c, i ∉ Q c) (hf : f ∈ Q b) (hfo : Fo e n (i :: (Q b).erase f)) (c : Bool) (u v : Nat) : Jl e n m P (turnP Q b i f) c u v ↔ Jl e n m P Q c u v := by
  have hO := hQ.opt hP
  have hR : Rc e n m P (turnP Q b i f) := .turn hQ hi hn hf hfo
  have hfn := (hO.turn hi hn hf hfo).2
  have hfm := hO.lt b f hf
  have hLi : Lo e n m P i := ⟨Q, hQ, hi, hn⟩
  by_cases k : c = b
  · subst k
    constructor
    · rintro ⟨M, h1, h2⟩
      refine jn_least (Jl.eqv e n m P Q c) (fun j hj => ?_) h2
      obtain ⟨h3, h4⟩ := h1 j hj
      unfold turnP at h3
      rw [upd_eq] at h3
      rcases List.mem_cons.1 h3 with rfl | h3
      · exact loose_way he hP hQ hi hn c
      · exact Jl.one (List.mem_of_mem_erase h3) h4
    · rintro ⟨M, h1, h2⟩
      refine jn_least (Jl.eqv e n m P (turnP Q c i f) c) (fun j hj => ?_) h2
      obtain ⟨h3, h4⟩ := h1 j hj
      by_cases hjf : j = f
      · subst hjf
        exact loose_way he hP hR hfm hfn c
      · refine Jl.one ?_ h4
        unfold turnP
        rw [upd_eq]
        exact List.mem_cons_of_mem _ ((List.mem_erase_of_ne hjf).2 h3)
  · have k : c = !b := by revert k; cases c <;> cases b <;> simp
    subst k
    unfold Jl turnP
    rw [upd_ne]
theorem Jl.same {P Q : Bool → List Nat} (he : Ends e n m) (hP : Opt e n m P) (hQ : Rc e n m P Q) : ∀ (c : Bool) (u v : Nat), Jl e n m P Q c u v ↔ Jl e n m P P c u v := by
  induction hQ with
  | base => exact fun c u v => Iff.rfl
  | turn hQ hi hn hf hfo ih => exact fun c u v => (Jl.turn he hP hQ hi hn hf hfo c u v).trans (ih c u v)
theorem Jl.lo {P : Bool → List Nat} (he : Ends e n m) (hP : Opt e n m P) {i : Nat} (h : Lo e n m P i) (c : Bool) : Jl e n m P P c (e i).1 (e i).2 := by
  obtain ⟨Q, hQ, hi, hn⟩ := h
  exact (Jl.same he hP hQ c _ _).1 (loose_way he hP hQ hi hn c)
/-- A tree on all places. -/
def Tree (e : Nat → Nat × Nat) (n : Nat) (l : List Nat) : Prop := Fo e n l ∧ cp e n l = 1
/-- How many wires join places with different numbers. -/
def crs (e : Nat → Nat × Nat) (m : Nat) (q : Nat → Nat) : Nat := (List.range m).countP fun i => decide (q (e i).1 ≠ q (e i).2)
end Go.Wire

/-
  The switching game: more never harms; two trees win; who wins moving second has two trees. (Plain.)
-/
namespace Go.Wire
variable {e : Nat → Nat × Nat} {n m s t : Nat}

/-- Whether Short wins, with F free and K kept. -/
def Sw (e : Nat → Nat × Nat) (s t : Nat) : Nat → List Nat → List Nat → Bool → Prop
  | 0, _, K, _ => Jn e K s t
  | n + 1, F, K, true => ∀ i ∈ F, Sw e s t n (F.erase i) K false
  | n + 1, F, K, false => ∃ i ∈ F, Sw e s t n (F.erase i) (i :: K) true
theorem Sw.kept : ∀ {n : Nat} {F K K' : List Nat} {c : Bool}, (∀ i ∈ K, i ∈ K') → Sw e s t n F K c → Sw e s t n F K' c
  | 0, F, K, K', c, hs, h => jn_mono hs h
  | n + 1, F, K, K', true, hs, h => fun i hi => Sw.kept hs (h i hi)
  | n + 1, F, K, K', false, hs, ⟨i, hi, h⟩ => ⟨i, hi, Sw.kept (fun j hj => by
      rcases List.mem_cons.1 hj with rfl | hj
      · exact List.mem_cons_self ..
      · exact List.mem_cons_of_mem _ (hs j hj)) h⟩
theorem Sw.swap {n : Nat} {F K : List Nat} {i j : Nat} {c : Bool} (h : Sw e s t n F (i :: j :: K) c) : Sw e s t n F (j :: i :: K) c := Sw.kept (fun x hx => by
  simp only [List.mem_cons] at hx ⊢
  rcases hx with h | h | h
  · exact .inr (.inl h)
  · exact .inl h
  · exact .inr (.inr h)) h
structure More (e : Nat → Nat × Nat) (s t n : Nat) : Prop where
  to : ∀ {F K : List Nat}, F.length = n → Sw e s t n F K true → Sw e s t n F K false
  keep : ∀ {F K : List Nat} {w : Nat} {c : Bool}, F.length = n + 1 → w ∈ F → Sw e s t (n + 1) F K c → Sw e s t n (F.erase w) (w :: K) c
  cut : ∀ {F K : List Nat} {w : Nat} {c : Bool}, F.length = n + 1 → w ∈ F → Sw e s t n (F.erase w) K c → Sw e s t (n + 1) F K c
theorem one_mem {F : List Nat} {w i : Nat} (h : F.length = 1) (hw : w ∈ F) (hi : i ∈ F) : i = w := by
  obtain ⟨x, rfl⟩ := List.length_eq_one_iff.1 h
  rw [List.mem_singleton.1 hw, List.mem_singleton.1 hi]
theorem erase_in {F : List Nat} {w i : Nat} (hw : w ∈ F) (hi : i ∈ F.erase w) : w ∈ F.erase i := by
  by_cases h : w = i
  · subst h; exact hi
  · exact (List.mem_erase_of_ne h).2 hw
theorem Sw.more (e : Nat → Nat × Nat) (s t : Nat) : ∀ n, More e s t n
  | 0 => by
    have to : ∀ {F K : List Nat}, F.length = 0 → Sw e s t 0 F K true → Sw e s t 0 F K false := fun _ h => h
    refine ⟨to, fun {F K w c} hl hw h => ?_, fun {F K w c} hl hw h => ?_⟩
    · cases c
      · obtain ⟨i, hi, h⟩ := h
        obtain rfl := one_mem hl hw hi
        exact h
      · exact jn_mono (fun j hj => List.mem_cons_of_mem _ hj) (h w hw)
    · cases c
      · exact ⟨w, hw, jn_mono (fun j hj => List.mem_cons_of_mem _ hj) h⟩
      · intro i hi
        exact h
  | n + 1 => by
    have ih := Sw.more e s t n
    have to : ∀ {F K : List Nat}, F.length = n + 1 → Sw e s t (n + 1) F K true → Sw e s t (n + 1) F K false := fun {F K} hl h => by
      cases F with
      | nil => cases hl
      | cons i F => exact ⟨i, List.mem_cons_self .., ih.keep hl (List.mem_cons_self ..) h⟩
    refine ⟨to, fun {F K w c} hl hw h => ?_, fun {F K w c} hl hw h => ?_⟩
    · have hle : (F.erase w).length = n + 1 := by rw [List.length_erase_of_mem hw, hl]; rfl
      cases c
      · obtain ⟨i, hi, h⟩ := h
        by_cases k : i = w
        · subst k; exact to hle h
        · have hiw : i ∈ F.erase w := (List.mem_erase_of_ne k).2 hi
          have hle2 : (F.erase i).length = n + 1 := by rw [List.length_erase_of_mem hi, hl]; rfl
          refine ⟨i, hiw, ?_⟩
          rw [List.erase_comm]
          exact Sw.swap (ih.keep hle2 (erase_in hw hiw) h)
      · intro i hi
        have hiF := List.mem_of_mem_erase hi
        have hle2 : (F.erase i).length = n + 1 := by rw [List.length_erase_of_mem hiF, hl]; rfl
        rw [List.erase_comm]
        exact ih.keep hle2 (erase_in hw hi) (h i hiF)
    · have hle : (F.erase w).length = n + 1 := by rw [List.length_erase_of_mem hw, hl]; rfl
      cases c
      · obtain ⟨i, hi, h⟩ := h
        have hiF := List.mem_of_mem_erase hi
        have hle2 : (F.erase i).length = n + 1 := by rw [List.length_erase_of_mem hiF, hl]; rfl
        refine ⟨i, hiF, ?_⟩
        rw [List.erase_comm] at h
        exact ih.cut hle2 (erase_in hw hi) h
      · intro i hi
        have hle2 : (F.erase i).length = n + 1 := by rw [List.length_erase_of_mem hi, hl]; rfl
        by_cases k : i = w
        · subst k; exact to hle h
        · have hiw : i ∈ F.erase w := (List.mem_erase_of_ne k).2 hi
          have h := h i hiw
          rw [List.erase_comm] at h
          exact ih.cut hle2 (erase_in hw hiw) h
theorem exch {f b : Nat} {l : List Nat} (h : Jn e (f :: l) (e b).1 (e b).2) (hn : ¬ Jn e l (e b).1 (e b).2) : Jn e (b :: l) (e f).1 (e f).2 := by
  have up : ∀ {x y}, Jn e l x y → Jn e (b :: l) x y := fun h => jn_mono (fun j hj => List.mem_cons_of_mem _ hj) h
  have hb : Jn e (b :: l) (e b).1 (e b).2 := jn_mem (List.mem_cons_self ..)
  rcases jn_cons.1 h with h | ⟨h1, h2⟩ | ⟨h1, h2⟩
  · exact absurd h hn
  · exact (up h1).symm.trans (hb.trans (up h2).symm)
  · exact (up h2).trans (hb.symm.trans (up h1))
/-- Two ways to join some places, with no free wire in common. -/
structure SI (e : Nat → Nat × Nat) (X : Nat → Prop) (F K A B : List Nat) : Prop where
  a : ∀ i ∈ A, i ∈ F
  b : ∀ i ∈ B, i ∈ F
  dj : ∀ i ∈ A, i ∉ B
  ae : ∀ i ∈ A, X (e i).1 ∧ X (e i).2
  be : ∀ i ∈ B, X (e i).1 ∧ X (e i).2
  aj : ∀ {u v}, X u → X v → Jn e (K ++ A) u v
  bj : ∀ {u v}, X u → X v → Jn e (K ++ B) u v
theorem SI.swap {X : Nat → Prop} {F K A B : List Nat} (h : SI e X F K A B) : SI e X F K B A := ⟨h.b, h.a, fun i hb ha => h.dj i ha hb, h.be, h.ae, h.bj, h.aj⟩
theorem SI.pass {X : Nat → Prop} {F K A B : List Nat} (h : SI e X F K A B) {b : Nat} : SI e X (F.erase b) (b :: K) (A.filter fun j => decide (j ≠ b)) (B.filter fun j => decide (j ≠ b)) := by
  have key : ∀ {C : List Nat} {u v : Nat}, Jn e (K ++ C) u v → Jn e ((b :: K) ++ C.filter fun j => decide (j ≠ b)) u v := fun {C u v} hj => jn_mono (fun j hj => by
    by_cases k : j = b
    · subst k; exact List.mem_append_left _ (List.mem_cons_self ..)
    · rcases List.mem_append.1 hj with hj | hj
      · exact List.mem_append_left _ (List.mem_cons_of_mem _ hj)
      · exact List.mem_append_right _ (List.mem_filter.2 ⟨hj, decide_eq_true k⟩)) hj
  exact ⟨fun i hi => (List.mem_erase_of_ne (of_decide_eq_true (List.mem_filter.1 hi).2)).2 (h.a i (List.mem_filter.1 hi).1), fun i hi => (List.mem_erase_of_ne (of_decide_eq_true (List.mem_filter.1 hi).2)).2 (h.b i (List.mem_filter.1 hi).1), fun i hi hb => h.dj i (List.mem_filter.1 hi).1 (List.mem_filter.1 hb).1, fun i hi => h.ae i (List.mem_filter.1 hi).1, fun i hi => h.be i (List.mem_filter.1 hi).1, fun hu hv => key (h.aj hu hv), fun hu hv => key (h.bj hu hv)⟩
/-- The reply to a cut wire. -/
theorem SI.reply {X : Nat → Prop} {F K A B : List Nat} (h : SI e X F K A B) {c : Nat} (hc : c ∈ A) (hn : ¬ Jn e (K ++ A.filter fun j => decide (j ≠ c)) (e c).1 (e c).2) : ∃ b ∈ B, b ≠ c ∧ SI e X ((F.erase c).erase b) (b :: K) (A.filter fun j => decide (j ≠ c)) (B.filter fun j => decide (j ≠ b)) := by
  obtain ⟨xc1, xc2⟩ := h.ae c hc
  obtain ⟨A', hA'⟩ : ∃ A', A' = A.filter fun j => decide (j ≠ c) := ⟨_, rfl⟩
  rw [← hA'] at hn ⊢
  have hex : ∃ b ∈ B, ¬ Jn e (K ++ A') (e b).1 (e b).2 := by
    apply Classical.byContradiction
    intro hno
    refine hn (jn_least (Jn.eqv _) (fun i hi => ?_) (h.bj xc1 xc2))
    rcases List.mem_append.1 hi with hi | hi
    · exact jn_mem (List.mem_append_left _ hi)
    · exact Classical.byContradiction fun k => hno ⟨i, hi, k⟩
  obtain ⟨b, hb, hbn⟩ := hex
  have hbc : b ≠ c := fun k => h.dj c hc (k ▸ hb)
  have hcA : ∀ {u v}, Jn e (K ++ A) u v → Jn e (c :: (K ++ A')) u v := fun hj => jn_mono (fun j hj => by
    by_cases k : j = c
    · exact k ▸ List.mem_cons_self ..
    · refine List.mem_cons_of_mem _ ?_
      rcases List.mem_append.1 hj with hj | hj
      · exact List.mem_append_left _ hj
      · exact List.mem_append_right _ (hA' ▸ List.mem_filter.2 ⟨hj, decide_eq_true k⟩)) hj
  obtain ⟨xb1, xb2⟩ := h.be b hb
  have hx := exch (hcA (h.aj xb1 xb2)) hbn
  refine ⟨b, hb, hbc, fun i hi => ?_, fun i hi => ?_, fun i hi hi2 => ?_, fun i hi => ?_, fun i hi => h.be i (List.mem_filter.1 hi).1, fun hu hv => ?_, fun hu hv => ?_⟩
  · rw [hA'] at hi
    obtain ⟨h1, h2⟩ := List.mem_filter.1 hi
    exact (List.mem_erase_of_ne (fun k : i = b => h.dj i h1 (k ▸ hb))).2 ((List.mem_erase_of_ne (of_decide_eq_true h2)).2 (h.a i h1))
  · obtain ⟨h1, h2⟩ := List.mem_filter.1 hi
    exact (List.mem_erase_of_ne (of_decide_eq_true h2)).2 ((List.mem_erase_of_ne (fun k : i = c => h.dj c hc (k ▸ h1))).2 (h.b i h1))
  · rw [hA'] at hi
    exact h.dj i (List.mem_filter.1 hi).1 (List.mem_filter.1 hi2).1
  · rw [hA'] at hi
    exact h.ae i (List.mem_filter.1 hi).1
  · refine jn_least (Jn.eqv _) (fun i hi => ?_) (hcA (h.aj hu hv))
    rcases List.mem_cons.1 hi with rfl | hi
    · exact jn_mono (fun j hj => hj) hx
    · exact jn_mem (List.mem_cons_of_mem _ hi)
  · refine jn_mono (fun j hj => ?_) (h.bj hu hv)
    by_cases k : j = b
    · exact k ▸ List.mem_append_left _ (List.mem_cons_self ..)
    · rcases List.mem_append.1 hj with hj | hj
      · exact List.mem_append_left _ (List.mem_cons_of_mem _ hj)
      · exact List.mem_append_right _ (List.mem_filter.2 ⟨hj, decide_eq_true k⟩)
theorem SI.cutA {X : Nat → Prop} {F K A B : List Nat} (h : SI e X F K A B) {c : Nat} (hc : c ∈ A) (hj : Jn e (K ++ A.filter fun j => decide (j ≠ c)) (e c).1 (e c).2) : SI e X (F.erase c) K (A.filter fun j => decide (j ≠ c)) B := by
  refine ⟨fun i hi => ?_, fun i hi => (List.mem_erase_of_ne (fun k : i = c => h.dj c hc (k ▸ hi))).2 (h.b i hi), fun i hi => h.dj i (List.mem_filter.1 hi).1, fun i hi => h.ae i (List.mem_filter.1 hi).1, h.be, fun hu hv => ?_, h.bj⟩
  · obtain ⟨h1, h2⟩ := List.mem_filter.1 hi
    exact (List.mem_erase_of_ne (of_decide_eq_true h2)).2 (h.a i h1)
  · refine jn_least (Jn.eqv _) (fun i hi => ?_) (h.aj hu hv)
    by_cases k : i = c
    · exact k ▸ hj
    · rcases List.mem_append.1 hi with hi | hi
      · exact jn_mem (List.mem_append_left _ hi)
      · exact jn_mem (List.mem_append_right _ (List.mem_filter.2 ⟨hi, decide_eq_true k⟩))
theorem SI.cutN {X : Nat → Prop} {F K A B : List Nat} (h : SI e X F K A B) {c : Nat} (ha : c ∉ A) (hb : c ∉ B) : SI e X (F.erase c) K A B :=
  ⟨fun i hi => (List.mem_erase_of_ne (fun k : i = c => ha (k ▸ hi))).2 (h.a i hi), fun i hi => (List.mem_erase_of_ne (fun k : i = c => hb (k ▸ hi))).2 (h.b i hi), h.dj, h.ae, h.be, h.aj, h.bj⟩
theorem SI.joined {X : Nat → Prop} {K A B : List Nat} (h : SI e X [] K A B) {u v : Nat} (hu : X u) (hv : X v) : Jn e K u v :=
  jn_mono (fun i hi => by
    rcases List.mem_append.1 hi with hi | hi
    · exact hi
    · exact absurd (h.a i hi) List.not_mem_nil) (h.aj hu hv)
/-- Two trees win. -/
theorem SI.wins {X : Nat → Prop} (hs : X s) (ht : X t) : ∀ (k n : Nat) {F K A B : List Nat}, n ≤ k → F.length = n → SI e X F K A B → Sw e s t n F K true
  | k, 0, F, K, A, B, _, hl, h => by
    obtain rfl := List.length_eq_zero_iff.1 hl
    exact h.joined hs ht
  | 0, n + 1, F, K, A, B, hk, hl, h => by omega
  | k + 1, n + 1, F, K, A, B, hk, hl, h => by
    intro c hc
    have hlc : (F.erase c).length = n := by rw [List.length_erase_of_mem hc, hl]; rfl
    cases n with
    | zero =>
      show Jn e K s t
      have h0 : F = [c] := by
        obtain ⟨x, rfl⟩ := List.length_eq_one_iff.1 hl
        rw [List.mem_singleton.1 hc]
      subst h0
      by_cases hca : c ∈ A
      · refine jn_mono (fun i hi => ?_) (h.bj hs ht)
        rcases List.mem_append.1 hi with hi | hi
        · exact hi
        · have := List.mem_singleton.1 (h.b i hi)
          exact absurd (this ▸ hi) (h.dj c hca)
      · refine jn_mono (fun i hi => ?_) (h.aj hs ht)
        rcases List.mem_append.1 hi with hi | hi
        · exact hi
        · have := List.mem_singleton.1 (h.a i hi)
          exact absurd (this ▸ hi) hca
    | succ n =>
      have go : ∀ {A B : List Nat}, SI e X (F.erase c) K A B → Sw e s t (n + 1) (F.erase c) K false := fun {A B} h2 => by
        cases hF : F.erase c with
        | nil => rw [hF] at hlc; cases hlc
        | cons b G =>
          rw [hF] at h2
          refine ⟨b, List.mem_cons_self .., SI.wins hs ht k n (by omega) ?_ (h2.pass (b := b))⟩
          rw [List.length_erase_of_mem (List.mem_cons_self ..), ← hF, hlc]; rfl
      have two : ∀ {A B : List Nat}, SI e X F K A B → c ∈ A → Sw e s t (n + 1) (F.erase c) K false := fun {A B} h2 hca => by
        by_cases hj : Jn e (K ++ A.filter fun j => decide (j ≠ c)) (e c).1 (e c).2
        · exact go (h2.cutA hca hj)
        · obtain ⟨b, hb, hbc, h3⟩ := h2.reply hca hj
          have hbF : b ∈ F.erase c := (List.mem_erase_of_ne hbc).2 (h2.b b hb)
          exact ⟨b, hbF, SI.wins hs ht k n (by omega) (by rw [List.length_erase_of_mem hbF, hlc]; rfl) h3⟩
      by_cases hca : c ∈ A
      · exact two h hca
      · by_cases hcb : c ∈ B
        · exact two h.swap hcb
        · exact go (h.cutN hca hcb)
end Go.Wire

/-
  Lehman's theorem: who wins moving second has two trees. (Plain.)
-/
namespace Go.Wire
variable {e : Nat → Nat × Nat} {n m s t z : Nat}

/-- Cut wins, with the other one to move: what is free is two forests with the wire between the ends (z), and wires that join nothing more. -/
structure CS (e : Nat → Nat × Nat) (n z : Nat) (F K A B L : List Nat) : Prop where
  k : ∀ i ∈ K, Jn e L (e i).1 (e i).2
  f : ∀ i ∈ F, i ∈ A ∨ i ∈ B ∨ Jn e L (e i).1 (e i).2
  a : Fo e n (z :: (A ++ L))
  b : Fo e n (z :: (B ++ L))
/-- Cut to move: one wire may be too much. -/
structure CC (e : Nat → Nat × Nat) (n z : Nat) (F K A B L : List Nat) : Prop where
  k : ∀ i ∈ K, Jn e L (e i).1 (e i).2
  f : ∀ i ∈ F, i ∈ A ∨ i ∈ B ∨ Jn e L (e i).1 (e i).2
  a : Fo e n (z :: (A ++ L))
  b : Fo e n (z :: (B ++ L)) ∨ ∃ b ∈ B, Fo e n (z :: (B.erase b ++ L))
theorem CS.swap {F K A B L : List Nat} (h : CS e n z F K A B L) : CS e n z F K B A L := ⟨h.k, fun i hi => by
  rcases h.f i hi with h | h | h
  · exact .inr (.inl h)
  · exact .inl h
  · exact .inr (.inr h), h.b, h.a⟩
/-- Two lists without a common wire, forests, that join the same places, the ends among them. -/
structure Pair (e : Nat → Nat × Nat) (n m s t : Nat) (A B : List Nat) : Prop where
  fa : Fo e n A
  fb : Fo e n B
  la : ∀ i ∈ A, i < m
  lb : ∀ i ∈ B, i < m
  dj : ∀ i ∈ A, i ∉ B
  same : ∀ u v, Jn e A u v ↔ Jn e B u v
  st : Jn e A s t
theorem Fo.same {A B C : List Nat} (hA : Fo e n (C ++ A)) (hB : Fo e n B) (h : ∀ u v, Jn e A u v ↔ Jn e B u v) : Fo e n (C ++ B) := by
  have hin : In e n (C ++ B) := fun i hi => by
    rcases List.mem_append.1 hi with hi | hi
    · exact hA.1 i (List.mem_append_left _ hi)
    · exact hB.1 i hi
  have hA0 : Fo e n A := hA.sub (List.sublist_append_right ..)
  have key : ∀ {A B : List Nat}, (∀ u v, Jn e A u v ↔ Jn e B u v) → ∀ {u v}, Jn e (C ++ A) u v → Jn e (C ++ B) u v := fun {A B} h {u v} hj => jn_least (Jn.eqv _) (fun i hi => by
    rcases List.mem_append.1 hi with hi | hi
    · exact jn_mem (List.mem_append_left _ hi)
    · exact jn_mono (fun j hj => List.mem_append_right _ hj) ((h _ _).1 (jn_mem hi))) hj
  have h1 : cp e n (C ++ A) = cp e n (C ++ B) := cp_congr fun u v => ⟨key h, key fun u v => (h u v).symm⟩
  have h2 : cp e n A = cp e n B := cp_congr h
  have h3 := hA.2
  have h4 := hA0.2
  have h5 := hB.2
  rw [List.length_append] at h3
  exact ⟨hin, by rw [← h1, List.length_append]; omega⟩
end Go.Wire

/-
  Wires as pairs of places: what one made short does to them. (Plain.)
-/
namespace Go.Wire

abbrev Wr := Nat × Nat

/-- What a place becomes when b becomes a. -/
def plc (a b x : Nat) : Nat := if x = b then a else if b < x then x - 1 else x
def cw (a b : Nat) (w : Wr) : Wr := (min (plc a b w.1) (plc a b w.2), max (plc a b w.1) (plc a b w.2))

/-- The wires that are left when one is made short. -/
def shW (a b : Nat) (W : List Wr) : List Wr := (W.filter fun w => decide (plc a b w.1 ≠ plc a b w.2)).map (cw a b)
end Go.Wire

/-
  Wires as pairs of places: a wire made short; trees with and without a wire; two trees as lists of wires. (Plain.)
-/
namespace Go.Wire

theorem lb_map {α : Type} (e : α → Nat × Nat) : ∀ (l : List α) (u : Nat), lb (id : Wr → Wr) (l.map e) u = lb e l u
  | [], _ => rfl
  | i :: l, u => by
    have h1 := lb_map e l u
    have h2 := lb_map e l (e i).1
    have h3 := lb_map e l (e i).2
    show (if lb id (l.map e) u = max (lb id (l.map e) (e i).1) (lb id (l.map e) (e i).2) then min (lb id (l.map e) (e i).1) (lb id (l.map e) (e i).2) else lb id (l.map e) u) = _
    rw [h1, h2, h3]; rfl
theorem jn_map {α : Type} (e : α → Nat × Nat) {l : List α} {u v : Nat} : Jn (id : Wr → Wr) (l.map e) u v ↔ Jn e l u v := by
  unfold Jn; rw [lb_map, lb_map]
theorem fo_map {α : Type} (e : α → Nat × Nat) {n : Nat} {l : List α} : Fo (id : Wr → Wr) n (l.map e) ↔ Fo e n l := by
  unfold Fo
  refine and_congr ⟨fun h i hi => h (e i) (List.mem_map.2 ⟨i, hi, rfl⟩), fun h w hw => ?_⟩ ?_
  · obtain ⟨i, hi, rfl⟩ := List.mem_map.1 hw
    exact h i hi
  · rw [List.length_map]
    have : cp (id : Wr → Wr) n (l.map e) = cp e n l := List.countP_congr fun u _ => by rw [lb_map]
    rw [this]

theorem plc_eq {a b u v : Nat} (hab : a < b) : plc a b u = plc a b v ↔ u = v ∨ (u = a ∧ v = b) ∨ (u = b ∧ v = a) := by
  unfold plc
  split <;> split <;> (try split) <;> (try split) <;> omega
theorem plc_sur {a b : Nat} (hab : a < b) (y : Nat) : ∃ u, plc a b u = y := by
  by_cases h : y < b
  · exact ⟨y, by unfold plc; rw [if_neg (by omega), if_neg (by omega)]⟩
  · exact ⟨y + 1, by unfold plc; rw [if_neg (by omega), if_pos (by omega)]; omega⟩
theorem plc_lt {a b n x : Nat} (hab : a < b) (hb : b < n) (hx : x < n) : plc a b x < n - 1 := by
  unfold plc
  split
  · omega
  · split <;> omega
theorem cw_lt {a b n : Nat} {w : Wr} (hab : a < b) (hb : b < n) (h : w.1 < n ∧ w.2 < n) : (cw a b w).1 < n - 1 ∧ (cw a b w).2 < n - 1 := by
  have h1 := plc_lt hab hb h.1
  have h2 := plc_lt hab hb h.2
  unfold cw
  exact ⟨by show min _ _ < _; omega, by show max _ _ < _; omega⟩
theorem jn_ends {l : List Wr} {a b : Nat} (w : Wr) : Jn id l (cw a b w).1 (cw a b w).2 ↔ Jn id l (plc a b w.1) (plc a b w.2) := by
  show Jn id l (min (plc a b w.1) (plc a b w.2)) (max (plc a b w.1) (plc a b w.2)) ↔ _
  rcases Nat.le_total (plc a b w.1) (plc a b w.2) with h | h
  · rw [Nat.min_eq_left h, Nat.max_eq_right h]
  · rw [Nat.min_eq_right h, Nat.max_eq_left h]
    exact ⟨Jn.symm, Jn.symm⟩
theorem jn_short {a b : Nat} (hab : a < b) {L : List Wr} {u v : Nat} : Jn id (L.map (cw a b)) (plc a b u) (plc a b v) ↔ Jn id (L ++ [(a, b)]) u v := by
  have hw : Jn (id : Wr → Wr) (L ++ [(a, b)]) a b := jn_mem (e := (id : Wr → Wr)) (i := (a, b)) (by simp)
  have hsame : ∀ {u v}, plc a b u = plc a b v → Jn (id : Wr → Wr) (L ++ [(a, b)]) u v := fun {u v} h => by
    rcases (plc_eq hab).1 h with rfl | ⟨rfl, rfl⟩ | ⟨rfl, rfl⟩
    · exact Jn.refl _ _
    · exact hw
    · exact hw.symm
  constructor
  · intro h
    refine jn_least (R := fun x y => ∀ u v, plc a b u = x → plc a b v = y → Jn (id : Wr → Wr) (L ++ [(a, b)]) u v) ⟨fun x u v hu hv => hsame (hu.trans hv.symm), fun h u v hu hv => (h v u hv hu).symm, fun {x y z} h1 h2 u v hu hv => ?_⟩ (fun w hw => ?_) h u v rfl rfl
    · obtain ⟨q, hq⟩ := plc_sur hab y
      exact (h1 u q hu hq).trans (h2 q v hq hv)
    · obtain ⟨x, hx, rfl⟩ := List.mem_map.1 hw
      have hj : Jn (id : Wr → Wr) (L ++ [(a, b)]) x.1 x.2 := jn_mem (e := (id : Wr → Wr)) (List.mem_append_left _ hx)
      show ∀ u v, plc a b u = min (plc a b x.1) (plc a b x.2) → plc a b v = max (plc a b x.1) (plc a b x.2) → _
      intro u v hu hv
      rcases Nat.le_total (plc a b x.1) (plc a b x.2) with h | h
      · rw [Nat.min_eq_left h] at hu
        rw [Nat.max_eq_right h] at hv
        exact (hsame hu).trans (hj.trans (hsame hv).symm)
      · rw [Nat.min_eq_right h] at hu
        rw [Nat.max_eq_left h] at hv
        exact (hsame hu).trans (hj.symm.trans (hsame hv).symm)
  · refine jn_least (R := fun u v => Jn id (L.map (cw a b)) (plc a b u) (plc a b v)) ⟨fun _ => rfl, Eq.symm, Eq.trans⟩ (fun w hw => ?_)
    rcases List.mem_append.1 hw with hw | hw
    · exact (jn_ends w).1 (jn_mem (e := (id : Wr → Wr)) (List.mem_map.2 ⟨w, hw, rfl⟩))
    · rw [List.mem_singleton.1 hw]
      show Jn id _ (plc a b a) (plc a b b)
      rw [(plc_eq hab).2 (.inr (.inl ⟨rfl, rfl⟩))]; rfl
theorem fo_short {a b n : Nat} (hab : a < b) (hb : b < n) : ∀ {L : List Wr}, In (id : Wr → Wr) n L → (Fo id (n - 1) (L.map (cw a b)) ↔ Fo id n (L ++ [(a, b)]))
  | [], _ => by
    refine ⟨fun _ => (fo_cons (e := (id : Wr → Wr)) (i := (a, b)) ⟨by show a < n; omega, hb⟩).2 ⟨Fo.nil n, fun h => ?_⟩, fun _ => Fo.nil _⟩
    have : a = b := h
    omega
  | w :: L, h => by
    have ih := fo_short hab hb h.tail
    have hw := h w (List.mem_cons_self ..)
    show Fo id (n - 1) (cw a b w :: L.map (cw a b)) ↔ Fo id n (w :: (L ++ [(a, b)]))
    refine (fo_cons (e := (id : Wr → Wr)) (i := cw a b w) (cw_lt hab hb hw)).trans (Iff.trans ?_ (fo_cons (e := (id : Wr → Wr)) hw).symm)
    refine and_congr ih (not_congr ?_)
    exact (jn_ends w).trans (jn_short hab)

/-- A tree on all places. -/
def treeB (n : Nat) (L : List Wr) : Bool := decide (cp id n L + L.length = n) && decide (L.length + 1 = n)
/-- How many choices of wires there are, with some chosen before. -/
def cS (P : List Wr → Bool) : List Wr → List Wr → Nat
  | [], L => if P L then 1 else 0
  | w :: W, L => cS P W L + cS P W (w :: L)
/-- Two trees, as lists of wires. -/
structure PairL (n s t : Nat) (W A B C : List Wr) : Prop where
  sub : (A ++ (B ++ C)).Perm W
  fa : Fo (id : Wr → Wr) n A
  fb : Fo (id : Wr → Wr) n B
  same : ∀ u v, Jn (id : Wr → Wr) A u v ↔ Jn (id : Wr → Wr) B u v
  st : Jn (id : Wr → Wr) A s t
theorem rest_of_sub {l l' : List Nat} (hn : l.Nodup) (hs : ∀ i ∈ l, i ∈ l') (hn' : l'.Nodup) : (l ++ l'.filter fun i => decide (i ∉ l)).Perm l' := by
  refine (List.perm_ext_iff_of_nodup (List.nodup_append.2 ⟨hn, hn'.sublist List.filter_sublist, fun i hi j hj hij => ?_⟩) hn').2 fun i => ?_
  · subst hij
    exact of_decide_eq_true (List.mem_filter.1 hj).2 hi
  · rw [List.mem_append, List.mem_filter]
    constructor
    · rintro (h | h)
      · exact hs i h
      · exact h.1
    · intro h
      by_cases c : i ∈ l
      · exact .inl c
      · exact .inr ⟨h, decide_eq_true c⟩
theorem perm_lift {α β : Type} {f : α → β} {L K : List β} (h : L.Perm K) : ∀ I : List α, K = I.map f → ∃ J : List α, J.Perm I ∧ J.map f = L := by
  induction h with
  | nil => intro I hI; exact ⟨[], by rw [List.map_eq_nil_iff.1 hI.symm], rfl⟩
  | cons x _ ih =>
    intro I hI
    cases I with
    | nil => cases hI
    | cons i I =>
      rw [List.map_cons] at hI
      injection hI with h1 h2
      obtain ⟨J, h3, h4⟩ := ih I h2
      exact ⟨i :: J, h3.cons i, by rw [List.map_cons, h4, h1]⟩
  | swap x y l =>
    intro I hI
    cases I with
    | nil => cases hI
    | cons i I =>
      rw [List.map_cons] at hI
      injection hI with h1 h2
      cases I with
      | nil => cases h2
      | cons j I =>
        rw [List.map_cons] at h2
        injection h2 with h2 h3
        exact ⟨j :: i :: I, List.Perm.swap .., by rw [List.map_cons, List.map_cons, ← h1, ← h2, ← h3]⟩
  | trans _ _ ih1 ih2 =>
    intro I hI
    obtain ⟨J, h1, h2⟩ := ih2 I hI
    obtain ⟨M, h3, h4⟩ := ih1 J h2.symm
    exact ⟨M, h3.trans h1, h4⟩
theorem PairL.toI {e : Nat → Nat × Nat} {n m s t : Nat} {A B C : List Wr} (h : PairL n s t ((List.range m).map e) A B C) : ∃ A' B', Pair e n m s t A' B' ∧ A'.map e = A ∧ B'.map e = B := by
  obtain ⟨J, h1, h2⟩ := perm_lift h.sub _ rfl
  have h3 := List.map_eq_append_iff.1 h2
  obtain ⟨A', J2, rfl, rfl, h4⟩ := h3
  obtain ⟨B', C', rfl, rfl, rfl⟩ := List.map_eq_append_iff.1 h4
  have hnd := (h1.nodup_iff).2 List.nodup_range
  have hlt : ∀ i ∈ A' ++ (B' ++ C'), i < m := fun i hi => List.mem_range.1 (h1.mem_iff.1 hi)
  refine ⟨A', B', ⟨(fo_map e).1 h.fa, (fo_map e).1 h.fb, fun i hi => hlt i (List.mem_append_left _ hi), fun i hi => hlt i (List.mem_append_right _ (List.mem_append_left _ hi)), fun i hi hi2 => ?_, fun u v => (jn_map e).symm.trans ((h.same u v).trans (jn_map e)), (jn_map e).1 h.st⟩, rfl, rfl⟩
  exact (List.nodup_append.1 hnd).2.2 i hi i (List.mem_append_left _ hi2) rfl
theorem PairL.perm {n s t : Nat} {W W' A B C : List Wr} (h : PairL n s t W A B C) (hp : W.Perm W') : PairL n s t W' A B C := ⟨h.sub.trans hp, h.fa, h.fb, h.same, h.st⟩
/-- A wire of one tree is cut, and one of the other tree is made short. -/
theorem PairL.short {n s t a b : Nat} {W A B C : List Wr} (hab : a < b) (hb : b < n) (hn : In (id : Wr → Wr) n C) (sub : (A ++ (B ++ C)).Perm W) (fa : Fo (id : Wr → Wr) n (A ++ [(a, b)])) (fb : Fo (id : Wr → Wr) n (B ++ [(a, b)])) (same : ∀ u v, Jn (id : Wr → Wr) (A ++ [(a, b)]) u v ↔ Jn (id : Wr → Wr) (B ++ [(a, b)]) u v) (st : Jn (id : Wr → Wr) (A ++ [(a, b)]) s t) : PairL (n - 1) (plc a b s) (plc a b t) (shW a b W) (A.map (cw a b)) (B.map (cw a b)) (shW a b C) := by
  have key : ∀ {A : List Wr}, Fo (id : Wr → Wr) n (A ++ [(a, b)]) → A.filter (fun w => decide (plc a b w.1 ≠ plc a b w.2)) = A := fun {A} h => by
    refine List.filter_eq_self.2 fun w hw => decide_eq_true fun k => ?_
    have hp : (A ++ [(a, b)]).Perm (w :: (A.erase w ++ [(a, b)])) := (List.perm_cons_erase hw).append_right _
    refine (h.perm hp).head ((jn_short (L := A.erase w) hab).1 ?_)
    show Jn id _ (plc a b w.1) (plc a b w.2)
    rw [k]; rfl
  refine ⟨?_, (fo_short hab hb (fun w hw => fa.1 w (List.mem_append_left _ hw))).2 fa, (fo_short hab hb (fun w hw => fb.1 w (List.mem_append_left _ hw))).2 fb, fun x y => ?_, (jn_short hab).2 st⟩
  · have := (sub.filter fun w => decide (plc a b w.1 ≠ plc a b w.2)).map (cw a b)
    rw [List.filter_append, List.filter_append, key fa, key fb, List.map_append, List.map_append] at this
    exact this
  · obtain ⟨u, rfl⟩ := plc_sur hab x
    obtain ⟨v, rfl⟩ := plc_sur hab y
    rw [jn_short hab, jn_short hab]
    exact same u v
end Go.Wire

/-
  Plain: the games' wires as wires that join places; the number of trees as choices; two trees; who wins.
-/
namespace Go.Proofs.YtfphkpdobbffeaaDoor
open Go Go.AH Go.Wire
set_option maxRecDepth 100000
set_option maxHeartbeats 1000000

def eg (g : Gm) (i : Nat) : Nat × Nat := g.ws.getD i (0, 0)
theorem eg_ends {g : Gm} (hg : g.ok) : Wire.Ends (eg g) g.n g.ws.length := fun i hi => by
  have := hg.ends i hi
  exact ⟨by show (g.ws.getD i (0, 0)).1 < _; omega, this.2⟩
theorem eg_map (g : Gm) : (List.range g.ws.length).map (eg g) = g.ws := by
  refine List.ext_getElem (by simp) fun i h1 h2 => ?_
  rw [List.getElem_map, List.getElem_range, eg, List.getD_eq_getElem?_getD, List.getElem?_eq_getElem h2]; rfl
theorem root_fold {g : Gm} (hg : g.ok) : ∀ (l : List Nat), (∀ i ∈ l, i < g.ws.length) → ∀ u, u < 8 → root (((l.reverse).map Int.ofNat).foldl (joinF g) (aloneSt 8)) u = Wire.lb (eg g) l u
  | [], _, u, hu => alone_root hu
  | i :: l, h, u, hu => by
    have he := hg.ends i (h i (List.mem_cons_self ..))
    have h8 := hg.n8
    have ih := root_fold hg l fun j hj => h j (List.mem_cons_of_mem _ hj)
    have hG : Grp (((l.reverse).map Int.ofNat).foldl (joinF g) (aloneSt 8)) := Grp.fold hg _ _ Grp.alone fun y hy => by
      obtain ⟨j, hj, rfl⟩ := List.mem_map.1 hy
      exact h j (List.mem_cons_of_mem _ (List.mem_reverse.1 hj))
    rw [List.reverse_cons, List.map_append, List.foldl_append]
    show root (joinL _ (g.ws.getD i (0, 0)).1 (g.ws.getD i (0, 0)).2) u = _
    rw [root_joinL hG (by omega) (by omega) u hu, ih u hu, ih _ (show (g.ws.getD i (0, 0)).1 < 8 by omega), ih _ (show (g.ws.getD i (0, 0)).2 < 8 by omega)]
    rfl
theorem memN_lt {k n : Nat} (hk : k ≤ 10) (hn : n < 2 ^ k) {i : Nat} (hi : i ∈ memN n) : i < k := lt_len hn (List.mem_filter.1 hi).2
theorem memN_mem {n i : Nat} (hn : n < 1024) : i ∈ memN n ↔ n.testBit i = true := by
  rw [memN, List.mem_filter, List.mem_range]
  exact ⟨fun h => h.2, fun h => ⟨lt_len (k := 10) hn h, h⟩⟩
theorem memN_nodup (n : Nat) : (memN n).Nodup := List.Nodup.sublist List.filter_sublist List.nodup_range
theorem ws1024 {g : Gm} (hg : g.ok) : 2 ^ g.ws.length ≤ 1024 := Nat.pow_le_pow_right (by omega) hg.len
theorem root_lb {g : Gm} (hg : g.ok) {a : Nat} (ha : a < 2 ^ g.ws.length) {u : Nat} (hu : u < 8) : root (keptL g a) u = Wire.lb (eg g) (memN a).reverse u := by
  rw [← root_fold hg (memN a).reverse (fun i hi => memN_lt hg.len ha (List.mem_reverse.1 hi)) u hu, List.reverse_reverse]; rfl
theorem root_jn {g : Gm} (hg : g.ok) {a : Nat} (ha : a < 2 ^ g.ws.length) {u v : Nat} (hu : u < 8) (hv : v < 8) : root (keptL g a) u = root (keptL g a) v ↔ Wire.Jn (eg g) (memN a) u v := by
  rw [root_lb hg ha hu, root_lb hg ha hv]
  exact jn_perm (List.reverse_perm _)
theorem comps_cp {g : Gm} (hg : g.ok) {a : Nat} (ha : a < 2 ^ g.ws.length) : comps (keptL g a) g.n = cp (eg g) g.n (memN a) := by
  rw [← cp_congr (l := (memN a).reverse) (fun u v => jn_perm (List.reverse_perm _))]
  have h8 := hg.n8
  refine List.countP_congr fun u hu => ?_
  have := List.mem_range.1 hu
  rw [root_lb hg ha (by omega)]
theorem eg_in {g : Gm} (hg : g.ok) {a : Nat} (ha : a < 2 ^ g.ws.length) : In (eg g) g.n (memN a) := fun i hi => eg_ends hg i (memN_lt hg.len ha hi)
theorem acy_fo {g : Gm} (hg : g.ok) {a : Nat} (ha : a < 2 ^ g.ws.length) : acyF g (aloneSt 8) (mem a) = true ↔ Fo (eg g) g.n (memN a) := by
  have h := (acy_comps hg (mem a) (aloneSt 8) Grp.alone fun y hy => (mem_lt hg.len ha hy).2).2
  rw [show (mem a).foldl (joinF g) (aloneSt 8) = keptL g a from rfl, comps_alone hg.n8, comps_cp hg ha, show (mem a).length = (memN a).length by simp [mem]] at h
  rw [h]
  exact ⟨fun k => ⟨eg_in hg ha, k⟩, fun k => k.2⟩
/-- Who wins, as a game with wires. -/
theorem memN_off {f i : Nat} (hf : f < 1024) (hi : i < 10) : memN (offN f i) = (memN f).erase i := by
  rw [List.Nodup.erase_eq_filter (memN_nodup f), memN, memN, List.filter_filter]
  refine List.filter_congr fun j _ => ?_
  rw [offN_bit hf hi, Bool.and_comm]
  congr 1
  by_cases h : j = i <;> simp [h]
/-! Two trees. -/
theorem lone_lb {e : Nat → Nat × Nat} {l : List Nat} {u v : Nat} (h : ∀ i ∈ l, (e i).1 ≠ u ∧ (e i).2 ≠ u) (hj : Wire.Jn e l v u) : v = u := by
  have := jn_least (R := fun x y => x = y ∨ (x ≠ u ∧ y ≠ u)) ⟨fun _ => .inl rfl, fun h => by omega, fun h k => by omega⟩ (fun i hi => .inr (h i hi)) hj
  omega
theorem dec_jn {e : Nat → Nat × Nat} {A : List Nat} {x s : Nat} (h : decide (Wire.lb e A x = Wire.lb e A s) = true) : Wire.Jn e A x s := by
  show Wire.lb e A x = Wire.lb e A s
  exact of_decide_eq_true h
/-- The wires that join what is joined to s. -/
theorem at_s {e : Nat → Nat × Nat} {A : List Nat} {s u : Nat} (h : Wire.Jn e A u s) : Wire.Jn e (A.filter fun i => decide (Wire.lb e A (e i).1 = Wire.lb e A s)) u s := by
  have := jn_least (R := fun x y => (Wire.Jn e A x s ∧ Wire.Jn e A y s ∧ Wire.Jn e (A.filter fun i => decide (Wire.lb e A (e i).1 = Wire.lb e A s)) x y) ∨ (¬ Wire.Jn e A x s ∧ ¬ Wire.Jn e A y s)) ⟨fun x => by
      by_cases c : Wire.Jn e A x s
      · exact .inl ⟨c, c, rfl⟩
      · exact .inr ⟨c, c⟩, fun h => by
      rcases h with ⟨h1, h2, h3⟩ | ⟨h1, h2⟩
      · exact .inl ⟨h2, h1, h3.symm⟩
      · exact .inr ⟨h2, h1⟩, fun h k => by
      rcases h with ⟨h1, h2, h3⟩ | ⟨h1, h2⟩
      · rcases k with ⟨k1, k2, k3⟩ | ⟨k1, k2⟩
        · exact .inl ⟨h1, k2, h3.trans k3⟩
        · exact absurd h2 k1
      · rcases k with ⟨k1, k2, k3⟩ | ⟨k1, k2⟩
        · exact absurd k1 h2
        · exact .inr ⟨h1, k2⟩⟩ (l := A) (fun i hi => by
      have hij : Wire.Jn e A (e i).1 (e i).2 := jn_mem hi
      by_cases c : Wire.Jn e A (e i).1 s
      · exact .inl ⟨c, hij.symm.trans c, jn_mem (List.mem_filter.2 ⟨hi, decide_eq_true c⟩)⟩
      · exact .inr ⟨c, fun k => c (hij.trans k)⟩) h
  rcases this with ⟨_, _, h3⟩ | ⟨h1, _⟩
  · exact h3
  · exact absurd h h1
def bm : List Nat → Nat
  | [] => 0
  | i :: l => bm l ||| 2 ^ i
theorem bm_bit (j : Nat) : ∀ l : List Nat, (bm l).testBit j = decide (j ∈ l)
  | [] => by simp [bm]
  | i :: l => by
    rw [bm, or_bit, bm_bit j l, Bool.eq_iff_iff]
    simp only [Bool.or_eq_true, decide_eq_true_eq, List.mem_cons]
    exact Or.comm
theorem bm_lt {m : Nat} : ∀ {l : List Nat}, (∀ i ∈ l, i < m) → bm l < 2 ^ m
  | [], _ => Nat.pow_pos (by omega)
  | i :: l, h => or_lt (bm_lt fun j hj => h j (List.mem_cons_of_mem _ hj)) ((Nat.pow_lt_pow_iff_right (by omega)).2 (h i (List.mem_cons_self ..)))
theorem bm_perm {l : List Nat} (hn : l.Nodup) (h : ∀ i ∈ l, i < 10) : (memN (bm l)).Perm l := by
  refine (List.perm_ext_iff_of_nodup (memN_nodup _) hn).2 fun i => ?_
  rw [memN_mem (bm_lt (m := 10) h), bm_bit, decide_eq_true_eq]
theorem end_iff {g : Gm} {a u : Nat} (ha : a < 1024) : (placesN g a).testBit u = true ↔ ∃ i ∈ memN a, (eg g i).1 = u ∨ (eg g i).2 = u := by
  rw [places_any, List.any_eq_true]
  constructor
  · rintro ⟨y, hy, h⟩
    obtain ⟨i, hi, rfl⟩ := List.mem_map.1 hy
    refine ⟨i, hi, ?_⟩
    simpa [endOf, eg] using h
  · rintro ⟨i, hi, h⟩
    exact ⟨(i : Int), List.mem_map.2 ⟨i, hi, rfl⟩, by simpa [endOf, eg] using h⟩
/-- A forest on one group of places is a tree on them. -/
theorem tree_group {g : Gm} (hg : g.ok) {a : Nat} (ha : a < 2 ^ g.ws.length) (hfo : Fo (eg g) g.n (memN a)) {s : Nat} (hsp : (placesN g a).testBit s = true) (hall : ∀ u, (placesN g a).testBit u = true → Wire.Jn (eg g) (memN a) u s) : isTreeB g a (placesN g a) = true := by
  have hp := ws1024 hg
  have h8 := hg.n8
  have hpl := places_ltn hg ha
  have hc : cp (eg g) g.n (memN a) + pop (placesN g a) = g.n + 1 := by
    have h1 := countP_split (fun u => decide (Wire.lb (eg g) (memN a) u = u)) (placesN g a).testBit (List.range g.n)
    have h2 : (List.range g.n).countP (fun u => decide (Wire.lb (eg g) (memN a) u = u) && (placesN g a).testBit u) = 1 := by
      rw [← show (if Wire.lb (eg g) (memN a) s < g.n then 1 else 0) = 1 from if_pos (Nat.lt_of_le_of_lt (lb_le _ _) (lt_len hpl hsp)), ← cnt_is (Wire.lb (eg g) (memN a) s) g.n]
      refine List.countP_congr fun u hu => ?_
      simp only [Bool.and_eq_true, decide_eq_true_eq]
      constructor
      · rintro ⟨k1, k2⟩
        have k3 : Wire.lb (eg g) (memN a) u = Wire.lb (eg g) (memN a) s := hall u k2
        omega
      · intro k
        subst k
        refine ⟨lb_lb _ _, ?_⟩
        cases hb : (placesN g a).testBit (Wire.lb (eg g) (memN a) s) with
        | true => rfl
        | false =>
          have hl : s = Wire.lb (eg g) (memN a) s := lone_lb (e := eg g) (l := memN a) (fun i hi => by
            constructor
            · intro h; rw [(end_iff (by omega)).2 ⟨i, hi, .inl h⟩] at hb; cases hb
            · intro h; rw [(end_iff (by omega)).2 ⟨i, hi, .inr h⟩] at hb; cases hb) (lb_lb (e := eg g) (memN a) s).symm
          rw [← hl, hsp] at hb; cases hb
    have h3 : (List.range g.n).countP (fun u => decide (Wire.lb (eg g) (memN a) u = u) && !(placesN g a).testBit u) = (List.range g.n).countP (fun u => !(placesN g a).testBit u) := by
      refine List.countP_congr fun u hu => ?_
      simp only [Bool.and_eq_true, decide_eq_true_eq, Bool.not_eq_true']
      refine ⟨fun k => k.2, fun k => ⟨?_, k⟩⟩
      exact (lone_lb (e := eg g) (l := memN a) (fun i hi => by
        constructor
        · intro h; rw [(end_iff (by omega)).2 ⟨i, hi, .inl h⟩] at k; cases k
        · intro h; rw [(end_iff (by omega)).2 ⟨i, hi, .inr h⟩] at k; cases k) (lb_lb (e := eg g) (memN a) u))
    have h4 := List.length_eq_countP_add_countP (l := List.range g.n) (placesN g a).testBit
    rw [pop_cnt (by omega) hpl, List.length_range] at h4
    have h5 : (List.range g.n).countP (fun u => decide ¬ (placesN g a).testBit u = true) = (List.range g.n).countP (fun u => !(placesN g a).testBit u) := List.countP_congr fun u _ => by simp
    rw [h5] at h4
    rw [cp, h1, h2, h3]; omega
  have h6 := hfo.2
  have h7 : (memN a).length = pop a := rfl
  rw [isTreeB, (acy_fo hg ha).2 hfo, decide_eq_true rfl, decide_eq_true (by omega)]; rfl
theorem pair_trees {g : Gm} (hg : g.ok) (hst : g.s ≠ g.t) {A B : List Nat} (h : Pair (eg g) g.n g.ws.length g.s g.t A B) : treesF g (alT g) ≠ none := by
  have hp := ws1024 hg
  have h10 := hg.len
  have key : ∀ {A : List Nat}, Fo (eg g) g.n A → (∀ i ∈ A, i < g.ws.length) → Wire.Jn (eg g) A g.s g.t → ∃ a, a < 2 ^ g.ws.length ∧ (∀ i, a.testBit i = true → i ∈ A) ∧ (∀ u, (placesN g a).testBit u = true ↔ Wire.Jn (eg g) A u g.s) ∧ isTreeB g a (placesN g a) = true := fun {A} fa la st => by
    obtain ⟨A1, hA1⟩ : ∃ A1, A1 = A.filter fun i => decide (Wire.lb (eg g) A (eg g i).1 = Wire.lb (eg g) A g.s) := ⟨_, rfl⟩
    have f1 : Fo (eg g) g.n A1 := fa.sub (hA1 ▸ List.filter_sublist)
    have l1 : ∀ i ∈ A1, i ∈ A ∧ Wire.Jn (eg g) A (eg g i).1 g.s := fun i hi => by
      rw [hA1] at hi
      exact ⟨(List.mem_filter.1 hi).1, dec_jn (List.mem_filter.1 hi).2⟩
    have ha : bm A1 < 2 ^ g.ws.length := bm_lt fun i hi => la i (l1 i hi).1
    have hpm := bm_perm f1.nodup (fun i hi => by have := la i (l1 i hi).1; omega)
    have f2 : Fo (eg g) g.n (memN (bm A1)) := f1.perm hpm.symm
    have hj : ∀ u, Wire.Jn (eg g) A u g.s → Wire.Jn (eg g) (memN (bm A1)) u g.s := fun u hu => (jn_perm hpm).2 (hA1 ▸ at_s hu)
    have hpl : ∀ u, (placesN g (bm A1)).testBit u = true ↔ Wire.Jn (eg g) A u g.s := fun u => by
      rw [end_iff (by omega)]
      constructor
      · rintro ⟨i, hi, h⟩
        obtain ⟨h1, h2⟩ := l1 i (hpm.mem_iff.1 hi)
        rcases h with rfl | rfl
        · exact h2
        · exact (jn_mem (e := eg g) h1).symm.trans h2
      · intro hu
        apply Classical.byContradiction
        intro hno
        have hl : ∀ i ∈ memN (bm A1), (eg g i).1 ≠ u ∧ (eg g i).2 ≠ u := fun i hi => ⟨fun k => hno ⟨i, hi, .inl k⟩, fun k => hno ⟨i, hi, .inr k⟩⟩
        have e1 := lone_lb hl (hj u hu).symm
        have e2 := lone_lb hl ((hj g.t st.symm).trans (hj u hu).symm)
        omega
    refine ⟨bm A1, ha, fun i hi => ?_, hpl, tree_group hg ha f2 ((hpl _).2 rfl) fun u hu => hj u ((hpl u).1 hu)⟩
    rw [bm_bit, decide_eq_true_eq] at hi
    exact (l1 i hi).1
  obtain ⟨a, a1, a2, a3, a4⟩ := key h.fa h.la h.st
  obtain ⟨b, b1, b2, b3, b4⟩ := key h.fb h.lb ((h.same _ _).1 h.st)
  have hpe : placesN g a = placesN g b := Nat.eq_of_testBit_eq fun u => by
    rw [Bool.eq_iff_iff, a3, b3]; exact h.same _ _
  have hab : a &&& b = 0 := Nat.eq_of_testBit_eq fun i => by
    rw [Nat.testBit_and, Nat.zero_testBit]
    cases h1 : a.testBit i
    · rfl
    · cases h2 : b.testBit i
      · rfl
      · exact absurd (b2 i h2) (h.dj i (a2 i h1))
  have ne0 : ∀ {a : Nat}, (placesN g a).testBit g.s = true → a ≠ 0 := fun {a} h k => by
    subst k
    rw [end_iff (by omega), memN_zero] at h
    obtain ⟨i, hi, _⟩ := h
    exact absurd hi List.not_mem_nil
  have hal : alT g (placesN g a) = true := by
    rw [alT, decide_eq_true_eq, endsN, ends_iff]
    exact ⟨(a3 _).2 rfl, (a3 _).2 h.st.symm⟩
  have hsa := (a3 g.s).2 rfl
  have go : ∀ {a b : Nat}, a < b → b < 2 ^ g.ws.length → alT g (placesN g a) = true → a ≠ 0 → isTreeB g a (placesN g a) = true → a &&& b = 0 → isTreeB g b (placesN g a) = true → treesF g (alT g) ≠ none := fun {a b} hlt hb hal h0 ht hab htb hn => by
    have h1 := firstFrom_none hn a (Nat.zero_le _) (by omega)
    rw [okA, if_neg (by rw [hal, ht]; simp [h0])] at h1
    have h2 := firstFrom_none h1 b hlt (by omega)
    rw [okB, if_pos ⟨hab, htb⟩] at h2
    cases h2
  rcases Nat.lt_trichotomy a b with k | k | k
  · exact go k b1 hal (ne0 hsa) a4 hab (hpe ▸ b4)
  · subst k
    rw [Nat.and_self] at hab
    exact absurd hab (ne0 hsa)
  · exact go k a1 (hpe ▸ hal) (ne0 (hpe ▸ hsa)) b4 (by rw [Nat.and_comm]; exact hab) (hpe ▸ a4)
theorem trees_pair {g : Gm} (hg : g.ok) (hst : g.s ≠ g.t) {a b : Nat} (h : treesF g (alT g) = some (a, b)) : Pair (eg g) g.n g.ws.length g.s g.t (memN a) (memN b) := by
  have hp := ws1024 hg
  have h8 := hg.n8
  obtain ⟨h1, h2, h3, h4, h5, h6, h7⟩ := treesF_lt hg.len h
  have ha : a < 2 ^ g.ws.length := by omega
  rw [alT, decide_eq_true_eq, endsN, ends_iff] at h4
  have hpl := places_ltn hg ha
  have hpop : 2 ≤ pop (placesN g a) := pop_two (by have := Nat.pow_le_pow_right (show 0 < 2 by omega) h8; omega) hst h4.1 h4.2
  have hfo : ∀ {c : Nat}, c < 2 ^ g.ws.length → isTreeB g c (placesN g a) = true → Fo (eg g) g.n (memN c) ∧ placesN g c = placesN g a ∧ oneG (keptL g c) (placesN g a) := fun {c} hc h => by
    have k := h
    rw [isTreeB, Bool.and_eq_true, Bool.and_eq_true, decide_eq_true_eq, acy_fo hg hc] at k
    rw [tree_pl hg hc hpl hpop, treeR_iff hg hc hpl] at h
    exact ⟨k.2, k.1.1, h.2.1⟩
  obtain ⟨fa, _, oa⟩ := hfo ha h5
  obtain ⟨fb, pb, ob⟩ := hfo h3 h7
  have jn : ∀ {c d : Nat}, c < 2 ^ g.ws.length → d < 2 ^ g.ws.length → placesN g c = placesN g a → oneG (keptL g d) (placesN g a) → ∀ u v, Wire.Jn (eg g) (memN c) u v → Wire.Jn (eg g) (memN d) u v := fun {c d} hc hd hpc hod u v hj => by
    refine jn_least (Jn.eqv _) (fun i hi => ?_) hj
    have e1 : (placesN g a).testBit (eg g i).1 = true := by rw [← hpc]; exact (end_iff (by omega)).2 ⟨i, hi, .inl rfl⟩
    have e2 : (placesN g a).testBit (eg g i).2 = true := by rw [← hpc]; exact (end_iff (by omega)).2 ⟨i, hi, .inr rfl⟩
    have l1 := lt_len hpl e1
    have l2 := lt_len hpl e2
    exact (root_jn hg hd (by omega) (by omega)).1 (hod _ _ e1 e2)
  have ls := lt_len hpl h4.1
  have lt := lt_len hpl h4.2
  refine ⟨fa, fb, fun i hi => memN_lt hg.len ha hi, fun i hi => memN_lt hg.len h3 hi, fun i hi hi2 => ?_, fun u v => ⟨jn ha h3 rfl ob u v, jn h3 ha pb oa u v⟩, (root_jn hg ha (by omega) (by omega)).1 (oa _ _ h4.1 h4.2)⟩
  rw [memN_mem (by omega)] at hi hi2
  have := congrArg (fun x => x.testBit i) h6
  simp [hi, hi2] at this
/-! Lehman. -/
/-- One wire more, between the ends. -/
def ez (g : Gm) (i : Nat) : Nat × Nat := if i = g.ws.length then (g.s, g.t) else eg g i
end Go.Proofs.YtfphkpdobbffeaaDoor
