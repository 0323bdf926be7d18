/-
  Plain law: who wins, without shortcuts.
-/
import Derived.Test.YtfphkpdobbffeaaDoorSw4
import Derived.Test.YtfphkpdobbffeaaDoorAh6
import Derived.Laws.RangeString
set_option linter.unusedSimpArgs false
set_option linter.unusedVariables false
namespace Go.Proofs.YtfphkpdobbffeaaDoor
open Go Go.AH
set_option maxRecDepth 100000
set_option maxHeartbeats 1000000

theorem mem_iff {n : Nat} (hn : n < 1024) {y : Int} : y ∈ mem n ↔ ∃ i : Nat, y = (i : Int) ∧ n.testBit i = true := by
  constructor
  · intro h
    obtain ⟨i, hi, rfl⟩ := List.mem_map.1 h
    exact ⟨i, rfl, (List.mem_filter.1 hi).2⟩
  · rintro ⟨i, rfl, hi⟩
    exact List.mem_map.2 ⟨i, List.mem_filter.2 ⟨List.mem_range.2 (lt_len (k := 10) (by omega) hi), hi⟩, rfl⟩
/-- Who wins, by playing to the end. -/
def WR (g : Gm) : Nat → Nat → Nat → Bool → Bool
  | 0, _, k, _ => joinedB g k
  | n + 1, f, k, c => if f = 0 then joinedB g k else ((mem f).any fun w => WR g n (offN f w.toNat) (if c then k else k ||| 2 ^ w.toNat) (!c) != c) != c
end Go.Proofs.YtfphkpdobbffeaaDoor

/-
  Contracts: positions as strings, for the reference.
-/
namespace Go.Proofs.YtfphkpdobbffeaaDoor
open Go Go.AH
set_option maxRecDepth 100000
set_option maxHeartbeats 1000000

def posL (n f k : Nat) : List UInt8 := (List.range n).map fun i => if f.testBit i then 46 else if k.testBit i then 43 else 45
def posB (n f k : Nat) : ByteArray := ⟨(posL n f k).toArray⟩
def dots (i : Nat) : ByteArray := ⟨(List.replicate i (46 : UInt8)).toArray⟩
/-- The number of a position. -/
def codeN : Nat → Nat → Nat → Nat
  | 0, _, _ => 0
  | n + 1, f, k => 3 * codeN n f k + if f.testBit n then 0 else if k.testBit n then 1 else 2
theorem codeN_lt (f k : Nat) : ∀ n, codeN n f k < 3 ^ n
  | 0 => by simp [codeN]
  | n + 1 => by
    have := codeN_lt f k n
    rw [codeN, Nat.pow_succ]
    split
    · omega
    · split <;> omega
end Go.Proofs.YtfphkpdobbffeaaDoor

/-
  Contracts: the free wires of a position, the reference's Joined, Known, Put.
-/
namespace Go.Proofs.YtfphkpdobbffeaaDoor
open Go Go.AH
set_option maxRecDepth 100000
set_option maxHeartbeats 1000000

/-- The kept wires among the first. -/
def setTo (n f k : Nat) : Nat → Nat
  | 0 => 0
  | i + 1 => if f.testBit i = true then setTo n f k i else if k.testBit i = true then setTo n f k i ||| 2 ^ i else setTo n f k i
end Go.Proofs.YtfphkpdobbffeaaDoor

/-
  Contracts: the room for what is known, the free wires, a wire put.
-/
namespace Go.Proofs.YtfphkpdobbffeaaDoor
open Go Go.AH
set_option maxRecDepth 100000
set_option maxHeartbeats 1000000

end Go.Proofs.YtfphkpdobbffeaaDoor

/-
  Contract: the free wires of a position, for the reference.
-/
namespace Go.Proofs.YtfphkpdobbffeaaDoor
open Go Go.AH
set_option maxRecDepth 100000
set_option maxHeartbeats 1000000

def freeTo (f i : Nat) : List Int := ((List.range i).filter f.testBit).map Int.ofNat
def frV : List Int → AC
  | [] => .nils
  | _ :: l => .row 0 (l.length + 1)
def frH : List Int → List (Nat × ABlk)
  | [] => []
  | x :: l => [(0, .row 3 1 (ints (x :: l)))]
def frK : List Int → Nat
  | [] => 0
  | _ => 1
end Go.Proofs.YtfphkpdobbffeaaDoor

/-
  Contract: a wire put into a position, for the reference.
-/
namespace Go.Proofs.YtfphkpdobbffeaaDoor
open Go Go.AH
set_option maxRecDepth 100000
set_option maxHeartbeats 1000000

end Go.Proofs.YtfphkpdobbffeaaDoor

/-
  Plain law: positions with a wire cut or kept; the number of a position tells it.
-/
namespace Go.Proofs.YtfphkpdobbffeaaDoor
open Go Go.AH
set_option maxRecDepth 100000
set_option maxHeartbeats 1000000

theorem codeN_inj {f k f' k' : Nat} : ∀ n, codeN n f k = codeN n f' k' → ∀ i, i < n → f.testBit i = f'.testBit i ∧ (f.testBit i = false → k.testBit i = k'.testBit i)
  | 0, _, i, hi => by omega
  | n + 1, h, i, hi => by
    simp only [codeN] at h
    have hq : codeN n f k = codeN n f' k' ∧ (if f.testBit n then 0 else if k.testBit n then 1 else 2) = (if f'.testBit n then 0 else if k'.testBit n then 1 else 2) := by
      have h1 : (if f.testBit n then 0 else if k.testBit n then 1 else 2) < 3 := by split <;> (try split) <;> omega
      have h2 : (if f'.testBit n then 0 else if k'.testBit n then 1 else 2) < 3 := by split <;> (try split) <;> omega
      omega
    by_cases e : i = n
    · subst e
      have := hq.2
      revert this
      cases f.testBit i <;> cases f'.testBit i <;> cases k.testBit i <;> cases k'.testBit i <;> simp
    · exact codeN_inj n hq.1 i (by omega)
theorem pos_eq {n f k f' k' : Nat} (hf : f < 2 ^ n) (hk : k < 2 ^ n) (hf' : f' < 2 ^ n) (hk' : k' < 2 ^ n) (hd : ∀ i, f.testBit i = true → k.testBit i = false) (hd' : ∀ i, f'.testBit i = true → k'.testBit i = false) (h : codeN n f k = codeN n f' k') : f = f' ∧ k = k' := by
  have hi := codeN_inj n h
  have big : ∀ (a i : Nat), a < 2 ^ n → ¬ i < n → a.testBit i = false := fun a i ha hn => by
    cases h : a.testBit i with
    | false => rfl
    | true => exact absurd (lt_len ha h) hn
  refine ⟨Nat.eq_of_testBit_eq fun i => ?_, Nat.eq_of_testBit_eq fun i => ?_⟩
  · by_cases e : i < n
    · exact (hi i e).1
    · rw [big f i hf e, big f' i hf' e]
  · by_cases e : i < n
    · obtain ⟨a, b⟩ := hi i e
      cases h : f.testBit i with
      | true => rw [hd i h, hd' i (by rw [← a]; exact h)]
      | false => exact b h
    · rw [big k i hk e, big k' i hk' e]
/-- What is known: 1 where Short wins, 2 where not. -/
def KI (g : Gm) (L : List Int) : Prop := L.length = 2 * 3 ^ g.ws.length ∧ ∀ f k c, f < 2 ^ g.ws.length → k < 2 ^ g.ws.length → (∀ i, f.testBit i = true → k.testBit i = false) →
  L.getD (2 * codeN g.ws.length f k + c.toNat) 0 = 0 ∨ L.getD (2 * codeN g.ws.length f k + c.toNat) 0 = if W g f k c then 1 else 2
theorem KI.zero (g : Gm) : KI g (List.replicate (2 * 3 ^ g.ws.length) 0) := ⟨by simp, fun f k c _ _ _ => .inl (by
  simp only [List.getD_eq_getElem?_getD, List.getElem?_replicate]
  split <;> rfl)⟩
theorem KI.set {g : Gm} {L : List Int} (h : KI g L) {f k : Nat} {c : Bool} (hf : f < 2 ^ g.ws.length) (hk : k < 2 ^ g.ws.length) (hd : ∀ i, f.testBit i = true → k.testBit i = false) : KI g (L.set (2 * codeN g.ws.length f k + c.toNat) (if W g f k c then 1 else 2)) := by
  refine ⟨by rw [List.length_set]; exact h.1, fun f' k' c' hf' hk' hd' => ?_⟩
  have hl := codeN_lt f k g.ws.length
  have hc : c.toNat < 2 := by cases c <;> decide
  have hc' : c'.toNat < 2 := by cases c' <;> decide
  simp only [List.getD_eq_getElem?_getD, List.getElem?_set]
  by_cases e : 2 * codeN g.ws.length f k + c.toNat = 2 * codeN g.ws.length f' k' + c'.toNat
  · rw [if_pos e, if_pos (by rw [h.1]; omega)]
    obtain ⟨rfl, rfl⟩ := pos_eq hf hk hf' hk' hd hd' (by omega)
    have : c = c' := by
      have : c.toNat = c'.toNat := by omega
      revert this; cases c <;> cases c' <;> simp
    subst this
    exact .inr rfl
  · rw [if_neg e, ← List.getD_eq_getElem?_getD]
    exact h.2 f' k' c' hf' hk' hd'
end Go.Proofs.YtfphkpdobbffeaaDoor

/-
  Contract: who wins, by the reference.
-/
namespace Go.Proofs.YtfphkpdobbffeaaDoor
open Go Go.AH
set_option maxRecDepth 100000
set_option maxHeartbeats 1000000

def NK (g : Gm) : Nat := 2 * 3 ^ g.ws.length
def WOk (g : Gm) (f : Nat) : Prop := ∀ k c L, k < 2 ^ g.ws.length → (∀ i, f.testBit i = true → k.testBit i = false) → KI g L →
  FSpec Tryd.prog 44 [.g (gC g 0), .c (.str (posB g.ws.length f k)), .c (.bool c), .c (.sl 1 0 (NK g) (some (NK g)))] [(0, wB g), (1, .own (ints L))] 2
    (fun r2 hq k' => ∃ L' : List Int, KI g L' ∧ r2 = .c (.bool (W g f k c)) ∧ hq = [(1, .own (ints L'))] ∧ k' = 2)
end Go.Proofs.YtfphkpdobbffeaaDoor

/-
  Contract: the kind of a game, by the reference; the law SwitchKinds, as a contract.
-/
namespace Go.Proofs.YtfphkpdobbffeaaDoor
open Go Go.AH
set_option maxRecDepth 100000
set_option maxHeartbeats 1000000

end Go.Proofs.YtfphkpdobbffeaaDoor

/-
  Contracts: whether a string is a position, by the program.
-/
namespace Go.Proofs.YtfphkpdobbffeaaDoor
open Go Go.AH
set_option maxRecDepth 100000
set_option maxHeartbeats 1000000

def bs (l : List UInt8) : ByteArray := ⟨l.toArray⟩
def isP (c : UInt8) : Bool := c == 46 || c == 43 || c == 45
/-- The set of the three signs. -/
def asC : List AC := (((List.replicate 256 (AC.bool false)).set 46 (.bool true)).set 43 (.bool true)).set 45 (.bool true)
def trimR (l : List UInt8) : List UInt8 := (l.reverse.dropWhile isP).reverse
/-- What is left of a string. -/
def trimP (l : List UInt8) : List UInt8 := (trimR l).dropWhile isP
def asS : Nat → List AC
  | 0 => List.replicate 256 (.bool false)
  | 1 => (List.replicate 256 (AC.bool false)).set 46 (.bool true)
  | 2 => ((List.replicate 256 (AC.bool false)).set 46 (.bool true)).set 43 (.bool true)
  | _ => asC
end Go.Proofs.YtfphkpdobbffeaaDoor

/-
  Contracts: strings.Trim at the three signs; CheckPosition.
-/
namespace Go.Proofs.YtfphkpdobbffeaaDoor
open Go Go.AH
set_option maxRecDepth 100000
set_option maxHeartbeats 1000000

/-- A position, as bytes. -/
def okPos (n : Nat) (l : List UInt8) : Bool := l.length == n && l.all isP
end Go.Proofs.YtfphkpdobbffeaaDoor

/-
  Contracts: a position, as sets; read.
-/
namespace Go.Proofs.YtfphkpdobbffeaaDoor
open Go Go.AH
set_option maxRecDepth 100000
set_option maxHeartbeats 1000000

def bitsN (q : Nat → Bool) : Nat → Nat
  | 0 => 0
  | i + 1 => if q i = true then bitsN q i ||| 2 ^ i else bitsN q i
/-- The free wires, and the kept ones, of bytes. -/
def fB (n : Nat) (l : List UInt8) : Nat := bitsN (fun i => l.getD i 0 == 46) n
def kB (n : Nat) (l : List UInt8) : Nat := bitsN (fun i => l.getD i 0 == 43) n
end Go.Proofs.YtfphkpdobbffeaaDoor

/-
  Contracts: Position by the reference; the position of any string.
-/
namespace Go.Proofs.YtfphkpdobbffeaaDoor
open Go Go.AH
set_option maxRecDepth 100000
set_option maxHeartbeats 1000000

end Go.Proofs.YtfphkpdobbffeaaDoor

/-
  Contract: the position of any string.
-/
namespace Go.Proofs.YtfphkpdobbffeaaDoor
open Go Go.AH
set_option maxRecDepth 100000
set_option maxHeartbeats 1000000

def u8s (l : List UInt8) : List AC := l.map fun c => AC.int .u8 (c.toNat : Int)
/-- The sign of a byte. -/
def dig (l : List UInt8) (i : Nat) : UInt8 := if i < l.length then ([46, 43, 45] : List UInt8).getD ((l.getD i 0).toNat % 3) 0 else 46
def posOf (l : List UInt8) (n : Nat) : List UInt8 := (List.range n).map (dig l)
def uV : List UInt8 → AC
  | [] => .nils
  | _ :: l => .row 2 (l.length + 1)
def uH : List UInt8 → List (Nat × ABlk)
  | [] => []
  | x :: l => [(2, .row 5 1 (u8s (x :: l)))]
def uK : List UInt8 → Nat
  | [] => 2
  | _ => 3
theorem wBren (g : Gm) (q : Nat → Nat) : some (wB g) = some (ABlk.ren q (wB g)) := by rw [wB, ABlk.ren, ints_ren]
end Go.Proofs.YtfphkpdobbffeaaDoor

/-
  Contracts: Joined, Wins, Best, of any string.
-/
namespace Go.Proofs.YtfphkpdobbffeaaDoor
open Go Go.AH
set_option maxRecDepth 100000
set_option maxHeartbeats 1000000

end Go.Proofs.YtfphkpdobbffeaaDoor

/-
  Contracts at games without wires; the law SwitchPositions, as a contract.
-/
namespace Go.Proofs.YtfphkpdobbffeaaDoor
open Go Go.AH
set_option maxRecDepth 100000
set_option maxHeartbeats 1000000

end Go.Proofs.YtfphkpdobbffeaaDoor

/-
  Plain law: a tree on some places, by both.
-/
namespace Go.Proofs.YtfphkpdobbffeaaDoor
open Go Go.AH
set_option maxRecDepth 100000
set_option maxHeartbeats 1000000

/-- All places of pl lie in one group. -/
def oneG (xs : List Int) (pl : Nat) : Prop := ∀ u v, pl.testBit u = true → pl.testBit v = true → root xs u = root xs v
def rootsIn (xs : List Int) (pl n : Nat) : Nat := (List.range n).countP fun u => decide (root xs u = u) && pl.testBit u
end Go.Proofs.YtfphkpdobbffeaaDoor

/-
  Plain law: a cut tree is mended by a wire of the other one.
-/
namespace Go.Proofs.YtfphkpdobbffeaaDoor
open Go Go.AH
set_option maxRecDepth 100000
set_option maxHeartbeats 1000000

end Go.Proofs.YtfphkpdobbffeaaDoor

/-
  Wires that join places: what is joined, how many groups there are, forests. (Plain.)
-/
namespace Go.Wire

/-- The least place that is joined to a place. -/
def lb {α : Type} (e : α → Nat × Nat) : List α → Nat → Nat
  | [], u => u
  | i :: l, u => if lb e l u = max (lb e l (e i).1) (lb e l (e i).2) then min (lb e l (e i).1) (lb e l (e i).2) else lb e l u
def Jn {α : Type} (e : α → Nat × Nat) (l : List α) (u v : Nat) : Prop := lb e l u = lb e l v
variable {α : Type} {e : α → Nat × Nat}
theorem lb_le : ∀ (l : List α) (u : Nat), lb e l u ≤ u
  | [], u => Nat.le_refl u
  | i :: l, u => by
    have h := lb_le l u
    rw [lb]
    split
    · omega
    · exact h
theorem lb_hit {i : α} {l : List α} {u : Nat} (h : lb e l u = max (lb e l (e i).1) (lb e l (e i).2)) : lb e (i :: l) u = min (lb e l (e i).1) (lb e l (e i).2) := by rw [lb, if_pos h]
theorem lb_mis {i : α} {l : List α} {u : Nat} (h : lb e l u ≠ max (lb e l (e i).1) (lb e l (e i).2)) : lb e (i :: l) u = lb e l u := by rw [lb, if_neg h]
theorem lb_lb : ∀ (l : List α) (u : Nat), lb e l (lb e l u) = lb e l u
  | [], u => rfl
  | i :: l, u => by
    have h := lb_lb l u
    have hm : lb e l (min (lb e l (e i).1) (lb e l (e i).2)) = min (lb e l (e i).1) (lb e l (e i).2) := by
      rcases Nat.le_total (lb e l (e i).1) (lb e l (e i).2) with k | k
      · rw [Nat.min_eq_left k]; exact lb_lb l _
      · rw [Nat.min_eq_right k]; exact lb_lb l _
    by_cases c : lb e l u = max (lb e l (e i).1) (lb e l (e i).2)
    · rw [lb_hit c]
      by_cases d : lb e l (min (lb e l (e i).1) (lb e l (e i).2)) = max (lb e l (e i).1) (lb e l (e i).2)
      · exact lb_hit d
      · rw [lb_mis d, hm]
    · rw [lb_mis c, lb_mis (by rw [h]; exact c), h]
theorem jn_cons {i : α} {l : List α} {u v : Nat} : Jn e (i :: l) u v ↔ Jn e l u v ∨ (Jn e l u (e i).1 ∧ Jn e l (e i).2 v) ∨ (Jn e l u (e i).2 ∧ Jn e l (e i).1 v) := by
  unfold Jn
  simp only [lb]
  generalize lb e l u = x
  generalize lb e l v = y
  generalize lb e l (e i).1 = A
  generalize lb e l (e i).2 = B
  split <;> split <;> omega
theorem Jn.refl (l : List α) (u : Nat) : Jn e l u u := rfl
theorem Jn.symm {l : List α} {u v : Nat} (h : Jn e l u v) : Jn e l v u := Eq.symm h
theorem Jn.trans {l : List α} {u v w : Nat} (h : Jn e l u v) (k : Jn e l v w) : Jn e l u w := Eq.trans h k
theorem jn_mem : ∀ {l : List α} {i : α}, i ∈ l → Jn e l (e i).1 (e i).2
  | j :: l, i, h => by
    rw [jn_cons]
    rcases List.mem_cons.1 h with rfl | h
    · exact .inr (.inl ⟨rfl, rfl⟩)
    · exact .inl (jn_mem h)
structure Eqv (R : Nat → Nat → Prop) : Prop where
  refl : ∀ u, R u u
  symm : ∀ {u v}, R u v → R v u
  trans : ∀ {u v w}, R u v → R v w → R u w
theorem Jn.eqv (l : List α) : Eqv (Jn e l) := ⟨fun _ => rfl, Eq.symm, Eq.trans⟩
theorem jn_least {R : Nat → Nat → Prop} (hR : Eqv R) : ∀ {l : List α} {u v : Nat}, (∀ i ∈ l, R (e i).1 (e i).2) → Jn e l u v → R u v
  | [], u, v, _, h => by have : u = v := h; subst this; exact hR.refl u
  | i :: l, u, v, hl, h => by
    have ih : ∀ {x y}, Jn e l x y → R x y := fun h => jn_least hR (fun j hj => hl j (List.mem_cons_of_mem _ hj)) h
    have hi := hl i (List.mem_cons_self ..)
    rcases jn_cons.1 h with h | ⟨h1, h2⟩ | ⟨h1, h2⟩
    · exact ih h
    · exact hR.trans (ih h1) (hR.trans hi (ih h2))
    · exact hR.trans (ih h1) (hR.trans (hR.symm hi) (ih h2))
theorem jn_mono {l l' : List α} {u v : Nat} (hs : ∀ i ∈ l, i ∈ l') (h : Jn e l u v) : Jn e l' u v := jn_least (Jn.eqv l') (fun _ hi => jn_mem (hs _ hi)) h
theorem jn_perm {l l' : List α} {u v : Nat} (hp : l.Perm l') : Jn e l u v ↔ Jn e l' u v := ⟨jn_mono fun _ h => hp.mem_iff.1 h, jn_mono fun _ h => hp.mem_iff.2 h⟩
theorem lb_congr {l l' : List α} (h : ∀ u v, Jn e l u v ↔ Jn e l' u v) (u : Nat) : lb e l u = lb e l' u := by
  have h1 : Jn e l' u (lb e l u) := (h _ _).1 (lb_lb l u).symm
  have h2 : Jn e l u (lb e l' u) := (h _ _).2 (lb_lb l' u).symm
  have h3 : lb e l' u ≤ lb e l u := by rw [show lb e l' u = lb e l' (lb e l u) from h1]; exact lb_le _ _
  have h4 : lb e l u ≤ lb e l' u := by rw [show lb e l u = lb e l (lb e l' u) from h2]; exact lb_le _ _
  omega
/-- How many groups there are. -/
def cp {α : Type} (e : α → Nat × Nat) (n : Nat) (l : List α) : Nat := (List.range n).countP fun u => decide (lb e l u = u)
theorem cp_congr {n : Nat} {l l' : List α} (h : ∀ u v, Jn e l u v ↔ Jn e l' u v) : cp e n l = cp e n l' := by
  unfold cp
  refine List.countP_congr fun u _ => ?_
  rw [lb_congr h]
theorem cp_nil (n : Nat) : cp e n [] = n := by
  have : (List.range n).countP (fun u => decide (lb e [] u = u)) = (List.range n).length := List.countP_eq_length.2 fun u _ => decide_eq_true rfl
  rw [cp, this, List.length_range]
theorem cnt_rm (p : Nat → Bool) (M : Nat) (hp : p M = true) : ∀ n, (List.range n).countP (fun u => p u && decide (u ≠ M)) + (if M < n then 1 else 0) = (List.range n).countP p
  | 0 => rfl
  | n + 1 => by
    have ih := cnt_rm p M hp n
    simp only [List.range_succ, List.countP_append, List.countP_cons, List.countP_nil]
    by_cases e : n = M
    · subst e
      simp [hp] at ih ⊢
      omega
    · simp only [show (decide (n ≠ M)) = true by simp [e], Bool.and_true]
      rw [show (if M < n + 1 then 1 else 0) = (if M < n then 1 else 0) from by simp only [show (M < n + 1) ↔ M < n by omega]]
      omega
theorem cp_same {n : Nat} {i : α} {l : List α} (h : Jn e l (e i).1 (e i).2) : cp e n (i :: l) = cp e n l := by
  refine cp_congr fun u v => ⟨fun k => ?_, jn_mono fun j hj => List.mem_cons_of_mem _ hj⟩
  rcases jn_cons.1 k with k | ⟨k1, k2⟩ | ⟨k1, k2⟩
  · exact k
  · exact k1.trans (h.trans k2)
  · exact k1.trans (h.symm.trans k2)
theorem cp_less {n : Nat} {i : α} {l : List α} (h : ¬ Jn e l (e i).1 (e i).2) (ha : (e i).1 < n) (hb : (e i).2 < n) : cp e n (i :: l) + 1 = cp e n l := by
  have hA := lb_lb (e := e) l (e i).1
  have hB := lb_lb (e := e) l (e i).2
  have lA := lb_le (e := e) l (e i).1
  have lB := lb_le (e := e) l (e i).2
  have hne : lb e l (e i).1 ≠ lb e l (e i).2 := h
  have hM : lb e l (max (lb e l (e i).1) (lb e l (e i).2)) = max (lb e l (e i).1) (lb e l (e i).2) := by
    rcases Nat.le_total (lb e l (e i).1) (lb e l (e i).2) with k | k
    · rw [Nat.max_eq_right k]; exact hB
    · rw [Nat.max_eq_left k]; exact hA
  have hm : lb e l (min (lb e l (e i).1) (lb e l (e i).2)) = min (lb e l (e i).1) (lb e l (e i).2) := by
    rcases Nat.le_total (lb e l (e i).1) (lb e l (e i).2) with k | k
    · rw [Nat.min_eq_left k]; exact hA
    · rw [Nat.min_eq_right k]; exact hB
  have := cnt_rm (fun u => decide (lb e l u = u)) (max (lb e l (e i).1) (lb e l (e i).2)) (decide_eq_true hM) n
  rw [if_pos (by omega)] at this
  rw [cp, cp, ← this]
  congr 1
  refine List.countP_congr fun u _ => ?_
  rw [Bool.and_eq_true, decide_eq_true_eq, decide_eq_true_eq, decide_eq_true_eq]
  by_cases c : lb e l u = max (lb e l (e i).1) (lb e l (e i).2)
  · rw [lb_hit c]
    constructor
    · intro k; rw [← k, hm] at c; omega
    · rintro ⟨k1, k2⟩; omega
  · rw [lb_mis c]
    constructor
    · intro k; exact ⟨k, by omega⟩
    · exact fun k => k.1
theorem cp_pos {n : Nat} (hn : 0 < n) (l : List α) : 0 < cp e n l := by
  rw [cp, List.countP_pos_iff]
  exact ⟨0, List.mem_range.2 hn, decide_eq_true (by have := lb_le (e := e) l 0; omega)⟩
/-- The wires' ends are places. -/
def In {α : Type} (e : α → Nat × Nat) (n : Nat) (l : List α) : Prop := ∀ i ∈ l, (e i).1 < n ∧ (e i).2 < n
theorem In.tail {n : Nat} {i : α} {l : List α} (h : In e n (i :: l)) : In e n l := fun j hj => h j (List.mem_cons_of_mem _ hj)
theorem In.sub {n : Nat} {l l' : List α} (h : In e n l) (hs : ∀ i ∈ l', i ∈ l) : In e n l' := fun j hj => h j (hs j hj)
theorem cp_ge {n : Nat} : ∀ {l : List α}, In e n l → n ≤ cp e n l + l.length
  | [], _ => by rw [cp_nil]; exact Nat.le_refl _
  | i :: l, h => by
    have ih := cp_ge h.tail
    have hi := h i (List.mem_cons_self ..)
    rw [List.length_cons]
    by_cases c : Jn e l (e i).1 (e i).2
    · rw [cp_same c]; omega
    · have := cp_less c hi.1 hi.2; omega
/-- Wires without a ring. -/
def Fo {α : Type} (e : α → Nat × Nat) (n : Nat) (l : List α) : Prop := In e n l ∧ cp e n l + l.length = n
theorem Fo.nil (n : Nat) : Fo e n [] := ⟨fun i hi => absurd hi List.not_mem_nil, by rw [cp_nil]; rfl⟩
theorem fo_cons {n : Nat} {i : α} {l : List α} (hi : (e i).1 < n ∧ (e i).2 < n) : Fo e n (i :: l) ↔ Fo e n l ∧ ¬ Jn e l (e i).1 (e i).2 := by
  constructor
  · rintro ⟨h1, h2⟩
    have := cp_ge h1.tail
    rw [List.length_cons] at h2
    by_cases c : Jn e l (e i).1 (e i).2
    · rw [cp_same c] at h2; omega
    · have h3 := cp_less c hi.1 hi.2
      exact ⟨⟨h1.tail, by omega⟩, c⟩
  · rintro ⟨⟨h1, h2⟩, c⟩
    have h3 := cp_less c hi.1 hi.2
    refine ⟨fun j hj => ?_, by rw [List.length_cons]; omega⟩
    rcases List.mem_cons.1 hj with rfl | hj
    · exact hi
    · exact h1 j hj
theorem Fo.perm {n : Nat} {l l' : List α} (hp : l.Perm l') (h : Fo e n l) : Fo e n l' := by
  refine ⟨h.1.sub fun i hi => hp.mem_iff.2 hi, ?_⟩
  rw [cp_congr (fun u v => (jn_perm hp.symm)), ← hp.length_eq]; exact h.2
theorem Fo.tail {n : Nat} {i : α} {l : List α} (h : Fo e n (i :: l)) : Fo e n l := ((fo_cons (h.1 i (List.mem_cons_self ..))).1 h).1
theorem Fo.head {n : Nat} {i : α} {l : List α} (h : Fo e n (i :: l)) : ¬ Jn e l (e i).1 (e i).2 := ((fo_cons (h.1 i (List.mem_cons_self ..))).1 h).2
theorem Fo.sub {n : Nat} {l l' : List α} (hs : l'.Sublist l) : Fo e n l → Fo e n l' := by
  induction hs with
  | slnil => exact id
  | cons a _ ih => exact fun h => ih h.tail
  | cons_cons a hs ih =>
    intro h
    exact (fo_cons (h.1 _ (List.mem_cons_self ..))).2 ⟨ih h.tail, fun k => h.head (jn_mono (fun j hj => hs.subset hj) k)⟩
theorem Fo.nodup {n : Nat} : ∀ {l : List α}, Fo e n l → l.Nodup
  | [], _ => List.nodup_nil
  | i :: l, h => List.nodup_cons.2 ⟨fun hi => h.head (jn_mem hi), Fo.nodup h.tail⟩
theorem Fo.len {n : Nat} {l : List α} (hn : 0 < n) (h : Fo e n l) : l.length + 1 ≤ n := by
  have := cp_pos (e := e) hn l
  have := h.2
  omega
/-- Wires of which none can be spared. -/
theorem least_join [DecidableEq α] {x y : Nat} : ∀ (k : Nat) (l : List α), l.length ≤ k → Jn e l x y → ∃ M, M.Sublist l ∧ Jn e M x y ∧ ∀ f ∈ M, ¬ Jn e (M.erase f) x y
  | 0, l, hk, h => ⟨l, List.Sublist.refl l, h, fun f hf => by
      have : l = [] := List.length_eq_zero_iff.1 (by omega)
      rw [this] at hf
      exact absurd hf List.not_mem_nil⟩
  | k + 1, l, hk, h => by
    by_cases c : ∃ f ∈ l, Jn e (l.erase f) x y
    · obtain ⟨f, hf, hj⟩ := c
      obtain ⟨M, h1, h2, h3⟩ := least_join k (l.erase f) (by rw [List.length_erase_of_mem hf]; omega) hj
      exact ⟨M, h1.trans List.erase_sublist, h2, h3⟩
    · exact ⟨l, List.Sublist.refl l, h, fun f hf hj => c ⟨f, hf, hj⟩⟩
theorem Fo.spare [DecidableEq α] {n : Nat} {l M : List α} {x y : Nat} {f : α} (h : Fo e n l) (hM : M.Sublist l) (hf : f ∈ M) (h1 : Jn e M x y) (h2 : ¬ Jn e (M.erase f) x y) : ¬ Jn e (l.erase f) x y := by
  intro k
  have hfl := hM.subset hf
  have h0 : Fo e n (f :: l.erase f) := Fo.perm (List.perm_cons_erase hfl) h
  have hs : ∀ j ∈ M.erase f, j ∈ l.erase f := fun j hj => (hM.erase f).subset hj
  have h3 := (jn_perm (List.perm_cons_erase hf)).1 h1
  rcases jn_cons.1 h3 with h3 | ⟨h3, h4⟩ | ⟨h3, h4⟩
  · exact h2 h3
  · exact h0.head ((jn_mono hs h3).symm.trans (k.trans (jn_mono hs h4).symm))
  · exact h0.head ((jn_mono hs h4).trans (k.symm.trans (jn_mono hs h3)))
/-- One wire in another one's place. -/
theorem Fo.turn [DecidableEq α] {n : Nat} {i f : α} {l : List α} (h : Fo e n l) (hi : (e i).1 < n ∧ (e i).2 < n) (hf : f ∈ l) (hn : ¬ Jn e (l.erase f) (e i).1 (e i).2) : Fo e n (i :: l.erase f) :=
  (fo_cons hi).2 ⟨h.sub List.erase_sublist, hn⟩
end Go.Wire

/-
  Two trees on all places, or a way to divide the places that too few wires cross. (Plain.)
-/
namespace Go.Wire
variable {e : Nat → Nat × Nat} {n m : Nat}

/-- Two forests without a common wire. -/
structure Pk (e : Nat → Nat × Nat) (n m : Nat) (P : Bool → List Nat) : Prop where
  fo : ∀ b, Fo e n (P b)
  lt : ∀ b, ∀ i ∈ P b, i < m
  dj : ∀ b, ∀ i ∈ P b, i ∉ P (!b)
def szP (P : Bool → List Nat) : Nat := (P true).length + (P false).length
def upd (P : Bool → List Nat) (b : Bool) (l : List Nat) : Bool → List Nat := fun c => if c = b then l else P c
theorem upd_eq (P : Bool → List Nat) (b : Bool) (l : List Nat) : upd P b l b = l := if_pos rfl
theorem upd_ne (P : Bool → List Nat) (b : Bool) (l : List Nat) : upd P b l (!b) = P (!b) := by cases b <;> rfl
theorem szP_b (P : Bool → List Nat) (b : Bool) : szP P = (P b).length + (P (!b)).length := by
  cases b
  · exact Nat.add_comm _ _
  · rfl
structure Opt (e : Nat → Nat × Nat) (n m : Nat) (P : Bool → List Nat) : Prop extends Pk e n m P where
  most : ∀ Q, Pk e n m Q → szP Q ≤ szP P
theorem Pk.put {P : Bool → List Nat} {b : Bool} {l : List Nat} (h : Pk e n m P) (hl : Fo e n l) (hm : ∀ i ∈ l, i < m) (hd : ∀ i ∈ l, i ∉ P (!b)) : Pk e n m (upd P b l) := by
  refine ⟨fun c => ?_, fun c i hi => ?_, fun c i hi => ?_⟩
  · by_cases k : c = b
    · subst k; rw [upd_eq]; exact hl
    · have k : c = !b := by revert k; cases c <;> cases b <;> simp
      subst k; rw [upd_ne]; exact h.fo _
  · by_cases k : c = b
    · subst k; rw [upd_eq] at hi; exact hm i hi
    · have k : c = !b := by revert k; cases c <;> cases b <;> simp
      subst k; rw [upd_ne] at hi; exact h.lt _ i hi
  · by_cases k : c = b
    · subst k; rw [upd_eq] at hi; rw [upd_ne]; exact hd i hi
    · have k : c = !b := by revert k; cases c <;> cases b <;> simp
      subst k; rw [upd_ne] at hi; rw [Bool.not_not, upd_eq]; exact fun hi2 => hd i hi2 hi
/-- One wire that is not used in another one's place. -/
def turnP (P : Bool → List Nat) (b : Bool) (i f : Nat) : Bool → List Nat := upd P b (i :: (P b).erase f)
inductive Rc (e : Nat → Nat × Nat) (n m : Nat) (P : Bool → List Nat) : (Bool → List Nat) → Prop
  | base : Rc e n m P P
  | turn {Q : Bool → List Nat} {b : Bool} {i f : Nat} : Rc e n m P Q → i < m → (∀ c, i ∉ Q c) → f ∈ Q b → Fo e n (i :: (Q b).erase f) → Rc e n m P (turnP Q b i f)
/-- The wires' ends are places. -/
def Ends (e : Nat → Nat × Nat) (n m : Nat) : Prop := ∀ i, i < m → (e i).1 < n ∧ (e i).2 < n
theorem Opt.turn {Q : Bool → List Nat} {b : Bool} {i f : Nat} (h : Opt e n m Q) (hi : i < m) (hn : ∀ c, i ∉ Q c) (hf : f ∈ Q b) (hfo : Fo e n (i :: (Q b).erase f)) : Opt e n m (turnP Q b i f) ∧ ∀ c, f ∉ turnP Q b i f c := by
  have hfi : f ≠ i := fun k => hn b (k ▸ hf)
  have hnd := (h.fo b).nodup
  refine ⟨⟨h.put hfo (fun j hj => ?_) (fun j hj => ?_), fun Z hZ => ?_⟩, fun c => ?_⟩
  · rcases List.mem_cons.1 hj with rfl | hj
    · exact hi
    · exact h.lt b j (List.mem_of_mem_erase hj)
  · rcases List.mem_cons.1 hj with rfl | hj
    · exact hn _
    · exact h.dj b j (List.mem_of_mem_erase hj)
  · refine Nat.le_trans (h.most Z hZ) ?_
    rw [szP_b Q b, szP_b (turnP Q b i f) b]
    unfold turnP
    rw [upd_eq, upd_ne, List.length_cons, List.length_erase_of_mem hf]
    have := List.length_pos_of_mem hf
    omega
  · unfold turnP
    by_cases k : c = b
    · subst k
      rw [upd_eq]
      intro hc
      rcases List.mem_cons.1 hc with hc | hc
      · exact hfi hc
      · exact (List.Nodup.not_mem_erase hnd) hc
    · have k : c = !b := by revert k; cases c <;> cases b <;> simp
      subst k; rw [upd_ne]; exact h.dj b f hf
theorem Rc.opt {P Q : Bool → List Nat} (hP : Opt e n m P) (h : Rc e n m P Q) : Opt e n m Q := by
  induction h with
  | base => exact hP
  | turn _ hi hn hf hfo ih => exact (ih.turn hi hn hf hfo).1
/-- A wire that some pair does not use. -/
def Lo (e : Nat → Nat × Nat) (n m : Nat) (P : Bool → List Nat) (i : Nat) : Prop := ∃ Q, Rc e n m P Q ∧ i < m ∧ ∀ c, i ∉ Q c
theorem Opt.joined {Q : Bool → List Nat} (he : Ends e n m) (h : Opt e n m Q) {i : Nat} (hi : i < m) (hn : ∀ c, i ∉ Q c) (b : Bool) : Jn e (Q b) (e i).1 (e i).2 := by
  apply Classical.byContradiction
  intro k
  have hfo := (fo_cons (he i hi)).2 ⟨h.fo b, k⟩
  have h2 := h.most _ (h.toPk.put (b := b) hfo (fun j hj => by
    rcases List.mem_cons.1 hj with rfl | hj
    · exact hi
    · exact h.lt b j hj) (fun j hj => by
    rcases List.mem_cons.1 hj with rfl | hj
    · exact hn _
    · exact h.dj b j hj))
  rw [szP_b Q b, szP_b (upd Q b (i :: Q b)) b, upd_eq, upd_ne, List.length_cons] at h2
  omega
/-- A way of wires that some pair does not use. -/
theorem loose_way {P Q : Bool → List Nat} (he : Ends e n m) (hP : Opt e n m P) (hQ : Rc e n m P Q) {i : Nat} (hi : i < m) (hn : ∀ c, i ∉ Q c) (b : Bool) : ∃ M : List Nat, (∀ f ∈ M, f ∈ Q b ∧ Lo e n m P f) ∧ Jn e M (e i).1 (e i).2 := by
  have hO := hQ.opt hP
  obtain ⟨M, h1, h2, h3⟩ := least_join _ (Q b) (Nat.le_refl _) (hO.joined he hi hn b)
  refine ⟨M, fun f hf => ⟨h1.subset hf, ?_⟩, h2⟩
  have hfo := (hO.fo b).turn (he i hi) (h1.subset hf) ((hO.fo b).spare h1 hf h2 (h3 f hf))
  exact ⟨_, .turn hQ hi hn (h1.subset hf) hfo, hO.lt b f (h1.subset hf), (hO.turn hi hn (h1.subset hf) hfo).2⟩
/-- Joined by such wires of a forest. -/
def Jl (e : Nat → Nat × Nat) (n m : Nat) (P Q : Bool → List Nat) (b : Bool) (u v : Nat) : Prop := ∃ M : List Nat, (∀ f ∈ M, f ∈ Q b ∧ Lo e n m P f) ∧ Jn e M u v
theorem Jl.eqv (e : Nat → Nat × Nat) (n m : Nat) (P Q : Bool → List Nat) (b : Bool) : Eqv (Jl e n m P Q b) where
  refl u := ⟨[], fun f hf => absurd hf List.not_mem_nil, rfl⟩
  symm := fun ⟨M, h1, h2⟩ => ⟨M, h1, h2.symm⟩
  trans := fun ⟨M, h1, h2⟩ ⟨N, k1, k2⟩ => ⟨M ++ N, fun f hf => (List.mem_append.1 hf).elim (h1 f) (k1 f), (jn_mono (fun _ hj => List.mem_append_left _ hj) h2).trans (jn_mono (fun _ hj => List.mem_append_right _ hj) k2)⟩
theorem Jl.one {P Q : Bool → List Nat} {b : Bool} {f : Nat} (h1 : f ∈ Q b) (h2 : Lo e n m P f) : Jl e n m P Q b (e f).1 (e f).2 := ⟨[f], fun g hg => by rw [List.mem_singleton.1 hg]; exact ⟨h1, h2⟩, jn_mem (List.mem_singleton.2 rfl)⟩
theorem Jl.turn {P Q : Bool → List Nat} {b : Bool} {i f : Nat} (he : Ends e n m) (hP : Opt e n m P) (hQ : Rc e n m P Q) (hi : i < m) (hn : ∀ c, i ∉ Q c) (hf : f ∈ Q b) (hfo : Fo e n (i :: (Q b).erase f)) (c : Bool) (u v : Nat) : Jl e n m P (turnP Q b i f) c u v ↔ Jl e n m P Q c u v := by
  have hO := hQ.opt hP
  have hR : Rc e n m P (turnP Q b i f) := .turn hQ hi hn hf hfo
  have hfn := (hO.turn hi hn hf hfo).2
  have hfm := hO.lt b f hf
  have hLi : Lo e n m P i := ⟨Q, hQ, hi, hn⟩
  by_cases k : c = b
  · subst k
    constructor
    · rintro ⟨M, h1, h2⟩
      refine jn_least (Jl.eqv e n m P Q c) (fun j hj => ?_) h2
      obtain ⟨h3, h4⟩ := h1 j hj
      unfold turnP at h3
      rw [upd_eq] at h3
      rcases List.mem_cons.1 h3 with rfl | h3
      · exact loose_way he hP hQ hi hn c
      · exact Jl.one (List.mem_of_mem_erase h3) h4
    · rintro ⟨M, h1, h2⟩
      refine jn_least (Jl.eqv e n m P (turnP Q c i f) c) (fun j hj => ?_) h2
      obtain ⟨h3, h4⟩ := h1 j hj
      by_cases hjf : j = f
      · subst hjf
        exact loose_way he hP hR hfm hfn c
      · refine Jl.one ?_ h4
        unfold turnP
        rw [upd_eq]
        exact List.mem_cons_of_mem _ ((List.mem_erase_of_ne hjf).2 h3)
  · have k : c = !b := by revert k; cases c <;> cases b <;> simp
    subst k
    unfold Jl turnP
    rw [upd_ne]
theorem Jl.same {P Q : Bool → List Nat} (he : Ends e n m) (hP : Opt e n m P) (hQ : Rc e n m P Q) : ∀ (c : Bool) (u v : Nat), Jl e n m P Q c u v ↔ Jl e n m P P c u v := by
  induction hQ with
  | base => exact fun c u v => Iff.rfl
  | turn hQ hi hn hf hfo ih => exact fun c u v => (Jl.turn he hP hQ hi hn hf hfo c u v).trans (ih c u v)
theorem Jl.lo {P : Bool → List Nat} (he : Ends e n m) (hP : Opt e n m P) {i : Nat} (h : Lo e n m P i) (c : Bool) : Jl e n m P P c (e i).1 (e i).2 := by
  obtain ⟨Q, hQ, hi, hn⟩ := h
  exact (Jl.same he hP hQ c _ _).1 (loose_way he hP hQ hi hn c)
/-- A tree on all places. -/
def Tree (e : Nat → Nat × Nat) (n : Nat) (l : List Nat) : Prop := Fo e n l ∧ cp e n l = 1
/-- How many wires join places with different numbers. -/
def crs (e : Nat → Nat × Nat) (m : Nat) (q : Nat → Nat) : Nat := (List.range m).countP fun i => decide (q (e i).1 ≠ q (e i).2)
end Go.Wire

/-
  The switching game: more never harms; two trees win; who wins moving second has two trees. (Plain.)
-/
namespace Go.Wire
variable {e : Nat → Nat × Nat} {n m s t : Nat}

/-- Whether Short wins, with F free and K kept. -/
def Sw (e : Nat → Nat × Nat) (s t : Nat) : Nat → List Nat → List Nat → Bool → Prop
  | 0, _, K, _ => Jn e K s t
  | n + 1, F, K, true => ∀ i ∈ F, Sw e s t n (F.erase i) K false
  | n + 1, F, K, false => ∃ i ∈ F, Sw e s t n (F.erase i) (i :: K) true
theorem Sw.kept : ∀ {n : Nat} {F K K' : List Nat} {c : Bool}, (∀ i ∈ K, i ∈ K') → Sw e s t n F K c → Sw e s t n F K' c
  | 0, F, K, K', c, hs, h => jn_mono hs h
  | n + 1, F, K, K', true, hs, h => fun i hi => Sw.kept hs (h i hi)
  | n + 1, F, K, K', false, hs, ⟨i, hi, h⟩ => ⟨i, hi, Sw.kept (fun j hj => by
      rcases List.mem_cons.1 hj with rfl | hj
      · exact List.mem_cons_self ..
      · exact List.mem_cons_of_mem _ (hs j hj)) h⟩
theorem Sw.swap {n : Nat} {F K : List Nat} {i j : Nat} {c : Bool} (h : Sw e s t n F (i :: j :: K) c) : Sw e s t n F (j :: i :: K) c := Sw.kept (fun x hx => by
  simp only [List.mem_cons] at hx ⊢
  rcases hx with h | h | h
  · exact .inr (.inl h)
  · exact .inl h
  · exact .inr (.inr h)) h
structure More (e : Nat → Nat × Nat) (s t n : Nat) : Prop where
  to : ∀ {F K : List Nat}, F.length = n → Sw e s t n F K true → Sw e s t n F K false
  keep : ∀ {F K : List Nat} {w : Nat} {c : Bool}, F.length = n + 1 → w ∈ F → Sw e s t (n + 1) F K c → Sw e s t n (F.erase w) (w :: K) c
  cut : ∀ {F K : List Nat} {w : Nat} {c : Bool}, F.length = n + 1 → w ∈ F → Sw e s t n (F.erase w) K c → Sw e s t (n + 1) F K c
theorem one_mem {F : List Nat} {w i : Nat} (h : F.length = 1) (hw : w ∈ F) (hi : i ∈ F) : i = w := by
  obtain ⟨x, rfl⟩ := List.length_eq_one_iff.1 h
  rw [List.mem_singleton.1 hw, List.mem_singleton.1 hi]
theorem erase_in {F : List Nat} {w i : Nat} (hw : w ∈ F) (hi : i ∈ F.erase w) : w ∈ F.erase i := by
  by_cases h : w = i
  · subst h; exact hi
  · exact (List.mem_erase_of_ne h).2 hw
theorem Sw.more (e : Nat → Nat × Nat) (s t : Nat) : ∀ n, More e s t n
  | 0 => by
    have to : ∀ {F K : List Nat}, F.length = 0 → Sw e s t 0 F K true → Sw e s t 0 F K false := fun _ h => h
    refine ⟨to, fun {F K w c} hl hw h => ?_, fun {F K w c} hl hw h => ?_⟩
    · cases c
      · obtain ⟨i, hi, h⟩ := h
        obtain rfl := one_mem hl hw hi
        exact h
      · exact jn_mono (fun j hj => List.mem_cons_of_mem _ hj) (h w hw)
    · cases c
      · exact ⟨w, hw, jn_mono (fun j hj => List.mem_cons_of_mem _ hj) h⟩
      · intro i hi
        exact h
  | n + 1 => by
    have ih := Sw.more e s t n
    have to : ∀ {F K : List Nat}, F.length = n + 1 → Sw e s t (n + 1) F K true → Sw e s t (n + 1) F K false := fun {F K} hl h => by
      cases F with
      | nil => cases hl
      | cons i F => exact ⟨i, List.mem_cons_self .., ih.keep hl (List.mem_cons_self ..) h⟩
    refine ⟨to, fun {F K w c} hl hw h => ?_, fun {F K w c} hl hw h => ?_⟩
    · have hle : (F.erase w).length = n + 1 := by rw [List.length_erase_of_mem hw, hl]; rfl
      cases c
      · obtain ⟨i, hi, h⟩ := h
        by_cases k : i = w
        · subst k; exact to hle h
        · have hiw : i ∈ F.erase w := (List.mem_erase_of_ne k).2 hi
          have hle2 : (F.erase i).length = n + 1 := by rw [List.length_erase_of_mem hi, hl]; rfl
          refine ⟨i, hiw, ?_⟩
          rw [List.erase_comm]
          exact Sw.swap (ih.keep hle2 (erase_in hw hiw) h)
      · intro i hi
        have hiF := List.mem_of_mem_erase hi
        have hle2 : (F.erase i).length = n + 1 := by rw [List.length_erase_of_mem hiF, hl]; rfl
        rw [List.erase_comm]
        exact ih.keep hle2 (erase_in hw hi) (h i hiF)
    · have hle : (F.erase w).length = n + 1 := by rw [List.length_erase_of_mem hw, hl]; rfl
      cases c
      · obtain ⟨i, hi, h⟩ := h
        have hiF := List.mem_of_mem_erase hi
        have hle2 : (F.erase i).length = n + 1 := by rw [List.length_erase_of_mem hiF, hl]; rfl
        refine ⟨i, hiF, ?_⟩
        rw [List.erase_comm] at h
        exact ih.cut hle2 (erase_in hw hi) h
      · intro i hi
        have hle2 : (F.erase i).length = n + 1 := by rw [List.length_erase_of_mem hi, hl]; rfl
        by_cases k : i = w
        · subst k; exact to hle h
        · have hiw : i ∈ F.erase w := (List.mem_erase_of_ne k).2 hi
          have h := h i hiw
          rw [List.erase_comm] at h
          exact ih.cut hle2 (erase_in hw hiw) h
theorem exch {f b : Nat} {l : List Nat} (h : Jn e (f :: l) (e b).1 (e b).2) (hn : ¬ Jn e l (e b).1 (e b).2) : Jn e (b :: l) (e f).1 (e f).2 := by
  have up : ∀ {x y}, Jn e l x y → Jn e (b :: l) x y := fun h => jn_mono (fun j hj => List.mem_cons_of_mem _ hj) h
  have hb : Jn e (b :: l) (e b).1 (e b).2 := jn_mem (List.mem_cons_self ..)
  rcases jn_cons.1 h with h | ⟨h1, h2⟩ | ⟨h1, h2⟩
  · exact absurd h hn
  · exact (up h1).symm.trans (hb.trans (up h2).symm)
  · exact (up h2).trans (hb.symm.trans (up h1))
/-- Two ways to join some places, with no free wire in common. -/
structure SI (e : Nat → Nat × Nat) (X : Nat → Prop) (F K A B : List Nat) : Prop where
  a : ∀ i ∈ A, i ∈ F
  b : ∀ i ∈ B, i ∈ F
  dj : ∀ i ∈ A, i ∉ B
  ae : ∀ i ∈ A, X (e i).1 ∧ X (e i).2
  be : ∀ i ∈ B, X (e i).1 ∧ X (e i).2
  aj : ∀ {u v}, X u → X v → Jn e (K ++ A) u v
  bj : ∀ {u v}, X u → X v → Jn e (K ++ B) u v
theorem SI.swap {X : Nat → Prop} {F K A B : List Nat} (h : SI e X F K A B) : SI e X F K B A := ⟨h.b, h.a, fun i hb ha => h.dj i ha hb, h.be, h.ae, h.bj, h.aj⟩
theorem SI.pass {X : Nat → Prop} {F K A B : List Nat} (h : SI e X F K A B) {b : Nat} : SI e X (F.erase b) (b :: K) (A.filter fun j => decide (j ≠ b)) (B.filter fun j => decide (j ≠ b)) := by
  have key : ∀ {C : List Nat} {u v : Nat}, Jn e (K ++ C) u v → Jn e ((b :: K) ++ C.filter fun j => decide (j ≠ b)) u v := fun {C u v} hj => jn_mono (fun j hj => by
    by_cases k : j = b
    · subst k; exact List.mem_append_left _ (List.mem_cons_self ..)
    · rcases List.mem_append.1 hj with hj | hj
      · exact List.mem_append_left _ (List.mem_cons_of_mem _ hj)
      · exact List.mem_append_right _ (List.mem_filter.2 ⟨hj, decide_eq_true k⟩)) hj
  exact ⟨fun i hi => (List.mem_erase_of_ne (of_decide_eq_true (List.mem_filter.1 hi).2)).2 (h.a i (List.mem_filter.1 hi).1), fun i hi => (List.mem_erase_of_ne (of_decide_eq_true (List.mem_filter.1 hi).2)).2 (h.b i (List.mem_filter.1 hi).1), fun i hi hb => h.dj i (List.mem_filter.1 hi).1 (List.mem_filter.1 hb).1, fun i hi => h.ae i (List.mem_filter.1 hi).1, fun i hi => h.be i (List.mem_filter.1 hi).1, fun hu hv => key (h.aj hu hv), fun hu hv => key (h.bj hu hv)⟩
/-- The reply to a cut wire. -/
theorem SI.reply {X : Nat → Prop} {F K A B : List Nat} (h : SI e X F K A B) {c : Nat} (hc : c ∈ A) (hn : ¬ Jn e (K ++ A.filter fun j => decide (j ≠ c)) (e c).1 (e c).2) : ∃ b ∈ B, b ≠ c ∧ SI e X ((F.erase c).erase b) (b :: K) (A.filter fun j => decide (j ≠ c)) (B.filter fun j => decide (j ≠ b)) := by
  obtain ⟨xc1, xc2⟩ := h.ae c hc
  obtain ⟨A', hA'⟩ : ∃ A', A' = A.filter fun j => decide (j ≠ c) := ⟨_, rfl⟩
  rw [← hA'] at hn ⊢
  have hex : ∃ b ∈ B, ¬ Jn e (K ++ A') (e b).1 (e b).2 := by
    apply Classical.byContradiction
    intro hno
    refine hn (jn_least (Jn.eqv _) (fun i hi => ?_) (h.bj xc1 xc2))
    rcases List.mem_append.1 hi with hi | hi
    · exact jn_mem (List.mem_append_left _ hi)
    · exact Classical.byContradiction fun k => hno ⟨i, hi, k⟩
  obtain ⟨b, hb, hbn⟩ := hex
  have hbc : b ≠ c := fun k => h.dj c hc (k ▸ hb)
  have hcA : ∀ {u v}, Jn e (K ++ A) u v → Jn e (c :: (K ++ A')) u v := fun hj => jn_mono (fun j hj => by
    by_cases k : j = c
    · exact k ▸ List.mem_cons_self ..
    · refine List.mem_cons_of_mem _ ?_
      rcases List.mem_append.1 hj with hj | hj
      · exact List.mem_append_left _ hj
      · exact List.mem_append_right _ (hA' ▸ List.mem_filter.2 ⟨hj, decide_eq_true k⟩)) hj
  obtain ⟨xb1, xb2⟩ := h.be b hb
  have hx := exch (hcA (h.aj xb1 xb2)) hbn
  refine ⟨b, hb, hbc, fun i hi => ?_, fun i hi => ?_, fun i hi hi2 => ?_, fun i hi => ?_, fun i hi => h.be i (List.mem_filter.1 hi).1, fun hu hv => ?_, fun hu hv => ?_⟩
  · rw [hA'] at hi
    obtain ⟨h1, h2⟩ := List.mem_filter.1 hi
    exact (List.mem_erase_of_ne (fun k : i = b => h.dj i h1 (k ▸ hb))).2 ((List.mem_erase_of_ne (of_decide_eq_true h2)).2 (h.a i h1))
  · obtain ⟨h1, h2⟩ := List.mem_filter.1 hi
    exact (List.mem_erase_of_ne (of_decide_eq_true h2)).2 ((List.mem_erase_of_ne (fun k : i = c => h.dj c hc (k ▸ h1))).2 (h.b i h1))
  · rw [hA'] at hi
    exact h.dj i (List.mem_filter.1 hi).1 (List.mem_filter.1 hi2).1
  · rw [hA'] at hi
    exact h.ae i (List.mem_filter.1 hi).1
  · refine jn_least (Jn.eqv _) (fun i hi => ?_) (hcA (h.aj hu hv))
    rcases List.mem_cons.1 hi with rfl | hi
    · exact jn_mono (fun j hj => hj) hx
    · exact jn_mem (List.mem_cons_of_mem _ hi)
  · refine jn_mono (fun j hj => ?_) (h.bj hu hv)
    by_cases k : j = b
    · exact k ▸ List.mem_append_left _ (List.mem_cons_self ..)
    · rcases List.mem_append.1 hj with hj | hj
      · exact List.mem_append_left _ (List.mem_cons_of_mem _ hj)
      · exact List.mem_append_right _ (List.mem_filter.2 ⟨hj, decide_eq_true k⟩)
theorem SI.cutA {X : Nat → Prop} {F K A B : List Nat} (h : SI e X F K A B) {c : Nat} (hc : c ∈ A) (hj : Jn e (K ++ A.filter fun j => decide (j ≠ c)) (e c).1 (e c).2) : SI e X (F.erase c) K (A.filter fun j => decide (j ≠ c)) B := by
  refine ⟨fun i hi => ?_, fun i hi => (List.mem_erase_of_ne (fun k : i = c => h.dj c hc (k ▸ hi))).2 (h.b i hi), fun i hi => h.dj i (List.mem_filter.1 hi).1, fun i hi => h.ae i (List.mem_filter.1 hi).1, h.be, fun hu hv => ?_, h.bj⟩
  · obtain ⟨h1, h2⟩ := List.mem_filter.1 hi
    exact (List.mem_erase_of_ne (of_decide_eq_true h2)).2 (h.a i h1)
  · refine jn_least (Jn.eqv _) (fun i hi => ?_) (h.aj hu hv)
    by_cases k : i = c
    · exact k ▸ hj
    · rcases List.mem_append.1 hi with hi | hi
      · exact jn_mem (List.mem_append_left _ hi)
      · exact jn_mem (List.mem_append_right _ (List.mem_filter.2 ⟨hi, decide_eq_true k⟩))
theorem SI.cutN {X : Nat → Prop} {F K A B : List Nat} (h : SI e X F K A B) {c : Nat} (ha : c ∉ A) (hb : c ∉ B) : SI e X (F.erase c) K A B :=
  ⟨fun i hi => (List.mem_erase_of_ne (fun k : i = c => ha (k ▸ hi))).2 (h.a i hi), fun i hi => (List.mem_erase_of_ne (fun k : i = c => hb (k ▸ hi))).2 (h.b i hi), h.dj, h.ae, h.be, h.aj, h.bj⟩
theorem SI.joined {X : Nat → Prop} {K A B : List Nat} (h : SI e X [] K A B) {u v : Nat} (hu : X u) (hv : X v) : Jn e K u v :=
  jn_mono (fun i hi => by
    rcases List.mem_append.1 hi with hi | hi
    · exact hi
    · exact absurd (h.a i hi) List.not_mem_nil) (h.aj hu hv)
/-- Two trees win. -/
theorem SI.wins {X : Nat → Prop} (hs : X s) (ht : X t) : ∀ (k n : Nat) {F K A B : List Nat}, n ≤ k → F.length = n → SI e X F K A B → Sw e s t n F K true
  | k, 0, F, K, A, B, _, hl, h => by
    obtain rfl := List.length_eq_zero_iff.1 hl
    exact h.joined hs ht
  | 0, n + 1, F, K, A, B, hk, hl, h => by omega
  | k + 1, n + 1, F, K, A, B, hk, hl, h => by
    intro c hc
    have hlc : (F.erase c).length = n := by rw [List.length_erase_of_mem hc, hl]; rfl
    cases n with
    | zero =>
      show Jn e K s t
      have h0 : F = [c] := by
        obtain ⟨x, rfl⟩ := List.length_eq_one_iff.1 hl
        rw [List.mem_singleton.1 hc]
      subst h0
      by_cases hca : c ∈ A
      · refine jn_mono (fun i hi => ?_) (h.bj hs ht)
        rcases List.mem_append.1 hi with hi | hi
        · exact hi
        · have := List.mem_singleton.1 (h.b i hi)
          exact absurd (this ▸ hi) (h.dj c hca)
      · refine jn_mono (fun i hi => ?_) (h.aj hs ht)
        rcases List.mem_append.1 hi with hi | hi
        · exact hi
        · have := List.mem_singleton.1 (h.a i hi)
          exact absurd (this ▸ hi) hca
    | succ n =>
      have go : ∀ {A B : List Nat}, SI e X (F.erase c) K A B → Sw e s t (n + 1) (F.erase c) K false := fun {A B} h2 => by
        cases hF : F.erase c with
        | nil => rw [hF] at hlc; cases hlc
        | cons b G =>
          rw [hF] at h2
          refine ⟨b, List.mem_cons_self .., SI.wins hs ht k n (by omega) ?_ (h2.pass (b := b))⟩
          rw [List.length_erase_of_mem (List.mem_cons_self ..), ← hF, hlc]; rfl
      have two : ∀ {A B : List Nat}, SI e X F K A B → c ∈ A → Sw e s t (n + 1) (F.erase c) K false := fun {A B} h2 hca => by
        by_cases hj : Jn e (K ++ A.filter fun j => decide (j ≠ c)) (e c).1 (e c).2
        · exact go (h2.cutA hca hj)
        · obtain ⟨b, hb, hbc, h3⟩ := h2.reply hca hj
          have hbF : b ∈ F.erase c := (List.mem_erase_of_ne hbc).2 (h2.b b hb)
          exact ⟨b, hbF, SI.wins hs ht k n (by omega) (by rw [List.length_erase_of_mem hbF, hlc]; rfl) h3⟩
      by_cases hca : c ∈ A
      · exact two h hca
      · by_cases hcb : c ∈ B
        · exact two h.swap hcb
        · exact go (h.cutN hca hcb)
end Go.Wire

/-
  Lehman's theorem: who wins moving second has two trees. (Plain.)
-/
namespace Go.Wire
variable {e : Nat → Nat × Nat} {n m s t z : Nat}

/-- Cut wins, with the other one to move: what is free is two forests with the wire between the ends (z), and wires that join nothing more. -/
structure CS (e : Nat → Nat × Nat) (n z : Nat) (F K A B L : List Nat) : Prop where
  k : ∀ i ∈ K, Jn e L (e i).1 (e i).2
  f : ∀ i ∈ F, i ∈ A ∨ i ∈ B ∨ Jn e L (e i).1 (e i).2
  a : Fo e n (z :: (A ++ L))
  b : Fo e n (z :: (B ++ L))
/-- Cut to move: one wire may be too much. -/
structure CC (e : Nat → Nat × Nat) (n z : Nat) (F K A B L : List Nat) : Prop where
  k : ∀ i ∈ K, Jn e L (e i).1 (e i).2
  f : ∀ i ∈ F, i ∈ A ∨ i ∈ B ∨ Jn e L (e i).1 (e i).2
  a : Fo e n (z :: (A ++ L))
  b : Fo e n (z :: (B ++ L)) ∨ ∃ b ∈ B, Fo e n (z :: (B.erase b ++ L))
theorem CS.swap {F K A B L : List Nat} (h : CS e n z F K A B L) : CS e n z F K B A L := ⟨h.k, fun i hi => by
  rcases h.f i hi with h | h | h
  · exact .inr (.inl h)
  · exact .inl h
  · exact .inr (.inr h), h.b, h.a⟩
/-- Two lists without a common wire, forests, that join the same places, the ends among them. -/
structure Pair (e : Nat → Nat × Nat) (n m s t : Nat) (A B : List Nat) : Prop where
  fa : Fo e n A
  fb : Fo e n B
  la : ∀ i ∈ A, i < m
  lb : ∀ i ∈ B, i < m
  dj : ∀ i ∈ A, i ∉ B
  same : ∀ u v, Jn e A u v ↔ Jn e B u v
  st : Jn e A s t
theorem Fo.same {A B C : List Nat} (hA : Fo e n (C ++ A)) (hB : Fo e n B) (h : ∀ u v, Jn e A u v ↔ Jn e B u v) : Fo e n (C ++ B) := by
  have hin : In e n (C ++ B) := fun i hi => by
    rcases List.mem_append.1 hi with hi | hi
    · exact hA.1 i (List.mem_append_left _ hi)
    · exact hB.1 i hi
  have hA0 : Fo e n A := hA.sub (List.sublist_append_right ..)
  have key : ∀ {A B : List Nat}, (∀ u v, Jn e A u v ↔ Jn e B u v) → ∀ {u v}, Jn e (C ++ A) u v → Jn e (C ++ B) u v := fun {A B} h {u v} hj => jn_least (Jn.eqv _) (fun i hi => by
    rcases List.mem_append.1 hi with hi | hi
    · exact jn_mem (List.mem_append_left _ hi)
    · exact jn_mono (fun j hj => List.mem_append_right _ hj) ((h _ _).1 (jn_mem hi))) hj
  have h1 : cp e n (C ++ A) = cp e n (C ++ B) := cp_congr fun u v => ⟨key h, key fun u v => (h u v).symm⟩
  have h2 : cp e n A = cp e n B := cp_congr h
  have h3 := hA.2
  have h4 := hA0.2
  have h5 := hB.2
  rw [List.length_append] at h3
  exact ⟨hin, by rw [← h1, List.length_append]; omega⟩
end Go.Wire

/-
  Wires as pairs of places: what one made short does to them. (Plain.)
-/
namespace Go.Wire

abbrev Wr := Nat × Nat

/-- What a place becomes when b becomes a. -/
def plc (a b x : Nat) : Nat := if x = b then a else if b < x then x - 1 else x
def cw (a b : Nat) (w : Wr) : Wr := (min (plc a b w.1) (plc a b w.2), max (plc a b w.1) (plc a b w.2))

/-- The wires that are left when one is made short. -/
def shW (a b : Nat) (W : List Wr) : List Wr := (W.filter fun w => decide (plc a b w.1 ≠ plc a b w.2)).map (cw a b)
end Go.Wire

/-
  Wires as pairs of places: a wire made short; trees with and without a wire; two trees as lists of wires. (Plain.)
-/
namespace Go.Wire

theorem one_tst (t : Nat) : (1 : Nat).testBit t = decide (t = 0) := by
  cases t with
  | zero => rfl
  | succ t =>
    rw [Nat.testBit_lt_two_pow (show 1 < 2 ^ (t + 1) by have := Nat.two_pow_pos t; omega)]
    simp
theorem lb_map {α : Type} (e : α → Nat × Nat) : ∀ (l : List α) (u : Nat), lb (id : Wr → Wr) (l.map e) u = lb e l u
  | [], _ => rfl
  | i :: l, u => by
    have h1 := lb_map e l u
    have h2 := lb_map e l (e i).1
    have h3 := lb_map e l (e i).2
    show (if lb id (l.map e) u = max (lb id (l.map e) (e i).1) (lb id (l.map e) (e i).2) then min (lb id (l.map e) (e i).1) (lb id (l.map e) (e i).2) else lb id (l.map e) u) = _
    rw [h1, h2, h3]; rfl
theorem fo_map {α : Type} (e : α → Nat × Nat) {n : Nat} {l : List α} : Fo (id : Wr → Wr) n (l.map e) ↔ Fo e n l := by
  unfold Fo
  refine and_congr ⟨fun h i hi => h (e i) (List.mem_map.2 ⟨i, hi, rfl⟩), fun h w hw => ?_⟩ ?_
  · obtain ⟨i, hi, rfl⟩ := List.mem_map.1 hw
    exact h i hi
  · rw [List.length_map]
    have : cp (id : Wr → Wr) n (l.map e) = cp e n l := List.countP_congr fun u _ => by rw [lb_map]
    rw [this]

theorem plc_eq {a b u v : Nat} (hab : a < b) : plc a b u = plc a b v ↔ u = v ∨ (u = a ∧ v = b) ∨ (u = b ∧ v = a) := by
  unfold plc
  split <;> split <;> (try split) <;> (try split) <;> omega
theorem plc_sur {a b : Nat} (hab : a < b) (y : Nat) : ∃ u, plc a b u = y := by
  by_cases h : y < b
  · exact ⟨y, by unfold plc; rw [if_neg (by omega), if_neg (by omega)]⟩
  · exact ⟨y + 1, by unfold plc; rw [if_neg (by omega), if_pos (by omega)]; omega⟩
theorem plc_lt {a b n x : Nat} (hab : a < b) (hb : b < n) (hx : x < n) : plc a b x < n - 1 := by
  unfold plc
  split
  · omega
  · split <;> omega
theorem cw_lt {a b n : Nat} {w : Wr} (hab : a < b) (hb : b < n) (h : w.1 < n ∧ w.2 < n) : (cw a b w).1 < n - 1 ∧ (cw a b w).2 < n - 1 := by
  have h1 := plc_lt hab hb h.1
  have h2 := plc_lt hab hb h.2
  unfold cw
  exact ⟨by show min _ _ < _; omega, by show max _ _ < _; omega⟩
theorem jn_ends {l : List Wr} {a b : Nat} (w : Wr) : Jn id l (cw a b w).1 (cw a b w).2 ↔ Jn id l (plc a b w.1) (plc a b w.2) := by
  show Jn id l (min (plc a b w.1) (plc a b w.2)) (max (plc a b w.1) (plc a b w.2)) ↔ _
  rcases Nat.le_total (plc a b w.1) (plc a b w.2) with h | h
  · rw [Nat.min_eq_left h, Nat.max_eq_right h]
  · rw [Nat.min_eq_right h, Nat.max_eq_left h]
    exact ⟨Jn.symm, Jn.symm⟩
theorem jn_short {a b : Nat} (hab : a < b) {L : List Wr} {u v : Nat} : Jn id (L.map (cw a b)) (plc a b u) (plc a b v) ↔ Jn id (L ++ [(a, b)]) u v := by
  have hw : Jn (id : Wr → Wr) (L ++ [(a, b)]) a b := jn_mem (e := (id : Wr → Wr)) (i := (a, b)) (by simp)
  have hsame : ∀ {u v}, plc a b u = plc a b v → Jn (id : Wr → Wr) (L ++ [(a, b)]) u v := fun {u v} h => by
    rcases (plc_eq hab).1 h with rfl | ⟨rfl, rfl⟩ | ⟨rfl, rfl⟩
    · exact Jn.refl _ _
    · exact hw
    · exact hw.symm
  constructor
  · intro h
    refine jn_least (R := fun x y => ∀ u v, plc a b u = x → plc a b v = y → Jn (id : Wr → Wr) (L ++ [(a, b)]) u v) ⟨fun x u v hu hv => hsame (hu.trans hv.symm), fun h u v hu hv => (h v u hv hu).symm, fun {x y z} h1 h2 u v hu hv => ?_⟩ (fun w hw => ?_) h u v rfl rfl
    · obtain ⟨q, hq⟩ := plc_sur hab y
      exact (h1 u q hu hq).trans (h2 q v hq hv)
    · obtain ⟨x, hx, rfl⟩ := List.mem_map.1 hw
      have hj : Jn (id : Wr → Wr) (L ++ [(a, b)]) x.1 x.2 := jn_mem (e := (id : Wr → Wr)) (List.mem_append_left _ hx)
      show ∀ u v, plc a b u = min (plc a b x.1) (plc a b x.2) → plc a b v = max (plc a b x.1) (plc a b x.2) → _
      intro u v hu hv
      rcases Nat.le_total (plc a b x.1) (plc a b x.2) with h | h
      · rw [Nat.min_eq_left h] at hu
        rw [Nat.max_eq_right h] at hv
        exact (hsame hu).trans (hj.trans (hsame hv).symm)
      · rw [Nat.min_eq_right h] at hu
        rw [Nat.max_eq_left h] at hv
        exact (hsame hu).trans (hj.symm.trans (hsame hv).symm)
  · refine jn_least (R := fun u v => Jn id (L.map (cw a b)) (plc a b u) (plc a b v)) ⟨fun _ => rfl, Eq.symm, Eq.trans⟩ (fun w hw => ?_)
    rcases List.mem_append.1 hw with hw | hw
    · exact (jn_ends w).1 (jn_mem (e := (id : Wr → Wr)) (List.mem_map.2 ⟨w, hw, rfl⟩))
    · rw [List.mem_singleton.1 hw]
      show Jn id _ (plc a b a) (plc a b b)
      rw [(plc_eq hab).2 (.inr (.inl ⟨rfl, rfl⟩))]; rfl
theorem fo_short {a b n : Nat} (hab : a < b) (hb : b < n) : ∀ {L : List Wr}, In (id : Wr → Wr) n L → (Fo id (n - 1) (L.map (cw a b)) ↔ Fo id n (L ++ [(a, b)]))
  | [], _ => by
    refine ⟨fun _ => (fo_cons (e := (id : Wr → Wr)) (i := (a, b)) ⟨by show a < n; omega, hb⟩).2 ⟨Fo.nil n, fun h => ?_⟩, fun _ => Fo.nil _⟩
    have : a = b := h
    omega
  | w :: L, h => by
    have ih := fo_short hab hb h.tail
    have hw := h w (List.mem_cons_self ..)
    show Fo id (n - 1) (cw a b w :: L.map (cw a b)) ↔ Fo id n (w :: (L ++ [(a, b)]))
    refine (fo_cons (e := (id : Wr → Wr)) (i := cw a b w) (cw_lt hab hb hw)).trans (Iff.trans ?_ (fo_cons (e := (id : Wr → Wr)) hw).symm)
    refine and_congr ih (not_congr ?_)
    exact (jn_ends w).trans (jn_short hab)

/-- A tree on all places. -/
def treeB (n : Nat) (L : List Wr) : Bool := decide (cp id n L + L.length = n) && decide (L.length + 1 = n)
theorem treeB_iff {n : Nat} {L : List Wr} (h : In (id : Wr → Wr) n L) : treeB n L = true ↔ Fo id n L ∧ L.length + 1 = n := by
  rw [treeB, Bool.and_eq_true, decide_eq_true_eq, decide_eq_true_eq]
  exact ⟨fun k => ⟨⟨h, k.1⟩, k.2⟩, fun k => ⟨k.1.2, k.2⟩⟩
/-- How many choices of wires there are, with some chosen before. -/
def cS (P : List Wr → Bool) : List Wr → List Wr → Nat
  | [], L => if P L then 1 else 0
  | w :: W, L => cS P W L + cS P W (w :: L)
theorem cS_chosen {P : List Wr → Bool} (hP : ∀ {L L' : List Wr}, L.Perm L' → P L = P L') : ∀ (W : List Wr) {L L' : List Wr}, L.Perm L' → cS P W L = cS P W L'
  | [], L, L', h => by rw [cS, cS, hP h]
  | w :: W, L, L', h => by rw [cS, cS, cS_chosen hP W h, cS_chosen hP W (h.cons w)]
theorem cS_perm {P : List Wr → Bool} (hP : ∀ {L L' : List Wr}, L.Perm L' → P L = P L') {W W' : List Wr} (h : W.Perm W') : ∀ L, cS P W L = cS P W' L := by
  induction h with
  | nil => exact fun _ => rfl
  | cons x _ ih => exact fun L => by rw [cS, cS, ih, ih]
  | swap x y l =>
    intro L
    simp only [cS]
    rw [cS_chosen hP l (List.Perm.swap x y L)]
    omega
  | trans _ _ ih1 ih2 => exact fun L => (ih1 L).trans (ih2 L)
theorem treeB_perm {n : Nat} {L L' : List Wr} (h : L.Perm L') : treeB n L = treeB n L' := by
  rw [treeB, treeB, cp_congr (fun u v => jn_perm h), h.length_eq]
theorem cS_none {n : Nat} : ∀ {W L : List Wr}, In (id : Wr → Wr) n (W ++ L) → ¬ Fo id n L → cS (treeB n) W L = 0
  | [], L, h, hn => by
    rw [cS, if_neg]
    exact fun k => hn ((treeB_iff h).1 k).1
  | w :: W, L, h, hn => by
    rw [cS, cS_none h.tail hn, cS_none (L := w :: L) (fun x hx => h x (by
      rcases List.mem_append.1 hx with hx | hx
      · exact List.mem_cons_of_mem _ (List.mem_append_left _ hx)
      · rcases List.mem_cons.1 hx with rfl | hx
        · exact List.mem_cons_self ..
        · exact List.mem_cons_of_mem _ (List.mem_append_right _ hx))) (fun k => hn k.tail)]
theorem cS_short {a b n : Nat} (hab : a < b) (hb : b < n) : ∀ {W L : List Wr}, In (id : Wr → Wr) n (W ++ L) → cS (treeB n) W (L ++ [(a, b)]) = cS (treeB (n - 1)) (shW a b W) (L.map (cw a b))
  | [], L, h => by
    have hL : In (id : Wr → Wr) n L := h
    have h1 : In (id : Wr → Wr) n (L ++ [(a, b)]) := fun w hw => by
      rcases List.mem_append.1 hw with hw | hw
      · exact hL w hw
      · rw [List.mem_singleton.1 hw]; exact ⟨by show a < n; omega, hb⟩
    have h2 : In (id : Wr → Wr) (n - 1) (L.map (cw a b)) := fun w hw => by
      obtain ⟨x, hx, rfl⟩ := List.mem_map.1 hw
      exact cw_lt hab hb (hL x hx)
    have : treeB n (L ++ [(a, b)]) = treeB (n - 1) (L.map (cw a b)) := by
      rw [Bool.eq_iff_iff, treeB_iff h1, treeB_iff h2, fo_short hab hb hL, List.length_append, List.length_map]
      refine and_congr Iff.rfl ?_
      show L.length + 1 + 1 = n ↔ _
      omega
    rw [cS, this]; rfl
  | w :: W, L, h => by
    have hw := h w (List.mem_cons_self ..)
    have h2 : In (id : Wr → Wr) n (W ++ w :: L) := fun x hx => h x (by
      rcases List.mem_append.1 hx with hx | hx
      · exact List.mem_cons_of_mem _ (List.mem_append_left _ hx)
      · rcases List.mem_cons.1 hx with rfl | hx
        · exact List.mem_cons_self ..
        · exact List.mem_cons_of_mem _ (List.mem_append_right _ hx))
    have e1 := cS_short hab hb (W := W) (L := L) h.tail
    have e2 := cS_short hab hb (W := W) (L := w :: L) h2
    by_cases c : plc a b w.1 = plc a b w.2
    · have hs : shW a b (w :: W) = shW a b W := by
        unfold shW
        rw [List.filter_cons_of_neg (by simp [c])]
      rw [cS, hs, e1]
      have : cS (treeB n) W (w :: (L ++ [(a, b)])) = 0 := cS_none (fun x hx => by
        rcases List.mem_append.1 hx with hx | hx
        · exact h2 x (List.mem_append_left _ hx)
        · rcases List.mem_cons.1 hx with rfl | hx
          · exact hw
          · rcases List.mem_append.1 hx with hx | hx
            · exact h2 x (List.mem_append_right _ (List.mem_cons_of_mem _ hx))
            · rw [List.mem_singleton.1 hx]; exact ⟨by show a < n; omega, hb⟩) (fun k => by
        refine k.head ((jn_short (L := L) hab).1 ?_)
        show Jn id _ (plc a b w.1) (plc a b w.2)
        rw [c]; rfl)
      rw [this]; rfl
    · have hs : shW a b (w :: W) = cw a b w :: shW a b W := by
        unfold shW
        rw [List.filter_cons_of_pos (by simp [c])]; rfl
      rw [cS, hs, cS, e1]
      show _ + cS (treeB n) W ((w :: L) ++ [(a, b)]) = _
      rw [e2]; rfl
/-- The number of trees: without a wire, and with it made short. -/
theorem deletes {a b n : Nat} (hab : a < b) (hb : b < n) {W W' : List Wr} (hp : W.Perm ((a, b) :: W')) (hW : In (id : Wr → Wr) n W') : cS (treeB n) W [] = cS (treeB n) W' [] + cS (treeB (n - 1)) (shW a b W') [] := by
  rw [cS_perm (P := treeB n) (fun h => treeB_perm h) hp, cS]
  exact congrArg (cS (treeB n) W' [] + ·) (cS_short hab hb (W := W') (L := []) (fun w hw => hW w (by simpa using hw)))

/-- Two trees, as lists of wires. -/
structure PairL (n s t : Nat) (W A B C : List Wr) : Prop where
  sub : (A ++ (B ++ C)).Perm W
  fa : Fo (id : Wr → Wr) n A
  fb : Fo (id : Wr → Wr) n B
  same : ∀ u v, Jn (id : Wr → Wr) A u v ↔ Jn (id : Wr → Wr) B u v
  st : Jn (id : Wr → Wr) A s t
theorem PairL.perm {n s t : Nat} {W W' A B C : List Wr} (h : PairL n s t W A B C) (hp : W.Perm W') : PairL n s t W' A B C := ⟨h.sub.trans hp, h.fa, h.fb, h.same, h.st⟩
/-- A wire of one tree is cut, and one of the other tree is made short. -/
theorem PairL.short {n s t a b : Nat} {W A B C : List Wr} (hab : a < b) (hb : b < n) (hn : In (id : Wr → Wr) n C) (sub : (A ++ (B ++ C)).Perm W) (fa : Fo (id : Wr → Wr) n (A ++ [(a, b)])) (fb : Fo (id : Wr → Wr) n (B ++ [(a, b)])) (same : ∀ u v, Jn (id : Wr → Wr) (A ++ [(a, b)]) u v ↔ Jn (id : Wr → Wr) (B ++ [(a, b)]) u v) (st : Jn (id : Wr → Wr) (A ++ [(a, b)]) s t) : PairL (n - 1) (plc a b s) (plc a b t) (shW a b W) (A.map (cw a b)) (B.map (cw a b)) (shW a b C) := by
  have key : ∀ {A : List Wr}, Fo (id : Wr → Wr) n (A ++ [(a, b)]) → A.filter (fun w => decide (plc a b w.1 ≠ plc a b w.2)) = A := fun {A} h => by
    refine List.filter_eq_self.2 fun w hw => decide_eq_true fun k => ?_
    have hp : (A ++ [(a, b)]).Perm (w :: (A.erase w ++ [(a, b)])) := (List.perm_cons_erase hw).append_right _
    refine (h.perm hp).head ((jn_short (L := A.erase w) hab).1 ?_)
    show Jn id _ (plc a b w.1) (plc a b w.2)
    rw [k]; rfl
  refine ⟨?_, (fo_short hab hb (fun w hw => fa.1 w (List.mem_append_left _ hw))).2 fa, (fo_short hab hb (fun w hw => fb.1 w (List.mem_append_left _ hw))).2 fb, fun x y => ?_, (jn_short hab).2 st⟩
  · have := (sub.filter fun w => decide (plc a b w.1 ≠ plc a b w.2)).map (cw a b)
    rw [List.filter_append, List.filter_append, key fa, key fb, List.map_append, List.map_append] at this
    exact this
  · obtain ⟨u, rfl⟩ := plc_sur hab x
    obtain ⟨v, rfl⟩ := plc_sur hab y
    rw [jn_short hab, jn_short hab]
    exact same u v
end Go.Wire

/-
  Plain: the games' wires as wires that join places; the number of trees as choices; two trees; who wins.
-/
namespace Go.Proofs.YtfphkpdobbffeaaDoor
open Go Go.AH Go.Wire
set_option maxRecDepth 100000
set_option maxHeartbeats 1000000

def eg (g : Gm) (i : Nat) : Nat × Nat := g.ws.getD i (0, 0)
theorem eg_ends {g : Gm} (hg : g.ok) : Wire.Ends (eg g) g.n g.ws.length := fun i hi => by
  have := hg.ends i hi
  exact ⟨by show (g.ws.getD i (0, 0)).1 < _; omega, this.2⟩
theorem eg_map (g : Gm) : (List.range g.ws.length).map (eg g) = g.ws := by
  refine List.ext_getElem (by simp) fun i h1 h2 => ?_
  rw [List.getElem_map, List.getElem_range, eg, List.getD_eq_getElem?_getD, List.getElem?_eq_getElem h2]; rfl
theorem root_fold {g : Gm} (hg : g.ok) : ∀ (l : List Nat), (∀ i ∈ l, i < g.ws.length) → ∀ u, u < 8 → root (((l.reverse).map Int.ofNat).foldl (joinF g) (aloneSt 8)) u = Wire.lb (eg g) l u
  | [], _, u, hu => alone_root hu
  | i :: l, h, u, hu => by
    have he := hg.ends i (h i (List.mem_cons_self ..))
    have h8 := hg.n8
    have ih := root_fold hg l fun j hj => h j (List.mem_cons_of_mem _ hj)
    have hG : Grp (((l.reverse).map Int.ofNat).foldl (joinF g) (aloneSt 8)) := Grp.fold hg _ _ Grp.alone fun y hy => by
      obtain ⟨j, hj, rfl⟩ := List.mem_map.1 hy
      exact h j (List.mem_cons_of_mem _ (List.mem_reverse.1 hj))
    rw [List.reverse_cons, List.map_append, List.foldl_append]
    show root (joinL _ (g.ws.getD i (0, 0)).1 (g.ws.getD i (0, 0)).2) u = _
    rw [root_joinL hG (by omega) (by omega) u hu, ih u hu, ih _ (show (g.ws.getD i (0, 0)).1 < 8 by omega), ih _ (show (g.ws.getD i (0, 0)).2 < 8 by omega)]
    rfl
theorem memN_lt {k n : Nat} (hk : k ≤ 10) (hn : n < 2 ^ k) {i : Nat} (hi : i ∈ memN n) : i < k := lt_len hn (List.mem_filter.1 hi).2
theorem ws1024 {g : Gm} (hg : g.ok) : 2 ^ g.ws.length ≤ 1024 := Nat.pow_le_pow_right (by omega) hg.len
theorem root_lb {g : Gm} (hg : g.ok) {a : Nat} (ha : a < 2 ^ g.ws.length) {u : Nat} (hu : u < 8) : root (keptL g a) u = Wire.lb (eg g) (memN a).reverse u := by
  rw [← root_fold hg (memN a).reverse (fun i hi => memN_lt hg.len ha (List.mem_reverse.1 hi)) u hu, List.reverse_reverse]; rfl
theorem comps_cp {g : Gm} (hg : g.ok) {a : Nat} (ha : a < 2 ^ g.ws.length) : comps (keptL g a) g.n = cp (eg g) g.n (memN a) := by
  rw [← cp_congr (l := (memN a).reverse) (fun u v => jn_perm (List.reverse_perm _))]
  have h8 := hg.n8
  refine List.countP_congr fun u hu => ?_
  have := List.mem_range.1 hu
  rw [root_lb hg ha (by omega)]
theorem eg_in {g : Gm} (hg : g.ok) {a : Nat} (ha : a < 2 ^ g.ws.length) : In (eg g) g.n (memN a) := fun i hi => eg_ends hg i (memN_lt hg.len ha hi)
theorem acy_fo {g : Gm} (hg : g.ok) {a : Nat} (ha : a < 2 ^ g.ws.length) : acyF g (aloneSt 8) (mem a) = true ↔ Fo (eg g) g.n (memN a) := by
  have h := (acy_comps hg (mem a) (aloneSt 8) Grp.alone fun y hy => (mem_lt hg.len ha hy).2).2
  rw [show (mem a).foldl (joinF g) (aloneSt 8) = keptL g a from rfl, comps_alone hg.n8, comps_cp hg ha, show (mem a).length = (memN a).length by simp [mem]] at h
  rw [h]
  exact ⟨fun k => ⟨eg_in hg ha, k⟩, fun k => k.2⟩
theorem tree_full {g : Gm} (hg : g.ok) {a : Nat} (ha : a < 2 ^ g.ws.length) : isTreeB g a (2 ^ g.n - 1) = true ↔ Fo (eg g) g.n (memN a) ∧ (memN a).length + 1 = g.n := by
  have h2 := hg.n2
  have hpf := pop_full g.n hg.n8
  have hG : Grp (keptL g a) := Grp.fold hg (mem a) _ Grp.alone fun y hy => (mem_lt hg.len ha hy).2
  have hco := comps_one hG (n := g.n) (by omega) hg.n8
  rw [isTreeB, Bool.and_eq_true, Bool.and_eq_true, decide_eq_true_eq, decide_eq_true_eq, acy_fo hg ha, hpf]
  constructor
  · rintro ⟨⟨h3, h4⟩, h5⟩
    exact ⟨h5, by show pop a + 1 = _; omega⟩
  · rintro ⟨h5, h6⟩
    have h7 : pop a + 1 = g.n := h6
    have h8 := h5.2
    refine ⟨⟨places_all hg ha (hco.1 ?_), by omega⟩, h5⟩
    rw [comps_cp hg ha]; omega
/-- The number of trees, as choices of wires. -/
theorem memN_add {k a : Nat} (hk : k < 10) (ha : a < 2 ^ k) : memN (2 ^ k + a) = memN a ++ [k] := by
  have hb : ∀ i, (2 ^ k + a).testBit i = (decide (i = k) || a.testBit i) := fun i => by
    have h := Nat.testBit_two_pow_mul_add 1 ha i
    rw [Nat.mul_one] at h
    rw [h]
    by_cases h1 : i < k
    · rw [if_pos h1, decide_eq_false (by omega)]; rfl
    · rw [if_neg h1]
      have : a.testBit i = false := Nat.testBit_lt_two_pow (Nat.lt_of_lt_of_le ha (Nat.pow_le_pow_right (by omega) (by omega)))
      rw [this, Bool.or_false, Wire.one_tst]
      exact decide_eq_decide.2 (by omega)
  have hs : (List.range 10).filter (2 ^ k + a).testBit = (List.range (k + 1)).filter (2 ^ k + a).testBit := range_filter _ 10 (by omega) fun i hi => by
    rw [hb, decide_eq_false (by omega), Bool.false_or]
    exact Nat.testBit_lt_two_pow (Nat.lt_of_lt_of_le ha (Nat.pow_le_pow_right (by omega) (by omega)))
  have hs2 : (List.range 10).filter a.testBit = (List.range k).filter a.testBit := range_filter _ 10 (by omega) fun i hi => Nat.testBit_lt_two_pow (Nat.lt_of_lt_of_le ha (Nat.pow_le_pow_right (by omega) hi))
  rw [memN, memN, hs, hs2, List.range_succ, List.filter_append]
  congr 1
  · refine List.filter_congr fun i hi => ?_
    have := List.mem_range.1 hi
    rw [hb, decide_eq_false (by omega), Bool.false_or]
  · rw [List.filter_cons_of_pos (by rw [hb, decide_eq_true rfl]; rfl)]; rfl
theorem cnt_choices (e : Nat → Nat × Nat) (P : List Wr → Bool) : ∀ k, k ≤ 10 → ∀ L, (List.range (2 ^ k)).countP (fun a => P ((memN a).map e ++ L)) = cS P (((List.range k).reverse).map e) L
  | 0, _, L => by
    show [0].countP (fun a => P ((memN a).map e ++ L)) = if P L then 1 else 0
    rw [List.countP_cons, List.countP_nil, memN_zero]
    simp
  | k + 1, hk, L => by
    have ih := cnt_choices e P k (by omega)
    rw [show 2 ^ (k + 1) = 2 ^ k + 2 ^ k by rw [Nat.pow_succ]; omega, List.range_add, List.countP_append, List.countP_map, ih L, List.range_succ, List.reverse_append]
    show _ = cS P (((List.range k).reverse).map e) L + cS P (((List.range k).reverse).map e) (e k :: L)
    rw [← ih (e k :: L)]
    congr 1
    refine List.countP_congr fun a ha => ?_
    have := List.mem_range.1 ha
    show P ((memN (2 ^ k + a)).map e ++ L) = true ↔ _
    rw [memN_add (by omega) this, List.map_append, List.append_assoc]; rfl
theorem cnt_tau {g : Gm} (hg : g.ok) : cntT g (2 ^ g.ws.length) = cS (treeB g.n) g.ws [] := by
  have h1 := cnt_choices (eg g) (treeB g.n) g.ws.length hg.len []
  have h2 : cS (treeB g.n) (((List.range g.ws.length).reverse).map (eg g)) [] = cS (treeB g.n) g.ws [] := cS_perm (fun h => treeB_perm h) (by
    have := (List.reverse_perm (List.range g.ws.length)).map (eg g)
    rw [eg_map] at this
    exact this) []
  rw [← h2, ← h1]
  refine List.countP_congr fun a ha => ?_
  have ha := List.mem_range.1 ha
  have hin : In (id : Wr → Wr) g.n ((memN a).map (eg g) ++ []) := fun w hw => by
    rw [List.append_nil] at hw
    obtain ⟨i, hi, rfl⟩ := List.mem_map.1 hw
    exact eg_in hg ha i hi
  rw [tree_full hg ha, treeB_iff hin, List.append_nil, fo_map, List.length_map]
/-! Two trees. -/
def bm : List Nat → Nat
  | [] => 0
  | i :: l => bm l ||| 2 ^ i
/-! Lehman. -/
/-- One wire more, between the ends. -/
def ez (g : Gm) (i : Nat) : Nat × Nat := if i = g.ws.length then (g.s, g.t) else eg g i
end Go.Proofs.YtfphkpdobbffeaaDoor

/-
  Contracts: a copy of wires, one wire taken away; the game without a wire, by the program.
-/
namespace Go.Proofs.YtfphkpdobbffeaaDoor
open Go Go.AH
set_option maxRecDepth 100000
set_option maxHeartbeats 1000000

/-- The game without a wire. -/
def lessG (g : Gm) (w : Nat) : Gm := ⟨g.n, g.s, g.t, g.ws.take w ++ g.ws.drop (w + 1)⟩
theorem game_ends {g : Gm} (h : g.game) : g.s ≠ g.t := by
  have h1 := h.1
  unfold bad0 at h1
  omega
theorem clone_spec {ws : List (Nat × Nat)} (h : 0 < ws.length) (h10 : ws.length ≤ 10) : FDet Tryd.prog 79 [.c (.rs 0 0 ws.length)] [(0, .ro (ints (fl ws)))] 1 (.c (.row 1 ws.length)) [(1, .row 60 2 (ints (fl ws)))] 2 := by
  have hl : (ints (fl ws)).length = ws.length * 2 := by rw [ints_len, fl_len]
  have ht : ((ints (fl ws)).drop 0).take (ws.length * 2) = ints (fl ws) := by rw [List.drop_zero, ← hl, List.take_length]
  refine FSpec.of_body tok true Tryd.func79 rfl (by kernel_rfl) (by decide) (by simp [tupA, hpLt, tmLt, AV.lt, AE.lt, AC.lt, LL_cons, LL_nil, idOk, ABlk.lt, ints_LL, GB, tab64_LL, gC, wB, giC, noneB, gst, tC, pC, gN, gR, rC, rB]) (by simp [tupA, hpLt, tmLt, AV.lt, AE.lt, AC.lt, LL_cons, LL_nil, idOk, ABlk.lt, ints_LL, GB, tab64_LL, gC, wB, giC, noneB, gst, tC, pC, gN, gR, rC, rB]) (by show 1 ≤ _; decide) ?_
  refine Wk.on ?_
  refine ⟨by rw [hl]; show 0 + ws.length * 2 ≤ _; omega, ?_⟩
  refine Wk.on ?_
  refine ⟨⟨Nat.le_of_ble_eq_true rfl, by show 0 < 0 + ws.length; omega, Nat.le_of_ble_eq_true rfl, by show ((0 + ws.length : Nat) : Int) * 16 ≤ _; omega, by show 0 + ws.length ≤ _; omega⟩, ?_⟩
  rw [show (((rep 0 [AC.int .i64 0, AC.int .i64 0]).drop 0).take (0 * 2) ++ ((ints (fl ws)).drop 0).take (ws.length * 2)) = ints (fl ws) from ht, Nat.zero_add]
  refine Wk.on ?_
  exact AH.Fin.new [2] _ _ ⟨rfl, rfl, rfl⟩ rfl ⟨by show some _ = some _; exact congrArg (fun l => some (ABlk.row 60 2 l)) (ints_ren _ _).symm, trivial⟩ rfl (by simp [tupA, hpLt, tmLt, AV.lt, AE.lt, AC.lt, LL_cons, LL_nil, idOk, ABlk.lt, ints_LL, GB, tab64_LL, gC, wB, giC, noneB, gst, tC, pC, gN, gR, rC, rB]) (by simp [tupA, hpLt, tmLt, AV.lt, AE.lt, AC.lt, LL_cons, LL_nil, idOk, ABlk.lt, ints_LL, GB, tab64_LL, gC, wB, giC, noneB, gst, tC, pC, gN, gR, rC, rB])
theorem openWire_ok {g : Gm} (hg : g.game) {i : Nat} (hi : i < g.ws.length) : FDet Tryd.prog 77 [.g (gC g 0), .c (.int .i64 i)] [(0, wB g)] 1 (.c (.int .i64 0)) [] 1 := by
  have hc := check_ok hg
  refine FSpec.of_body tok true Tryd.func77 rfl (by kernel_rfl) (by decide) (by simp [tupA, hpLt, tmLt, AV.lt, AE.lt, AC.lt, LL_cons, LL_nil, idOk, ABlk.lt, ints_LL, GB, tab64_LL, gC, wB, giC, noneB, gst, tC, pC, gN, gR, rC, rB]) (by simp [tupA, hpLt, tmLt, AV.lt, AE.lt, AC.lt, LL_cons, LL_nil, idOk, ABlk.lt, ints_LL, GB, tab64_LL, gC, wB, giC, noneB, gst, tC, pC, gN, gR, rC, rB]) (by show 2 ≤ _; decide) ?_
  refine Wk.on ?_
  refine CallA.ro [0] (.c (.int .i64 0)) (hc) (by first | rfl | exact congrArg AV.g (ints_ren _ _) | (simp [ints_ren, AV.ren, ABlk.ren, AC.ren, AE.ren, qq]; done)) rfl (by (repeat (first | exact trivial | refine ⟨⟨(by first | exact .inl (by decide) | exact .inr (by decide)), (by first | (refine Or.inl ?_; first | rfl | exact congrArg some (ints_ren _ _).symm | exact congrArg ABlk.own (ints_ren _ _).symm | exact congrArg some (tab64_ren _).symm | exact congrArg (ABlk.row _ _) (ints_ren _ _).symm) | rfl | exact congrArg some (ints_ren _ _).symm | exact congrArg ABlk.own (ints_ren _ _).symm | exact congrArg some (tab64_ren _).symm | exact congrArg (ABlk.row _ _) (ints_ren _ _).symm | exact Or.inr ⟨rfl, rfl⟩)⟩, ?_⟩))) (by first | rfl | exact congrArg AV.g (ints_ren _ _) | (simp [ints_ren, AV.ren, ABlk.ren, AC.ren, AE.ren, qq]; done)) ?_
  refine Wk.on ?_
  rw [decide_eq_false (show ¬ ((i : Nat) : Int) < 0 by omega)]
  refine Wk.on ?_
  rw [decide_eq_false (show ¬ ((g.ws.length : Nat) : Int) ≤ ((i : Nat) : Int) by omega)]
  refine Wk.on ?_
  exact AH.Fin.nil [] ⟨rfl, rfl, rfl⟩ (by first | exact trivial | (simp [tupA, hpLt, tmLt, AV.lt, AE.lt, AC.lt, LL_cons, LL_nil, idOk, ABlk.lt, ints_LL, GB, tab64_LL, gC, wB, giC, noneB, gst, tC, pC, gN, gR, rC, rB]; done) | (simp [tupA, hpLt, tmLt, AV.lt, AE.lt, AC.lt, LL_cons, LL_nil, idOk, ABlk.lt, ints_LL, GB, tab64_LL, gC, wB, giC, noneB, gst, tC, pC, gN, gR, rC, rB, rdn, wrn]; done)) trivial trivial rfl (by simp [GB])
theorem lessG_len {g : Gm} {w : Nat} (hw : w < g.ws.length) : (lessG g w).ws.length = g.ws.length - 1 := by
  show (g.ws.take w ++ g.ws.drop (w + 1)).length = _
  rw [List.length_append, List.length_take, List.length_drop]; omega
theorem cutZ {M Z P : List AC} {k : Nat} (hM : M.length = k) (hZ : Z.length ≤ 2) : (M ++ Z).take k ++ P ++ (M ++ Z).drop (k + 2) = M ++ P := by
  rw [← hM, List.take_left, List.drop_of_length_le (by rw [List.length_append]; omega), List.append_nil]
/-- One wire taken away: what lies in the row then. -/
theorem del_cells (W : List (Nat × Nat)) (i d : Nat) (hd : W.length = i + 1 + d) (P : List AC) : ((ints (fl W)).take (i * 2) ++ ((ints (fl W)).drop ((i + 1) * 2)).take (d * 2) ++ (ints (fl W)).drop (i * 2 + d * 2)).take ((i + d) * 2) ++ P ++ ((ints (fl W)).take (i * 2) ++ ((ints (fl W)).drop ((i + 1) * 2)).take (d * 2) ++ (ints (fl W)).drop (i * 2 + d * 2)).drop ((i + d) * 2 + 2) = ints (fl (W.take i ++ W.drop (i + 1))) ++ P := by
  have hl : (ints (fl W)).length = W.length * 2 := by rw [ints_len, fl_len]
  have e1 : (ints (fl W)).take (i * 2) = ints (fl (W.take i)) := by rw [fl_take]; simp [ints]
  have e2 : ((ints (fl W)).drop ((i + 1) * 2)).take (d * 2) = ints (fl (W.drop (i + 1))) := by
    rw [List.take_of_length_le (by rw [List.length_drop, hl]; omega), fl_drop]; simp [ints]
  have e3 : ints (fl (W.take i)) ++ ints (fl (W.drop (i + 1))) = ints (fl (W.take i ++ W.drop (i + 1))) := by simp [ints, fl]
  rw [e1, e2, e3]
  exact cutZ (by rw [ints_len, fl_len, List.length_append, List.length_take, List.length_drop]; omega) (by rw [List.length_drop, hl]; omega)
theorem delete_spec (W : List (Nat × Nat)) (hW : W.length ≤ 10) (i : Nat) (hi : i < W.length) : FDet Tryd.prog 78 [.c (.row 0 W.length), .c (.int .i64 i), .c (.int .i64 ((i : Int) + 1))] [(0, .row 60 2 (ints (fl W)))] 1 (.c (.row 0 (W.length - 1))) [(0, .row 60 2 (ints (fl (W.take i ++ W.drop (i + 1)))))] 1 := by
  have hl : (ints (fl W)).length = W.length * 2 := by rw [ints_len, fl_len]
  obtain ⟨d, hd⟩ : ∃ d, W.length = i + 1 + d := ⟨W.length - (i + 1), by omega⟩
  have hdc := del_cells W i d hd (ints [0, 0])
  refine FDet.cutRow (ys := ints [0, 0]) ?_
  have hcat : ints (fl (W.take i ++ W.drop (i + 1))) ++ ints [0, 0] = ints (fl (W.take i ++ W.drop (i + 1)) ++ [0, 0]) := by simp [ints]
  rw [hcat] at hdc ⊢
  have hDL : LL 1 (ints (fl (W.take i ++ W.drop (i + 1)) ++ [0, 0])) := ints_LL _ _
  generalize ints (fl (W.take i ++ W.drop (i + 1)) ++ [0, 0]) = D at *
  generalize hX : ints (fl W) = X at *
  have hXL : LL 1 X := hX ▸ ints_LL _ _
  clear hX hcat
  rw [hd] at hl hW ⊢
  clear hd hi
  have e2 : i + 1 + d - (i + 1) = d := by omega
  refine FSpec.capRow (z := 2) rfl (Go.Proofs.enters_of Tryd.func78 (by kernel_rfl) rfl) fun c hc1 hc2 => ?_
  refine FDet.post (r := .c (.rp 0 0 (i + 1 + d - 1) c 2)) (hq := [(0, .row 60 2 D)]) (k' := 1) ?_ _ _ ⟨rfl, rfl, rfl⟩ ⟨⟨⟨rfl, rfl⟩, .inl rfl⟩, trivial⟩ (by simp [tupA, hpLt, tmLt, AV.lt, AE.lt, AC.lt, LL_cons, LL_nil, idOk, ABlk.lt, ints_LL, GB, tab64_LL, gC, wB, giC, noneB, gst, tC, pC, gN, gR, rC, rB]) ⟨.inl (by decide), hDL, trivial⟩ rfl
  show FDet Tryd.prog 78 [.c (.rp 0 0 (i + 1 + d) c 2), .c (.int .i64 i), .c (.int .i64 ((i : Int) + 1))] _ 1 _ _ 1
  refine FSpec.of_body tok true Tryd.func78 rfl (by kernel_rfl) (by decide) (by simp [tupA, hpLt, tmLt, AV.lt, AE.lt, AC.lt, LL_cons, LL_nil, idOk, ABlk.lt, ints_LL, GB, tab64_LL, gC, wB, giC, noneB, gst, tC, pC, gN, gR, rC, rB]) ⟨.inl (by decide), hXL, trivial⟩ (by show 3 ≤ _; decide) ?_
  refine Wk.on ?_
  refine ⟨⟨rfl, rfl, by show (0 : Int) ≤ i; omega, by show (i : Int) ≤ i + 1; omega, by omega, by omega⟩, ?_⟩
  refine Wk.on ?_
  rw [decide_eq_false (show ¬ ((i : Nat) : Int) = ((i : Nat) : Int) + 1 by omega)]
  refine Wk.on ?_
  refine Tr.draw (md := true) [⟨[], [21, 23, 24, 25], [], [], []⟩, ⟨[], [20, 23, 24, 25], [0], [], []⟩, ⟨[0, 1], [23, 24, 25], [], [], []⟩, ⟨[], [20, 21, 22, 24], [0, 1, 2], [], []⟩, ⟨[], [20, 21, 22, 23], [0, 1, 2, 3], [], []⟩, ⟨[3, 4], [20, 21, 22], [0, 1, 2], [], []⟩] tok (by kernel_rfl) (by kernel_rfl) ?_
  refine Wk.on ?_
  refine ⟨⟨rfl, Int.le_refl 0, by show (0 : Int) ≤ i; omega, by show (i : Int) ≤ c; omega⟩, fun _ => ?_, fun h => absurd (Or.inl rfl) h⟩
  refine Wk.on ?_
  refine ⟨⟨rfl, by show (0 : Int) ≤ (i : Int) + 1; omega, by show (i : Int) + 1 ≤ ((i + 1 + d : Nat) : Int); omega, by show ((i + 1 + d : Nat) : Int) ≤ c; omega⟩, fun hlo => ?_, fun hlo => ?_⟩
  · have e1 : ((i : Int) + 1).toNat = i + 1 := by omega
    refine Wk.on ?_
    simp only [Option.getD_some, Option.getD_none, Int.toNat_natCast, Int.toNat_zero, Nat.sub_zero, Nat.zero_add, e1, e2]
    refine ⟨⟨by first | rfl | trivial, by show (i + 1) * 2 + d * 2 ≤ X.length; omega⟩, ?_⟩
    refine Wk.on ?_
    refine ⟨⟨by first | rfl | trivial, by first | rfl | trivial, by first | rfl | trivial, by show 0 * 2 + i * 2 ≤ X.length; omega⟩, fun _ => ?_, fun h => by (exfalso; omega)⟩
    refine Wk.on ?_
    refine ⟨⟨rfl, by show (0 : Int) ≤ ((i + d : Nat) : Int); omega, by show ((i + d : Nat) : Int) ≤ ((i + 1 + d : Nat) : Int); omega, by show ((i + 1 + d : Nat) : Int) ≤ c; omega⟩, fun _ => ?_, fun h => absurd (Or.inr (by show ((i + d : Nat) : Int) < c; omega)) h⟩
    refine Wk.on ?_
    have e3 : i + 1 + d - (i + d) = 1 := by omega
    simp only [Option.getD_some, Option.getD_none, Int.toNat_natCast, Int.toNat_zero, Nat.sub_zero, Nat.zero_add, Nat.zero_mul, e3]
    refine ⟨⟨by first | rfl | trivial, by first | rfl | trivial, by simp only [List.length_append, List.length_take, List.length_drop]; show (i + d) * 2 ≤ _; omega⟩, ?_⟩
    refine Wk.on ?_
    exact Fin.nil [(0, .row 60 2 D)] ⟨by rw [show i + 1 + d - 1 = i + d by omega]; rfl, rfl, rfl⟩ (Or.inl (by show 0 < 1; omega)) ⟨congrArg (ABlk.row 60 2) hdc, trivial⟩ ⟨.inl (by show 0 < 1; omega), hDL, trivial⟩ rfl (by simp [GB])
  · obtain ⟨rfl, rfl⟩ : d = 0 ∧ c = i + 1 := by
      have h1 : ¬ ((i : Int) + 1 = 0 ∨ (i : Int) + 1 < c) := hlo
      omega
    refine Wk.on ?_
    simp only [Option.getD_some, Option.getD_none, Int.toNat_natCast, Int.toNat_zero, Nat.sub_zero, Nat.zero_add, Nat.zero_mul, Nat.add_zero]
    refine ⟨⟨by first | rfl | trivial, by first | rfl | trivial, by first | rfl | trivial, by show i * 2 ≤ X.length; omega⟩, fun _ => ?_, fun h => by (exfalso; omega)⟩
    refine Wk.on ?_
    refine ⟨⟨by first | rfl | trivial, by show (0 : Int) ≤ ((i : Nat) : Int); omega, by show ((i : Nat) : Int) ≤ ((i + 1 : Nat) : Int); omega, by show ((i + 1 : Nat) : Int) ≤ ((i + 1 : Nat) : Int); omega⟩, fun _ => ?_, fun h => absurd (Or.inr (by show ((i : Nat) : Int) < ((i + 1 : Nat) : Int); omega)) h⟩
    refine Wk.on ?_
    have e3 : i + 1 - i = 1 := by omega
    simp only [Option.getD_some, Option.getD_none, Int.toNat_natCast, Int.toNat_zero, Nat.sub_zero, Nat.zero_add, Nat.zero_mul, e3]
    refine ⟨⟨by first | rfl | trivial, by first | rfl | trivial, by simp only [List.length_append, List.length_take, List.length_drop]; show i * 2 ≤ _; omega⟩, ?_⟩
    refine Wk.on ?_
    exact Fin.nil [(0, .row 60 2 D)] ⟨rfl, rfl, rfl⟩ (Or.inl (by show 0 < 1; omega)) ⟨by show ABlk.row 60 2 _ = ABlk.row 60 2 D; rw [← hdc]; simp; rfl, trivial⟩ ⟨.inl (by show 0 < 1; omega), hDL, trivial⟩ rfl (by simp [GB])
theorem without_ok {g : Gm} (hg : g.game) {i : Nat} (hi : i < g.ws.length) : FDet Tryd.prog 37 [.g (gC g 0), .c (.int .i64 i)] [(0, wB g)] 1 (.t [.g (gR (lessG g i) 1), .c (.int .i64 0)]) [(1, .row 60 2 (ints (fl (lessG g i).ws)))] 2 := by
  have hl10 := hg.ok.len
  have hc := clone_spec (ws := g.ws) (by omega) hl10
  have hd := delete_spec g.ws hl10 i hi
  rw [← lessG_len hi] at hd
  change FDet Tryd.prog _ _ _ _ _ [(0, .row 60 2 (ints (fl (lessG g i).ws)))] _ at hd
  have h3 : (lessG g i).n = g.n ∧ (lessG g i).s = g.s ∧ (lessG g i).t = g.t := ⟨rfl, rfl, rfl⟩
  show FDet Tryd.prog _ _ _ _ (.t [.g [.int .i64 g.n, .int .i64 g.s, .int .i64 g.t, .row 1 (lessG g i).ws.length], .c (.int .i64 0)]) _ _
  generalize (lessG g i).ws = L at *
  refine FSpec.of_body tok true Tryd.func37 rfl (by kernel_rfl) (by decide) (by simp [tupA, hpLt, tmLt, AV.lt, AE.lt, AC.lt, LL_cons, LL_nil, idOk, ABlk.lt, ints_LL, GB, tab64_LL, gC, wB, giC, noneB, gst, tC, pC, gN, gR, rC, rB]) (by simp [tupA, hpLt, tmLt, AV.lt, AE.lt, AC.lt, LL_cons, LL_nil, idOk, ABlk.lt, ints_LL, GB, tab64_LL, gC, wB, giC, noneB, gst, tC, pC, gN, gR, rC, rB]) (by show 2 ≤ _; decide) ?_
  refine Wk.on ?_
  refine CallA.ro [0] (.c (.int .i64 0)) (openWire_ok hg hi) (by first | rfl | exact congrArg AV.g (ints_ren _ _) | (simp [ints_ren, AV.ren, ABlk.ren, AC.ren, AE.ren, qq]; done)) rfl (by (repeat (first | exact trivial | refine ⟨⟨(by first | exact .inl (by decide) | exact .inr (by decide)), (by first | (refine Or.inl ?_; first | rfl | exact congrArg some (ints_ren _ _).symm | exact congrArg ABlk.own (ints_ren _ _).symm | exact congrArg some (tab64_ren _).symm | exact congrArg (ABlk.row _ _) (ints_ren _ _).symm) | rfl | exact congrArg some (ints_ren _ _).symm | exact congrArg ABlk.own (ints_ren _ _).symm | exact congrArg some (tab64_ren _).symm | exact congrArg (ABlk.row _ _) (ints_ren _ _).symm | exact Or.inr ⟨rfl, rfl⟩)⟩, ?_⟩))) (by first | rfl | exact congrArg AV.g (ints_ren _ _) | (simp [ints_ren, AV.ren, ABlk.ren, AC.ren, AE.ren, qq]; done)) ?_
  refine Wk.on ?_
  refine Tr.draw (md := true) [⟨[], [16, 17, 18, 19, 20, 21, 22, 23, 24, 25, 26], [], [], [3]⟩, ⟨[0], [16, 17, 18, 19, 20, 21, 22, 23, 24, 25, 26], [], [], [3]⟩, ⟨[], [14, 15, 18, 19, 20, 21, 22, 23, 24, 25, 26], [0, 1], [], [3]⟩, ⟨[2], [14, 15, 18, 19, 20, 21, 22, 23, 24, 25, 26], [0, 1], [], [3]⟩, ⟨[], [14, 15, 16, 17, 20, 21, 22, 23, 24, 25, 26], [0, 1, 2, 3], [], [3]⟩, ⟨[4], [14, 15, 16, 17, 20, 21, 22, 23, 24, 25, 26], [0, 1, 2, 3], [], [3]⟩, ⟨[], [14, 15, 16, 17, 18, 19, 23, 24, 25], [0, 1, 2, 3, 4, 5], [], []⟩, ⟨[6], [14, 15, 16, 17, 18, 19, 23, 24, 25], [0, 1, 2, 3, 4, 5], [], []⟩, ⟨[6, 7], [14, 15, 16, 17, 18, 19, 23, 24, 25], [0, 1, 2, 3, 4, 5], [], []⟩, ⟨[], [14, 15, 16, 17, 18, 19, 20, 21, 22, 24, 25], [0, 1, 2, 3, 4, 5, 6, 7, 8], [], []⟩, ⟨[], [14, 15, 16, 17, 18, 19, 20, 21, 22, 23], [0, 1, 2, 3, 4, 5, 6, 7, 8, 9], [], []⟩, ⟨[10], [14, 15, 16, 17, 18, 19, 20, 21, 22, 23], [0, 1, 2, 3, 4, 5, 6, 7, 8, 9], [], []⟩, ⟨[6, 7, 8, 9, 10, 11], [14, 15, 16, 17, 18, 19], [0, 1, 2, 3, 4, 5], [3], []⟩] tok (by kernel_rfl) (by kernel_rfl) ?_
  refine Wk.on ?_
  refine CallQ.new [0] (.c (.row 3 g.ws.length)) ([(3, .row 60 2 (ints (fl g.ws)))]) (hc) (by first | rfl | exact congrArg AV.g (ints_ren _ _) | (simp [ints_ren, AV.ren, ABlk.ren, AC.ren, AE.ren, qq]; done)) rfl (by (repeat (first | exact trivial | refine ⟨⟨(by first | exact .inl (by decide) | exact .inr (by decide)), (by first | (refine Or.inl ?_; first | rfl | exact congrArg some (ints_ren _ _).symm | exact congrArg ABlk.own (ints_ren _ _).symm | exact congrArg some (tab64_ren _).symm | exact congrArg (ABlk.row _ _) (ints_ren _ _).symm) | rfl | exact congrArg some (ints_ren _ _).symm | exact congrArg ABlk.own (ints_ren _ _).symm | exact congrArg some (tab64_ren _).symm | exact congrArg (ABlk.row _ _) (ints_ren _ _).symm | exact Or.inr ⟨rfl, rfl⟩)⟩, ?_⟩))) (by first | rfl | exact congrArg AV.g (ints_ren _ _) | (simp [ints_ren, AV.ren, ABlk.ren, AC.ren, AE.ren, qq]; done)) (by first | rfl | (simp [behind, gone, lk, up, del, qq, ABlk.wr, GB, ints_ren, AV.ren, ABlk.ren, AC.ren, AE.ren]; done) | (simp [behind, gone, lk, up, del, qq, ABlk.wr, GB, ints_ren, AV.ren, ABlk.ren, AC.ren, AE.ren]; rfl)) ?_
  refine Wk.on ?_
  refine CallQ.turn [3] (.c (.row 3 L.length)) ([(3, .row 60 2 (ints (fl L)))]) (hd) (by first | rfl | exact congrArg AV.g (ints_ren _ _) | (simp [ints_ren, AV.ren, ABlk.ren, AC.ren, AE.ren, qq]; done)) rfl (by (repeat (first | exact trivial | refine ⟨⟨(by first | exact .inl (by decide) | exact .inr (by decide)), (by first | (refine Or.inl ?_; first | rfl | exact congrArg some (ints_ren _ _).symm | exact congrArg ABlk.own (ints_ren _ _).symm | exact congrArg some (tab64_ren _).symm | exact congrArg (ABlk.row _ _) (ints_ren _ _).symm) | rfl | exact congrArg some (ints_ren _ _).symm | exact congrArg ABlk.own (ints_ren _ _).symm | exact congrArg some (tab64_ren _).symm | exact congrArg (ABlk.row _ _) (ints_ren _ _).symm | exact Or.inr ⟨rfl, rfl⟩)⟩, ?_⟩))) (by first | rfl | exact congrArg AV.g (ints_ren _ _) | (simp [ints_ren, AV.ren, ABlk.ren, AC.ren, AE.ren, qq]; done)) (by first | rfl | (simp [qq, GB, ints_ren, AV.ren, ABlk.ren, AC.ren, AE.ren]; done) | (simp [qq, GB, ints_ren, AV.ren, ABlk.ren, AC.ren, AE.ren]; rfl)) ?_
  refine Wk.on ?_
  exact AH.Fin.new [3] _ _ ⟨rfl, rfl, rfl⟩ rfl ⟨by show some _ = some _; exact congrArg (fun l => some (ABlk.row 60 2 l)) (ints_ren _ _).symm, trivial⟩ rfl (by simp [tupA, hpLt, tmLt, AV.lt, AE.lt, AC.lt, LL_cons, LL_nil, idOk, ABlk.lt, ints_LL, GB, tab64_LL, gC, wB, giC, noneB, gst, tC, pC, gN, gR, rC, rB]) (by simp [tupA, hpLt, tmLt, AV.lt, AE.lt, AC.lt, LL_cons, LL_nil, idOk, ABlk.lt, ints_LL, GB, tab64_LL, gC, wB, giC, noneB, gst, tC, pC, gN, gR, rC, rB])
theorem without_rs {g : Gm} (hg : g.game) {i : Nat} (hi : i < g.ws.length) : FDet Tryd.prog 37 [.g (gC g 0), .c (.int .i64 i)] [(0, wB g)] 1 (.t [.g (gC (lessG g i) 1), .c (.int .i64 0)]) [(1, .row 60 2 (ints (fl (lessG g i).ws)))] 2 :=
  FDet.post (without_ok hg hi) _ _ ⟨.inr ⟨rfl, rfl, rfl, ⟨⟨rfl, rfl, rfl⟩, trivial⟩, trivial⟩, rfl, trivial⟩ ⟨⟨⟨rfl, rfl⟩, .inl rfl⟩, trivial⟩ (by
    intro e he
    simp only [List.mem_cons, List.not_mem_nil, or_false] at he
    rcases he with rfl | rfl
    · exact gC_LL (.inl (by decide))
    · trivial) (by simp [tupA, hpLt, tmLt, AV.lt, AE.lt, AC.lt, LL_cons, LL_nil, idOk, ABlk.lt, ints_LL, GB, tab64_LL, gC, wB, giC, noneB, gst, tC, pC, gN, gR, rC, rB]) rfl
def zeroT : AV := .t [.g [.int .i64 0, .int .i64 0, .int .i64 0, .nils], .c (.int .i64 1)]
/-! Games. -/
theorem game_of {g : Gm} (h2 : 2 ≤ g.n) (h8 : g.n ≤ 8) (hs : g.s < g.n) (ht : g.t < g.n) (hst : g.s ≠ g.t) (hl : g.ws.length ≤ 10) (hT : Tm g.n g.ws) : g.game := by
  obtain ⟨hw, hp⟩ := hT
  obtain ⟨n, s, t, L⟩ := g
  dsimp only at *
  show isGame n s t (fl L) L.length
  refine ⟨by unfold bad0; omega, fun i hi => ?_⟩
  have hg : ∀ j, j < L.length → (L.getD j (0, 0)) ∈ L := fun j hj => by
    rw [List.getD_eq_getElem?_getD, List.getElem?_eq_getElem hj]; exact List.getElem_mem hj
  have hwi := hw _ (hg i hi)
  unfold badW
  rw [(fl_get L i).1, (fl_get L i).2]
  have hc : 0 < i → ¬ 0 < cmpL (win (fl L) ((i - 1) * 2) 2) (win (fl L) (i * 2) 2) := fun h0 => by
    have hle : leW (L.getD (i - 1) (0, 0)) (L.getD i (0, 0)) = true := by
      have := List.pairwise_iff_getElem.1 hp (i - 1) i (by omega) hi (by omega)
      rw [List.getD_eq_getElem?_getD, List.getD_eq_getElem?_getD, List.getElem?_eq_getElem hi, List.getElem?_eq_getElem (show i - 1 < L.length by omega)]
      exact this
    rw [leW_iff] at hle
    have hfl := fl_len L
    rw [win2 (by omega), win2 (by omega), (fl_get L i).1, (fl_get L i).2, (fl_get L (i - 1)).1, (fl_get L (i - 1)).2]
    simp only [cmpL]
    unfold cmpI
    split <;> omega
  omega
theorem tame_Tm (x : Rw) {pl most : Nat} (h1 : 2 ≤ pl) : Tm (tame x pl most).n (tame x pl most).ws :=
  (tameA_Tm x (n := tameN x pl) (most := most) (by unfold tameN; omega) _ (Nat.le_refl _)).1
theorem Tm.sub {n : Nat} {l l' : List (Nat × Nat)} (h : Tm n l) (hs : l'.Sublist l) : Tm n l' := ⟨fun w hw => h.1 w (hs.subset hw), h.2.sublist hs⟩
theorem lessG_sub (g : Gm) (w : Nat) : (lessG g w).ws.Sublist g.ws := by
  show (g.ws.take w ++ g.ws.drop (w + 1)).Sublist g.ws
  rw [← List.eraseIdx_eq_take_drop_succ]
  exact List.eraseIdx_sublist _ _
theorem lessG_Tm {g : Gm} (hT : Tm g.n g.ws) (w : Nat) : Tm (lessG g w).n (lessG g w).ws := hT.sub (lessG_sub g w)
theorem lessG_game {g : Gm} (hg : g.game) (hT : Tm g.n g.ws) (w : Nat) : (lessG g w).game :=
  game_of hg.ok.n2 hg.ok.n8 hg.ok.s hg.ok.t (show g.s ≠ g.t from game_ends hg) (Nat.le_trans (lessG_sub g w).length_le hg.ok.len) (lessG_Tm hT w)
end Go.Proofs.YtfphkpdobbffeaaDoor

/-
  Plain: keeping and cutting wires; the game without a wire.
-/
namespace Go.Proofs.YtfphkpdobbffeaaDoor
open Go Go.AH Go.Wire
set_option maxRecDepth 100000
set_option maxHeartbeats 1000000

/-! Other numbers for the wires. -/
def upW (w i : Nat) : Nat := if i < w then i else i + 1
end Go.Proofs.YtfphkpdobbffeaaDoor
