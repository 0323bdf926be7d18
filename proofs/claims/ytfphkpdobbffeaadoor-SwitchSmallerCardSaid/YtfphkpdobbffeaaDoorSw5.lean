/-
  Plain law: who wins, without shortcuts.
-/
import Derived.Test.YtfphkpdobbffeaaDoorSw4
import Derived.Test.YtfphkpdobbffeaaDoorAh6
import Derived.Laws.RangeString
set_option linter.unusedSimpArgs false
set_option linter.unusedVariables false
namespace Go.Proofs.YtfphkpdobbffeaaDoor
open Go Go.AH
set_option maxRecDepth 100000
set_option maxHeartbeats 1000000

theorem mem_iff {n : Nat} (hn : n < 1024) {y : Int} : y ∈ mem n ↔ ∃ i : Nat, y = (i : Int) ∧ n.testBit i = true := by
  constructor
  · intro h
    obtain ⟨i, hi, rfl⟩ := List.mem_map.1 h
    exact ⟨i, rfl, (List.mem_filter.1 hi).2⟩
  · rintro ⟨i, rfl, hi⟩
    exact List.mem_map.2 ⟨i, List.mem_filter.2 ⟨List.mem_range.2 (lt_len (k := 10) (by omega) hi), hi⟩, rfl⟩
/-- Who wins, by playing to the end. -/
def WR (g : Gm) : Nat → Nat → Nat → Bool → Bool
  | 0, _, k, _ => joinedB g k
  | n + 1, f, k, c => if f = 0 then joinedB g k else ((mem f).any fun w => WR g n (offN f w.toNat) (if c then k else k ||| 2 ^ w.toNat) (!c) != c) != c
end Go.Proofs.YtfphkpdobbffeaaDoor

/-
  Contracts: positions as strings, for the reference.
-/
namespace Go.Proofs.YtfphkpdobbffeaaDoor
open Go Go.AH
set_option maxRecDepth 100000
set_option maxHeartbeats 1000000

def posL (n f k : Nat) : List UInt8 := (List.range n).map fun i => if f.testBit i then 46 else if k.testBit i then 43 else 45
def posB (n f k : Nat) : ByteArray := ⟨(posL n f k).toArray⟩
def dots (i : Nat) : ByteArray := ⟨(List.replicate i (46 : UInt8)).toArray⟩
/-- The number of a position. -/
def codeN : Nat → Nat → Nat → Nat
  | 0, _, _ => 0
  | n + 1, f, k => 3 * codeN n f k + if f.testBit n then 0 else if k.testBit n then 1 else 2
theorem codeN_lt (f k : Nat) : ∀ n, codeN n f k < 3 ^ n
  | 0 => by simp [codeN]
  | n + 1 => by
    have := codeN_lt f k n
    rw [codeN, Nat.pow_succ]
    split
    · omega
    · split <;> omega
end Go.Proofs.YtfphkpdobbffeaaDoor

/-
  Contracts: the free wires of a position, the reference's Joined, Known, Put.
-/
namespace Go.Proofs.YtfphkpdobbffeaaDoor
open Go Go.AH
set_option maxRecDepth 100000
set_option maxHeartbeats 1000000

/-- The kept wires among the first. -/
def setTo (n f k : Nat) : Nat → Nat
  | 0 => 0
  | i + 1 => if f.testBit i = true then setTo n f k i else if k.testBit i = true then setTo n f k i ||| 2 ^ i else setTo n f k i
end Go.Proofs.YtfphkpdobbffeaaDoor

/-
  Contracts: the room for what is known, the free wires, a wire put.
-/
namespace Go.Proofs.YtfphkpdobbffeaaDoor
open Go Go.AH
set_option maxRecDepth 100000
set_option maxHeartbeats 1000000

end Go.Proofs.YtfphkpdobbffeaaDoor

/-
  Contract: the free wires of a position, for the reference.
-/
namespace Go.Proofs.YtfphkpdobbffeaaDoor
open Go Go.AH
set_option maxRecDepth 100000
set_option maxHeartbeats 1000000

def freeTo (f i : Nat) : List Int := ((List.range i).filter f.testBit).map Int.ofNat
def frV : List Int → AC
  | [] => .nils
  | _ :: l => .row 0 (l.length + 1)
def frH : List Int → List (Nat × ABlk)
  | [] => []
  | x :: l => [(0, .row 3 1 (ints (x :: l)))]
def frK : List Int → Nat
  | [] => 0
  | _ => 1
end Go.Proofs.YtfphkpdobbffeaaDoor

/-
  Contract: a wire put into a position, for the reference.
-/
namespace Go.Proofs.YtfphkpdobbffeaaDoor
open Go Go.AH
set_option maxRecDepth 100000
set_option maxHeartbeats 1000000

end Go.Proofs.YtfphkpdobbffeaaDoor

/-
  Plain law: positions with a wire cut or kept; the number of a position tells it.
-/
namespace Go.Proofs.YtfphkpdobbffeaaDoor
open Go Go.AH
set_option maxRecDepth 100000
set_option maxHeartbeats 1000000

theorem codeN_inj {f k f' k' : Nat} : ∀ n, codeN n f k = codeN n f' k' → ∀ i, i < n → f.testBit i = f'.testBit i ∧ (f.testBit i = false → k.testBit i = k'.testBit i)
  | 0, _, i, hi => by omega
  | n + 1, h, i, hi => by
    simp only [codeN] at h
    have hq : codeN n f k = codeN n f' k' ∧ (if f.testBit n then 0 else if k.testBit n then 1 else 2) = (if f'.testBit n then 0 else if k'.testBit n then 1 else 2) := by
      have h1 : (if f.testBit n then 0 else if k.testBit n then 1 else 2) < 3 := by split <;> (try split) <;> omega
      have h2 : (if f'.testBit n then 0 else if k'.testBit n then 1 else 2) < 3 := by split <;> (try split) <;> omega
      omega
    by_cases e : i = n
    · subst e
      have := hq.2
      revert this
      cases f.testBit i <;> cases f'.testBit i <;> cases k.testBit i <;> cases k'.testBit i <;> simp
    · exact codeN_inj n hq.1 i (by omega)
theorem pos_eq {n f k f' k' : Nat} (hf : f < 2 ^ n) (hk : k < 2 ^ n) (hf' : f' < 2 ^ n) (hk' : k' < 2 ^ n) (hd : ∀ i, f.testBit i = true → k.testBit i = false) (hd' : ∀ i, f'.testBit i = true → k'.testBit i = false) (h : codeN n f k = codeN n f' k') : f = f' ∧ k = k' := by
  have hi := codeN_inj n h
  have big : ∀ (a i : Nat), a < 2 ^ n → ¬ i < n → a.testBit i = false := fun a i ha hn => by
    cases h : a.testBit i with
    | false => rfl
    | true => exact absurd (lt_len ha h) hn
  refine ⟨Nat.eq_of_testBit_eq fun i => ?_, Nat.eq_of_testBit_eq fun i => ?_⟩
  · by_cases e : i < n
    · exact (hi i e).1
    · rw [big f i hf e, big f' i hf' e]
  · by_cases e : i < n
    · obtain ⟨a, b⟩ := hi i e
      cases h : f.testBit i with
      | true => rw [hd i h, hd' i (by rw [← a]; exact h)]
      | false => exact b h
    · rw [big k i hk e, big k' i hk' e]
/-- What is known: 1 where Short wins, 2 where not. -/
def KI (g : Gm) (L : List Int) : Prop := L.length = 2 * 3 ^ g.ws.length ∧ ∀ f k c, f < 2 ^ g.ws.length → k < 2 ^ g.ws.length → (∀ i, f.testBit i = true → k.testBit i = false) →
  L.getD (2 * codeN g.ws.length f k + c.toNat) 0 = 0 ∨ L.getD (2 * codeN g.ws.length f k + c.toNat) 0 = if W g f k c then 1 else 2
theorem KI.zero (g : Gm) : KI g (List.replicate (2 * 3 ^ g.ws.length) 0) := ⟨by simp, fun f k c _ _ _ => .inl (by
  simp only [List.getD_eq_getElem?_getD, List.getElem?_replicate]
  split <;> rfl)⟩
theorem KI.set {g : Gm} {L : List Int} (h : KI g L) {f k : Nat} {c : Bool} (hf : f < 2 ^ g.ws.length) (hk : k < 2 ^ g.ws.length) (hd : ∀ i, f.testBit i = true → k.testBit i = false) : KI g (L.set (2 * codeN g.ws.length f k + c.toNat) (if W g f k c then 1 else 2)) := by
  refine ⟨by rw [List.length_set]; exact h.1, fun f' k' c' hf' hk' hd' => ?_⟩
  have hl := codeN_lt f k g.ws.length
  have hc : c.toNat < 2 := by cases c <;> decide
  have hc' : c'.toNat < 2 := by cases c' <;> decide
  simp only [List.getD_eq_getElem?_getD, List.getElem?_set]
  by_cases e : 2 * codeN g.ws.length f k + c.toNat = 2 * codeN g.ws.length f' k' + c'.toNat
  · rw [if_pos e, if_pos (by rw [h.1]; omega)]
    obtain ⟨rfl, rfl⟩ := pos_eq hf hk hf' hk' hd hd' (by omega)
    have : c = c' := by
      have : c.toNat = c'.toNat := by omega
      revert this; cases c <;> cases c' <;> simp
    subst this
    exact .inr rfl
  · rw [if_neg e, ← List.getD_eq_getElem?_getD]
    exact h.2 f' k' c' hf' hk' hd'
end Go.Proofs.YtfphkpdobbffeaaDoor

/-
  Contract: who wins, by the reference.
-/
namespace Go.Proofs.YtfphkpdobbffeaaDoor
open Go Go.AH
set_option maxRecDepth 100000
set_option maxHeartbeats 1000000

def NK (g : Gm) : Nat := 2 * 3 ^ g.ws.length
def WOk (g : Gm) (f : Nat) : Prop := ∀ k c L, k < 2 ^ g.ws.length → (∀ i, f.testBit i = true → k.testBit i = false) → KI g L →
  FSpec Tryd.prog 44 [.g (gC g 0), .c (.str (posB g.ws.length f k)), .c (.bool c), .c (.sl 1 0 (NK g) (some (NK g)))] [(0, wB g), (1, .own (ints L))] 2
    (fun r2 hq k' => ∃ L' : List Int, KI g L' ∧ r2 = .c (.bool (W g f k c)) ∧ hq = [(1, .own (ints L'))] ∧ k' = 2)
end Go.Proofs.YtfphkpdobbffeaaDoor

/-
  Contract: the kind of a game, by the reference; the law SwitchKinds, as a contract.
-/
namespace Go.Proofs.YtfphkpdobbffeaaDoor
open Go Go.AH
set_option maxRecDepth 100000
set_option maxHeartbeats 1000000

end Go.Proofs.YtfphkpdobbffeaaDoor

/-
  Contracts: whether a string is a position, by the program.
-/
namespace Go.Proofs.YtfphkpdobbffeaaDoor
open Go Go.AH
set_option maxRecDepth 100000
set_option maxHeartbeats 1000000

def bs (l : List UInt8) : ByteArray := ⟨l.toArray⟩
def isP (c : UInt8) : Bool := c == 46 || c == 43 || c == 45
/-- The set of the three signs. -/
def asC : List AC := (((List.replicate 256 (AC.bool false)).set 46 (.bool true)).set 43 (.bool true)).set 45 (.bool true)
def trimR (l : List UInt8) : List UInt8 := (l.reverse.dropWhile isP).reverse
/-- What is left of a string. -/
def trimP (l : List UInt8) : List UInt8 := (trimR l).dropWhile isP
def asS : Nat → List AC
  | 0 => List.replicate 256 (.bool false)
  | 1 => (List.replicate 256 (AC.bool false)).set 46 (.bool true)
  | 2 => ((List.replicate 256 (AC.bool false)).set 46 (.bool true)).set 43 (.bool true)
  | _ => asC
end Go.Proofs.YtfphkpdobbffeaaDoor

/-
  Contracts: strings.Trim at the three signs; CheckPosition.
-/
namespace Go.Proofs.YtfphkpdobbffeaaDoor
open Go Go.AH
set_option maxRecDepth 100000
set_option maxHeartbeats 1000000

/-- A position, as bytes. -/
def okPos (n : Nat) (l : List UInt8) : Bool := l.length == n && l.all isP
end Go.Proofs.YtfphkpdobbffeaaDoor

/-
  Contracts: a position, as sets; read.
-/
namespace Go.Proofs.YtfphkpdobbffeaaDoor
open Go Go.AH
set_option maxRecDepth 100000
set_option maxHeartbeats 1000000

def bitsN (q : Nat → Bool) : Nat → Nat
  | 0 => 0
  | i + 1 => if q i = true then bitsN q i ||| 2 ^ i else bitsN q i
/-- The free wires, and the kept ones, of bytes. -/
def fB (n : Nat) (l : List UInt8) : Nat := bitsN (fun i => l.getD i 0 == 46) n
def kB (n : Nat) (l : List UInt8) : Nat := bitsN (fun i => l.getD i 0 == 43) n
end Go.Proofs.YtfphkpdobbffeaaDoor

/-
  Contracts: Position by the reference; the position of any string.
-/
namespace Go.Proofs.YtfphkpdobbffeaaDoor
open Go Go.AH
set_option maxRecDepth 100000
set_option maxHeartbeats 1000000

end Go.Proofs.YtfphkpdobbffeaaDoor

/-
  Contract: the position of any string.
-/
namespace Go.Proofs.YtfphkpdobbffeaaDoor
open Go Go.AH
set_option maxRecDepth 100000
set_option maxHeartbeats 1000000

def u8s (l : List UInt8) : List AC := l.map fun c => AC.int .u8 (c.toNat : Int)
/-- The sign of a byte. -/
def dig (l : List UInt8) (i : Nat) : UInt8 := if i < l.length then ([46, 43, 45] : List UInt8).getD ((l.getD i 0).toNat % 3) 0 else 46
def posOf (l : List UInt8) (n : Nat) : List UInt8 := (List.range n).map (dig l)
def uV : List UInt8 → AC
  | [] => .nils
  | _ :: l => .row 2 (l.length + 1)
def uH : List UInt8 → List (Nat × ABlk)
  | [] => []
  | x :: l => [(2, .row 5 1 (u8s (x :: l)))]
def uK : List UInt8 → Nat
  | [] => 2
  | _ => 3
theorem wBren (g : Gm) (q : Nat → Nat) : some (wB g) = some (ABlk.ren q (wB g)) := by rw [wB, ABlk.ren, ints_ren]
end Go.Proofs.YtfphkpdobbffeaaDoor

/-
  Contracts: Joined, Wins, Best, of any string.
-/
namespace Go.Proofs.YtfphkpdobbffeaaDoor
open Go Go.AH
set_option maxRecDepth 100000
set_option maxHeartbeats 1000000

end Go.Proofs.YtfphkpdobbffeaaDoor

/-
  Contracts at games without wires; the law SwitchPositions, as a contract.
-/
namespace Go.Proofs.YtfphkpdobbffeaaDoor
open Go Go.AH
set_option maxRecDepth 100000
set_option maxHeartbeats 1000000

theorem nilW {g : Gm} (h : g.ws = []) {fn : FuncId} {args : List AV} {r : AV} {k' : Nat} (h1 : FDet Tryd.prog fn (.g (gC g 0) :: args) [(0, wB g), (100002, .ro tab64)] 1 r [] k')
    (hw : wkVs [(0, .ro []), (100002, .ro tab64)] args args) (ha : ∀ v ∈ args, v.all (· ≠ 0)) (hr : r.all (· ≠ 0)) : FDet Tryd.prog fn (.g (gN g) :: args) [(100002, .ro tab64)] 1 r [] k' := by
  rw [show wB g = .ro [] by rw [wB, h]; rfl] at h1
  refine FDet.nil0 h1 _ 100002 tab64 rfl ⟨.inr ⟨rfl, rfl, rfl, by show g.ws.length = 0; rw [h]; rfl, trivial⟩, hw⟩ ?_ ?_ hr
  · intro v hv
    rcases List.mem_cons.1 hv with rfl | hv
    · exact gN_all g _ _ (by simp)
    · exact ha v hv
  · intro p hp; simp at hp; subst hp; exact ⟨by decide, tab_all _⟩
theorem nilR {g : Gm} (h : g.ws = []) {fn : FuncId} {args : List AV} {r : AV} {k' : Nat} (h1 : FDet Tryd.prog fn (.g (gC g 0) :: args) [(0, wB g)] 1 r [] k')
    (hw : wkVs [(0, wB g), (100002, .ro tab64)] args args) (hw2 : wkVs [(0, .ro []), (100002, .ro tab64)] args args) (ha : ∀ v ∈ args, v.all (· ≠ 0)) (hr : r.all (· ≠ 0)) : FDet Tryd.prog fn (.g (gN g) :: args) [(100002, .ro tab64)] 1 r [] k' :=
  nilW h (FDet.wk h1 (args' := .g (gC g 0) :: args) (hp' := [(0, wB g), (100002, .ro tab64)]) ⟨.inl rfl, hw⟩ ⟨.inl rfl, trivial⟩) hw2 ha hr
end Go.Proofs.YtfphkpdobbffeaaDoor

/-
  Contracts: a copy of wires, one wire taken away; the game without a wire, by the program.
-/
namespace Go.Proofs.YtfphkpdobbffeaaDoor
open Go Go.AH
set_option maxRecDepth 100000
set_option maxHeartbeats 1000000

/-- The game without a wire. -/
def lessG (g : Gm) (w : Nat) : Gm := ⟨g.n, g.s, g.t, g.ws.take w ++ g.ws.drop (w + 1)⟩
theorem game_ends {g : Gm} (h : g.game) : g.s ≠ g.t := by
  have h1 := h.1
  unfold bad0 at h1
  omega
theorem clone_spec {ws : List (Nat × Nat)} (h : 0 < ws.length) (h10 : ws.length ≤ 10) : FDet Tryd.prog 79 [.c (.rs 0 0 ws.length)] [(0, .ro (ints (fl ws)))] 1 (.c (.row 1 ws.length)) [(1, .row 60 2 (ints (fl ws)))] 2 := by
  have hl : (ints (fl ws)).length = ws.length * 2 := by rw [ints_len, fl_len]
  have ht : ((ints (fl ws)).drop 0).take (ws.length * 2) = ints (fl ws) := by rw [List.drop_zero, ← hl, List.take_length]
  refine FSpec.of_body tok true Tryd.func79 rfl (by kernel_rfl) (by decide) (by simp [tupA, hpLt, tmLt, AV.lt, AE.lt, AC.lt, LL_cons, LL_nil, idOk, ABlk.lt, ints_LL, GB, tab64_LL, gC, wB, giC, noneB, gst, tC, pC, gN, gR, rC, rB]) (by simp [tupA, hpLt, tmLt, AV.lt, AE.lt, AC.lt, LL_cons, LL_nil, idOk, ABlk.lt, ints_LL, GB, tab64_LL, gC, wB, giC, noneB, gst, tC, pC, gN, gR, rC, rB]) (by show 1 ≤ _; decide) ?_
  refine Wk.on ?_
  refine ⟨by rw [hl]; show 0 + ws.length * 2 ≤ _; omega, ?_⟩
  refine Wk.on ?_
  refine ⟨⟨Nat.le_of_ble_eq_true rfl, by show 0 < 0 + ws.length; omega, Nat.le_of_ble_eq_true rfl, by show ((0 + ws.length : Nat) : Int) * 16 ≤ _; omega, by show 0 + ws.length ≤ _; omega⟩, ?_⟩
  rw [show (((rep 0 [AC.int .i64 0, AC.int .i64 0]).drop 0).take (0 * 2) ++ ((ints (fl ws)).drop 0).take (ws.length * 2)) = ints (fl ws) from ht, Nat.zero_add]
  refine Wk.on ?_
  exact AH.Fin.new [2] _ _ ⟨rfl, rfl, rfl⟩ rfl ⟨by show some _ = some _; exact congrArg (fun l => some (ABlk.row 60 2 l)) (ints_ren _ _).symm, trivial⟩ rfl (by simp [tupA, hpLt, tmLt, AV.lt, AE.lt, AC.lt, LL_cons, LL_nil, idOk, ABlk.lt, ints_LL, GB, tab64_LL, gC, wB, giC, noneB, gst, tC, pC, gN, gR, rC, rB]) (by simp [tupA, hpLt, tmLt, AV.lt, AE.lt, AC.lt, LL_cons, LL_nil, idOk, ABlk.lt, ints_LL, GB, tab64_LL, gC, wB, giC, noneB, gst, tC, pC, gN, gR, rC, rB])
theorem openWire_ok {g : Gm} (hg : g.game) {i : Nat} (hi : i < g.ws.length) : FDet Tryd.prog 77 [.g (gC g 0), .c (.int .i64 i)] [(0, wB g)] 1 (.c (.int .i64 0)) [] 1 := by
  have hc := check_ok hg
  refine FSpec.of_body tok true Tryd.func77 rfl (by kernel_rfl) (by decide) (by simp [tupA, hpLt, tmLt, AV.lt, AE.lt, AC.lt, LL_cons, LL_nil, idOk, ABlk.lt, ints_LL, GB, tab64_LL, gC, wB, giC, noneB, gst, tC, pC, gN, gR, rC, rB]) (by simp [tupA, hpLt, tmLt, AV.lt, AE.lt, AC.lt, LL_cons, LL_nil, idOk, ABlk.lt, ints_LL, GB, tab64_LL, gC, wB, giC, noneB, gst, tC, pC, gN, gR, rC, rB]) (by show 2 ≤ _; decide) ?_
  refine Wk.on ?_
  refine CallA.ro [0] (.c (.int .i64 0)) (hc) (by first | rfl | exact congrArg AV.g (ints_ren _ _) | (simp [ints_ren, AV.ren, ABlk.ren, AC.ren, AE.ren, qq]; done)) rfl (by (repeat (first | exact trivial | refine ⟨⟨(by first | exact .inl (by decide) | exact .inr (by decide)), (by first | (refine Or.inl ?_; first | rfl | exact congrArg some (ints_ren _ _).symm | exact congrArg ABlk.own (ints_ren _ _).symm | exact congrArg some (tab64_ren _).symm | exact congrArg (ABlk.row _ _) (ints_ren _ _).symm) | rfl | exact congrArg some (ints_ren _ _).symm | exact congrArg ABlk.own (ints_ren _ _).symm | exact congrArg some (tab64_ren _).symm | exact congrArg (ABlk.row _ _) (ints_ren _ _).symm | exact Or.inr ⟨rfl, rfl⟩)⟩, ?_⟩))) (by first | rfl | exact congrArg AV.g (ints_ren _ _) | (simp [ints_ren, AV.ren, ABlk.ren, AC.ren, AE.ren, qq]; done)) ?_
  refine Wk.on ?_
  rw [decide_eq_false (show ¬ ((i : Nat) : Int) < 0 by omega)]
  refine Wk.on ?_
  rw [decide_eq_false (show ¬ ((g.ws.length : Nat) : Int) ≤ ((i : Nat) : Int) by omega)]
  refine Wk.on ?_
  exact AH.Fin.nil [] ⟨rfl, rfl, rfl⟩ (by first | exact trivial | (simp [tupA, hpLt, tmLt, AV.lt, AE.lt, AC.lt, LL_cons, LL_nil, idOk, ABlk.lt, ints_LL, GB, tab64_LL, gC, wB, giC, noneB, gst, tC, pC, gN, gR, rC, rB]; done) | (simp [tupA, hpLt, tmLt, AV.lt, AE.lt, AC.lt, LL_cons, LL_nil, idOk, ABlk.lt, ints_LL, GB, tab64_LL, gC, wB, giC, noneB, gst, tC, pC, gN, gR, rC, rB, rdn, wrn]; done)) trivial trivial rfl (by simp [GB])
theorem openWire_bad {g : Gm} (hg : g.game) {n : Int} (h : n < 0 ∨ (g.ws.length : Int) ≤ n) : FDet Tryd.prog 77 [.g (gC g 0), .c (.int .i64 n)] [(0, wB g)] 1 (.c (.int .i64 1)) [] 1 := by
  have hc := check_ok hg
  by_cases h0 : n < 0
  · skip
    refine FSpec.of_body tok true Tryd.func77 rfl (by kernel_rfl) (by decide) (by simp [tupA, hpLt, tmLt, AV.lt, AE.lt, AC.lt, LL_cons, LL_nil, idOk, ABlk.lt, ints_LL, GB, tab64_LL, gC, wB, giC, noneB, gst, tC, pC, gN, gR, rC, rB]) (by simp [tupA, hpLt, tmLt, AV.lt, AE.lt, AC.lt, LL_cons, LL_nil, idOk, ABlk.lt, ints_LL, GB, tab64_LL, gC, wB, giC, noneB, gst, tC, pC, gN, gR, rC, rB]) (by show 2 ≤ _; decide) ?_
    refine Wk.on ?_
    refine CallA.ro [0] (.c (.int .i64 0)) (hc) (by first | rfl | exact congrArg AV.g (ints_ren _ _) | (simp [ints_ren, AV.ren, ABlk.ren, AC.ren, AE.ren, qq]; done)) rfl (by (repeat (first | exact trivial | refine ⟨⟨(by first | exact .inl (by decide) | exact .inr (by decide)), (by first | (refine Or.inl ?_; first | rfl | exact congrArg some (ints_ren _ _).symm | exact congrArg ABlk.own (ints_ren _ _).symm | exact congrArg some (tab64_ren _).symm | exact congrArg (ABlk.row _ _) (ints_ren _ _).symm) | rfl | exact congrArg some (ints_ren _ _).symm | exact congrArg ABlk.own (ints_ren _ _).symm | exact congrArg some (tab64_ren _).symm | exact congrArg (ABlk.row _ _) (ints_ren _ _).symm | exact Or.inr ⟨rfl, rfl⟩)⟩, ?_⟩))) (by first | rfl | exact congrArg AV.g (ints_ren _ _) | (simp [ints_ren, AV.ren, ABlk.ren, AC.ren, AE.ren, qq]; done)) ?_
    refine Wk.on ?_
    rw [decide_eq_true h0]
    refine Wk.on ?_
    exact AH.Fin.nil [] ⟨rfl, rfl, rfl⟩ (by first | exact trivial | (simp [tupA, hpLt, tmLt, AV.lt, AE.lt, AC.lt, LL_cons, LL_nil, idOk, ABlk.lt, ints_LL, GB, tab64_LL, gC, wB, giC, noneB, gst, tC, pC, gN, gR, rC, rB]; done) | (simp [tupA, hpLt, tmLt, AV.lt, AE.lt, AC.lt, LL_cons, LL_nil, idOk, ABlk.lt, ints_LL, GB, tab64_LL, gC, wB, giC, noneB, gst, tC, pC, gN, gR, rC, rB, rdn, wrn]; done)) trivial trivial rfl (by simp [GB])
  · have h1 : (g.ws.length : Int) ≤ n := by omega
    refine FSpec.of_body tok true Tryd.func77 rfl (by kernel_rfl) (by decide) (by simp [tupA, hpLt, tmLt, AV.lt, AE.lt, AC.lt, LL_cons, LL_nil, idOk, ABlk.lt, ints_LL, GB, tab64_LL, gC, wB, giC, noneB, gst, tC, pC, gN, gR, rC, rB]) (by simp [tupA, hpLt, tmLt, AV.lt, AE.lt, AC.lt, LL_cons, LL_nil, idOk, ABlk.lt, ints_LL, GB, tab64_LL, gC, wB, giC, noneB, gst, tC, pC, gN, gR, rC, rB]) (by show 2 ≤ _; decide) ?_
    refine Wk.on ?_
    refine CallA.ro [0] (.c (.int .i64 0)) (hc) (by first | rfl | exact congrArg AV.g (ints_ren _ _) | (simp [ints_ren, AV.ren, ABlk.ren, AC.ren, AE.ren, qq]; done)) rfl (by (repeat (first | exact trivial | refine ⟨⟨(by first | exact .inl (by decide) | exact .inr (by decide)), (by first | (refine Or.inl ?_; first | rfl | exact congrArg some (ints_ren _ _).symm | exact congrArg ABlk.own (ints_ren _ _).symm | exact congrArg some (tab64_ren _).symm | exact congrArg (ABlk.row _ _) (ints_ren _ _).symm) | rfl | exact congrArg some (ints_ren _ _).symm | exact congrArg ABlk.own (ints_ren _ _).symm | exact congrArg some (tab64_ren _).symm | exact congrArg (ABlk.row _ _) (ints_ren _ _).symm | exact Or.inr ⟨rfl, rfl⟩)⟩, ?_⟩))) (by first | rfl | exact congrArg AV.g (ints_ren _ _) | (simp [ints_ren, AV.ren, ABlk.ren, AC.ren, AE.ren, qq]; done)) ?_
    refine Wk.on ?_
    rw [decide_eq_false h0]
    refine Wk.on ?_
    rw [decide_eq_true h1]
    refine Wk.on ?_
    exact AH.Fin.nil [] ⟨rfl, rfl, rfl⟩ (by first | exact trivial | (simp [tupA, hpLt, tmLt, AV.lt, AE.lt, AC.lt, LL_cons, LL_nil, idOk, ABlk.lt, ints_LL, GB, tab64_LL, gC, wB, giC, noneB, gst, tC, pC, gN, gR, rC, rB]; done) | (simp [tupA, hpLt, tmLt, AV.lt, AE.lt, AC.lt, LL_cons, LL_nil, idOk, ABlk.lt, ints_LL, GB, tab64_LL, gC, wB, giC, noneB, gst, tC, pC, gN, gR, rC, rB, rdn, wrn]; done)) trivial trivial rfl (by simp [GB])
theorem lessG_len {g : Gm} {w : Nat} (hw : w < g.ws.length) : (lessG g w).ws.length = g.ws.length - 1 := by
  show (g.ws.take w ++ g.ws.drop (w + 1)).length = _
  rw [List.length_append, List.length_take, List.length_drop]; omega
theorem cutZ {M Z P : List AC} {k : Nat} (hM : M.length = k) (hZ : Z.length ≤ 2) : (M ++ Z).take k ++ P ++ (M ++ Z).drop (k + 2) = M ++ P := by
  rw [← hM, List.take_left, List.drop_of_length_le (by rw [List.length_append]; omega), List.append_nil]
/-- One wire taken away: what lies in the row then. -/
theorem del_cells (W : List (Nat × Nat)) (i d : Nat) (hd : W.length = i + 1 + d) (P : List AC) : ((ints (fl W)).take (i * 2) ++ ((ints (fl W)).drop ((i + 1) * 2)).take (d * 2) ++ (ints (fl W)).drop (i * 2 + d * 2)).take ((i + d) * 2) ++ P ++ ((ints (fl W)).take (i * 2) ++ ((ints (fl W)).drop ((i + 1) * 2)).take (d * 2) ++ (ints (fl W)).drop (i * 2 + d * 2)).drop ((i + d) * 2 + 2) = ints (fl (W.take i ++ W.drop (i + 1))) ++ P := by
  have hl : (ints (fl W)).length = W.length * 2 := by rw [ints_len, fl_len]
  have e1 : (ints (fl W)).take (i * 2) = ints (fl (W.take i)) := by rw [fl_take]; simp [ints]
  have e2 : ((ints (fl W)).drop ((i + 1) * 2)).take (d * 2) = ints (fl (W.drop (i + 1))) := by
    rw [List.take_of_length_le (by rw [List.length_drop, hl]; omega), fl_drop]; simp [ints]
  have e3 : ints (fl (W.take i)) ++ ints (fl (W.drop (i + 1))) = ints (fl (W.take i ++ W.drop (i + 1))) := by simp [ints, fl]
  rw [e1, e2, e3]
  exact cutZ (by rw [ints_len, fl_len, List.length_append, List.length_take, List.length_drop]; omega) (by rw [List.length_drop, hl]; omega)
theorem delete_spec (W : List (Nat × Nat)) (hW : W.length ≤ 10) (i : Nat) (hi : i < W.length) : FDet Tryd.prog 78 [.c (.row 0 W.length), .c (.int .i64 i), .c (.int .i64 ((i : Int) + 1))] [(0, .row 60 2 (ints (fl W)))] 1 (.c (.row 0 (W.length - 1))) [(0, .row 60 2 (ints (fl (W.take i ++ W.drop (i + 1)))))] 1 := by
  have hl : (ints (fl W)).length = W.length * 2 := by rw [ints_len, fl_len]
  obtain ⟨d, hd⟩ : ∃ d, W.length = i + 1 + d := ⟨W.length - (i + 1), by omega⟩
  have hdc := del_cells W i d hd (ints [0, 0])
  refine FDet.cutRow (ys := ints [0, 0]) ?_
  have hcat : ints (fl (W.take i ++ W.drop (i + 1))) ++ ints [0, 0] = ints (fl (W.take i ++ W.drop (i + 1)) ++ [0, 0]) := by simp [ints]
  rw [hcat] at hdc ⊢
  have hDL : LL 1 (ints (fl (W.take i ++ W.drop (i + 1)) ++ [0, 0])) := ints_LL _ _
  generalize ints (fl (W.take i ++ W.drop (i + 1)) ++ [0, 0]) = D at *
  generalize hX : ints (fl W) = X at *
  have hXL : LL 1 X := hX ▸ ints_LL _ _
  clear hX hcat
  rw [hd] at hl hW ⊢
  clear hd hi
  have e2 : i + 1 + d - (i + 1) = d := by omega
  refine FSpec.capRow (z := 2) rfl (Go.Proofs.enters_of Tryd.func78 (by kernel_rfl) rfl) fun c hc1 hc2 => ?_
  refine FDet.post (r := .c (.rp 0 0 (i + 1 + d - 1) c 2)) (hq := [(0, .row 60 2 D)]) (k' := 1) ?_ _ _ ⟨rfl, rfl, rfl⟩ ⟨⟨⟨rfl, rfl⟩, .inl rfl⟩, trivial⟩ (by simp [tupA, hpLt, tmLt, AV.lt, AE.lt, AC.lt, LL_cons, LL_nil, idOk, ABlk.lt, ints_LL, GB, tab64_LL, gC, wB, giC, noneB, gst, tC, pC, gN, gR, rC, rB]) ⟨.inl (by decide), hDL, trivial⟩ rfl
  show FDet Tryd.prog 78 [.c (.rp 0 0 (i + 1 + d) c 2), .c (.int .i64 i), .c (.int .i64 ((i : Int) + 1))] _ 1 _ _ 1
  refine FSpec.of_body tok true Tryd.func78 rfl (by kernel_rfl) (by decide) (by simp [tupA, hpLt, tmLt, AV.lt, AE.lt, AC.lt, LL_cons, LL_nil, idOk, ABlk.lt, ints_LL, GB, tab64_LL, gC, wB, giC, noneB, gst, tC, pC, gN, gR, rC, rB]) ⟨.inl (by decide), hXL, trivial⟩ (by show 3 ≤ _; decide) ?_
  refine Wk.on ?_
  refine ⟨⟨rfl, rfl, by show (0 : Int) ≤ i; omega, by show (i : Int) ≤ i + 1; omega, by omega, by omega⟩, ?_⟩
  refine Wk.on ?_
  rw [decide_eq_false (show ¬ ((i : Nat) : Int) = ((i : Nat) : Int) + 1 by omega)]
  refine Wk.on ?_
  refine Tr.draw (md := true) [⟨[], [21, 23, 24, 25], [], [], []⟩, ⟨[], [20, 23, 24, 25], [0], [], []⟩, ⟨[0, 1], [23, 24, 25], [], [], []⟩, ⟨[], [20, 21, 22, 24], [0, 1, 2], [], []⟩, ⟨[], [20, 21, 22, 23], [0, 1, 2, 3], [], []⟩, ⟨[3, 4], [20, 21, 22], [0, 1, 2], [], []⟩] tok (by kernel_rfl) (by kernel_rfl) ?_
  refine Wk.on ?_
  refine ⟨⟨rfl, Int.le_refl 0, by show (0 : Int) ≤ i; omega, by show (i : Int) ≤ c; omega⟩, fun _ => ?_, fun h => absurd (Or.inl rfl) h⟩
  refine Wk.on ?_
  refine ⟨⟨rfl, by show (0 : Int) ≤ (i : Int) + 1; omega, by show (i : Int) + 1 ≤ ((i + 1 + d : Nat) : Int); omega, by show ((i + 1 + d : Nat) : Int) ≤ c; omega⟩, fun hlo => ?_, fun hlo => ?_⟩
  · have e1 : ((i : Int) + 1).toNat = i + 1 := by omega
    refine Wk.on ?_
    simp only [Option.getD_some, Option.getD_none, Int.toNat_natCast, Int.toNat_zero, Nat.sub_zero, Nat.zero_add, e1, e2]
    refine ⟨⟨by first | rfl | trivial, by show (i + 1) * 2 + d * 2 ≤ X.length; omega⟩, ?_⟩
    refine Wk.on ?_
    refine ⟨⟨by first | rfl | trivial, by first | rfl | trivial, by first | rfl | trivial, by show 0 * 2 + i * 2 ≤ X.length; omega⟩, fun _ => ?_, fun h => by (exfalso; omega)⟩
    refine Wk.on ?_
    refine ⟨⟨rfl, by show (0 : Int) ≤ ((i + d : Nat) : Int); omega, by show ((i + d : Nat) : Int) ≤ ((i + 1 + d : Nat) : Int); omega, by show ((i + 1 + d : Nat) : Int) ≤ c; omega⟩, fun _ => ?_, fun h => absurd (Or.inr (by show ((i + d : Nat) : Int) < c; omega)) h⟩
    refine Wk.on ?_
    have e3 : i + 1 + d - (i + d) = 1 := by omega
    simp only [Option.getD_some, Option.getD_none, Int.toNat_natCast, Int.toNat_zero, Nat.sub_zero, Nat.zero_add, Nat.zero_mul, e3]
    refine ⟨⟨by first | rfl | trivial, by first | rfl | trivial, by simp only [List.length_append, List.length_take, List.length_drop]; show (i + d) * 2 ≤ _; omega⟩, ?_⟩
    refine Wk.on ?_
    exact Fin.nil [(0, .row 60 2 D)] ⟨by rw [show i + 1 + d - 1 = i + d by omega]; rfl, rfl, rfl⟩ (Or.inl (by show 0 < 1; omega)) ⟨congrArg (ABlk.row 60 2) hdc, trivial⟩ ⟨.inl (by show 0 < 1; omega), hDL, trivial⟩ rfl (by simp [GB])
  · obtain ⟨rfl, rfl⟩ : d = 0 ∧ c = i + 1 := by
      have h1 : ¬ ((i : Int) + 1 = 0 ∨ (i : Int) + 1 < c) := hlo
      omega
    refine Wk.on ?_
    simp only [Option.getD_some, Option.getD_none, Int.toNat_natCast, Int.toNat_zero, Nat.sub_zero, Nat.zero_add, Nat.zero_mul, Nat.add_zero]
    refine ⟨⟨by first | rfl | trivial, by first | rfl | trivial, by first | rfl | trivial, by show i * 2 ≤ X.length; omega⟩, fun _ => ?_, fun h => by (exfalso; omega)⟩
    refine Wk.on ?_
    refine ⟨⟨by first | rfl | trivial, by show (0 : Int) ≤ ((i : Nat) : Int); omega, by show ((i : Nat) : Int) ≤ ((i + 1 : Nat) : Int); omega, by show ((i + 1 : Nat) : Int) ≤ ((i + 1 : Nat) : Int); omega⟩, fun _ => ?_, fun h => absurd (Or.inr (by show ((i : Nat) : Int) < ((i + 1 : Nat) : Int); omega)) h⟩
    refine Wk.on ?_
    have e3 : i + 1 - i = 1 := by omega
    simp only [Option.getD_some, Option.getD_none, Int.toNat_natCast, Int.toNat_zero, Nat.sub_zero, Nat.zero_add, Nat.zero_mul, e3]
    refine ⟨⟨by first | rfl | trivial, by first | rfl | trivial, by simp only [List.length_append, List.length_take, List.length_drop]; show i * 2 ≤ _; omega⟩, ?_⟩
    refine Wk.on ?_
    exact Fin.nil [(0, .row 60 2 D)] ⟨rfl, rfl, rfl⟩ (Or.inl (by show 0 < 1; omega)) ⟨by show ABlk.row 60 2 _ = ABlk.row 60 2 D; rw [← hdc]; simp; rfl, trivial⟩ ⟨.inl (by show 0 < 1; omega), hDL, trivial⟩ rfl (by simp [GB])
theorem without_ok {g : Gm} (hg : g.game) {i : Nat} (hi : i < g.ws.length) : FDet Tryd.prog 37 [.g (gC g 0), .c (.int .i64 i)] [(0, wB g)] 1 (.t [.g (gR (lessG g i) 1), .c (.int .i64 0)]) [(1, .row 60 2 (ints (fl (lessG g i).ws)))] 2 := by
  have hl10 := hg.ok.len
  have hc := clone_spec (ws := g.ws) (by omega) hl10
  have hd := delete_spec g.ws hl10 i hi
  rw [← lessG_len hi] at hd
  change FDet Tryd.prog _ _ _ _ _ [(0, .row 60 2 (ints (fl (lessG g i).ws)))] _ at hd
  have h3 : (lessG g i).n = g.n ∧ (lessG g i).s = g.s ∧ (lessG g i).t = g.t := ⟨rfl, rfl, rfl⟩
  show FDet Tryd.prog _ _ _ _ (.t [.g [.int .i64 g.n, .int .i64 g.s, .int .i64 g.t, .row 1 (lessG g i).ws.length], .c (.int .i64 0)]) _ _
  generalize (lessG g i).ws = L at *
  refine FSpec.of_body tok true Tryd.func37 rfl (by kernel_rfl) (by decide) (by simp [tupA, hpLt, tmLt, AV.lt, AE.lt, AC.lt, LL_cons, LL_nil, idOk, ABlk.lt, ints_LL, GB, tab64_LL, gC, wB, giC, noneB, gst, tC, pC, gN, gR, rC, rB]) (by simp [tupA, hpLt, tmLt, AV.lt, AE.lt, AC.lt, LL_cons, LL_nil, idOk, ABlk.lt, ints_LL, GB, tab64_LL, gC, wB, giC, noneB, gst, tC, pC, gN, gR, rC, rB]) (by show 2 ≤ _; decide) ?_
  refine Wk.on ?_
  refine CallA.ro [0] (.c (.int .i64 0)) (openWire_ok hg hi) (by first | rfl | exact congrArg AV.g (ints_ren _ _) | (simp [ints_ren, AV.ren, ABlk.ren, AC.ren, AE.ren, qq]; done)) rfl (by (repeat (first | exact trivial | refine ⟨⟨(by first | exact .inl (by decide) | exact .inr (by decide)), (by first | (refine Or.inl ?_; first | rfl | exact congrArg some (ints_ren _ _).symm | exact congrArg ABlk.own (ints_ren _ _).symm | exact congrArg some (tab64_ren _).symm | exact congrArg (ABlk.row _ _) (ints_ren _ _).symm) | rfl | exact congrArg some (ints_ren _ _).symm | exact congrArg ABlk.own (ints_ren _ _).symm | exact congrArg some (tab64_ren _).symm | exact congrArg (ABlk.row _ _) (ints_ren _ _).symm | exact Or.inr ⟨rfl, rfl⟩)⟩, ?_⟩))) (by first | rfl | exact congrArg AV.g (ints_ren _ _) | (simp [ints_ren, AV.ren, ABlk.ren, AC.ren, AE.ren, qq]; done)) ?_
  refine Wk.on ?_
  refine Tr.draw (md := true) [⟨[], [16, 17, 18, 19, 20, 21, 22, 23, 24, 25, 26], [], [], [3]⟩, ⟨[0], [16, 17, 18, 19, 20, 21, 22, 23, 24, 25, 26], [], [], [3]⟩, ⟨[], [14, 15, 18, 19, 20, 21, 22, 23, 24, 25, 26], [0, 1], [], [3]⟩, ⟨[2], [14, 15, 18, 19, 20, 21, 22, 23, 24, 25, 26], [0, 1], [], [3]⟩, ⟨[], [14, 15, 16, 17, 20, 21, 22, 23, 24, 25, 26], [0, 1, 2, 3], [], [3]⟩, ⟨[4], [14, 15, 16, 17, 20, 21, 22, 23, 24, 25, 26], [0, 1, 2, 3], [], [3]⟩, ⟨[], [14, 15, 16, 17, 18, 19, 23, 24, 25], [0, 1, 2, 3, 4, 5], [], []⟩, ⟨[6], [14, 15, 16, 17, 18, 19, 23, 24, 25], [0, 1, 2, 3, 4, 5], [], []⟩, ⟨[6, 7], [14, 15, 16, 17, 18, 19, 23, 24, 25], [0, 1, 2, 3, 4, 5], [], []⟩, ⟨[], [14, 15, 16, 17, 18, 19, 20, 21, 22, 24, 25], [0, 1, 2, 3, 4, 5, 6, 7, 8], [], []⟩, ⟨[], [14, 15, 16, 17, 18, 19, 20, 21, 22, 23], [0, 1, 2, 3, 4, 5, 6, 7, 8, 9], [], []⟩, ⟨[10], [14, 15, 16, 17, 18, 19, 20, 21, 22, 23], [0, 1, 2, 3, 4, 5, 6, 7, 8, 9], [], []⟩, ⟨[6, 7, 8, 9, 10, 11], [14, 15, 16, 17, 18, 19], [0, 1, 2, 3, 4, 5], [3], []⟩] tok (by kernel_rfl) (by kernel_rfl) ?_
  refine Wk.on ?_
  refine CallQ.new [0] (.c (.row 3 g.ws.length)) ([(3, .row 60 2 (ints (fl g.ws)))]) (hc) (by first | rfl | exact congrArg AV.g (ints_ren _ _) | (simp [ints_ren, AV.ren, ABlk.ren, AC.ren, AE.ren, qq]; done)) rfl (by (repeat (first | exact trivial | refine ⟨⟨(by first | exact .inl (by decide) | exact .inr (by decide)), (by first | (refine Or.inl ?_; first | rfl | exact congrArg some (ints_ren _ _).symm | exact congrArg ABlk.own (ints_ren _ _).symm | exact congrArg some (tab64_ren _).symm | exact congrArg (ABlk.row _ _) (ints_ren _ _).symm) | rfl | exact congrArg some (ints_ren _ _).symm | exact congrArg ABlk.own (ints_ren _ _).symm | exact congrArg some (tab64_ren _).symm | exact congrArg (ABlk.row _ _) (ints_ren _ _).symm | exact Or.inr ⟨rfl, rfl⟩)⟩, ?_⟩))) (by first | rfl | exact congrArg AV.g (ints_ren _ _) | (simp [ints_ren, AV.ren, ABlk.ren, AC.ren, AE.ren, qq]; done)) (by first | rfl | (simp [behind, gone, lk, up, del, qq, ABlk.wr, GB, ints_ren, AV.ren, ABlk.ren, AC.ren, AE.ren]; done) | (simp [behind, gone, lk, up, del, qq, ABlk.wr, GB, ints_ren, AV.ren, ABlk.ren, AC.ren, AE.ren]; rfl)) ?_
  refine Wk.on ?_
  refine CallQ.turn [3] (.c (.row 3 L.length)) ([(3, .row 60 2 (ints (fl L)))]) (hd) (by first | rfl | exact congrArg AV.g (ints_ren _ _) | (simp [ints_ren, AV.ren, ABlk.ren, AC.ren, AE.ren, qq]; done)) rfl (by (repeat (first | exact trivial | refine ⟨⟨(by first | exact .inl (by decide) | exact .inr (by decide)), (by first | (refine Or.inl ?_; first | rfl | exact congrArg some (ints_ren _ _).symm | exact congrArg ABlk.own (ints_ren _ _).symm | exact congrArg some (tab64_ren _).symm | exact congrArg (ABlk.row _ _) (ints_ren _ _).symm) | rfl | exact congrArg some (ints_ren _ _).symm | exact congrArg ABlk.own (ints_ren _ _).symm | exact congrArg some (tab64_ren _).symm | exact congrArg (ABlk.row _ _) (ints_ren _ _).symm | exact Or.inr ⟨rfl, rfl⟩)⟩, ?_⟩))) (by first | rfl | exact congrArg AV.g (ints_ren _ _) | (simp [ints_ren, AV.ren, ABlk.ren, AC.ren, AE.ren, qq]; done)) (by first | rfl | (simp [qq, GB, ints_ren, AV.ren, ABlk.ren, AC.ren, AE.ren]; done) | (simp [qq, GB, ints_ren, AV.ren, ABlk.ren, AC.ren, AE.ren]; rfl)) ?_
  refine Wk.on ?_
  exact AH.Fin.new [3] _ _ ⟨rfl, rfl, rfl⟩ rfl ⟨by show some _ = some _; exact congrArg (fun l => some (ABlk.row 60 2 l)) (ints_ren _ _).symm, trivial⟩ rfl (by simp [tupA, hpLt, tmLt, AV.lt, AE.lt, AC.lt, LL_cons, LL_nil, idOk, ABlk.lt, ints_LL, GB, tab64_LL, gC, wB, giC, noneB, gst, tC, pC, gN, gR, rC, rB]) (by simp [tupA, hpLt, tmLt, AV.lt, AE.lt, AC.lt, LL_cons, LL_nil, idOk, ABlk.lt, ints_LL, GB, tab64_LL, gC, wB, giC, noneB, gst, tC, pC, gN, gR, rC, rB])
theorem without_rs {g : Gm} (hg : g.game) {i : Nat} (hi : i < g.ws.length) : FDet Tryd.prog 37 [.g (gC g 0), .c (.int .i64 i)] [(0, wB g)] 1 (.t [.g (gC (lessG g i) 1), .c (.int .i64 0)]) [(1, .row 60 2 (ints (fl (lessG g i).ws)))] 2 :=
  FDet.post (without_ok hg hi) _ _ ⟨.inr ⟨rfl, rfl, rfl, ⟨⟨rfl, rfl, rfl⟩, trivial⟩, trivial⟩, rfl, trivial⟩ ⟨⟨⟨rfl, rfl⟩, .inl rfl⟩, trivial⟩ (by
    intro e he
    simp only [List.mem_cons, List.not_mem_nil, or_false] at he
    rcases he with rfl | rfl
    · exact gC_LL (.inl (by decide))
    · trivial) (by simp [tupA, hpLt, tmLt, AV.lt, AE.lt, AC.lt, LL_cons, LL_nil, idOk, ABlk.lt, ints_LL, GB, tab64_LL, gC, wB, giC, noneB, gst, tC, pC, gN, gR, rC, rB]) rfl
def zeroT : AV := .t [.g [.int .i64 0, .int .i64 0, .int .i64 0, .nils], .c (.int .i64 1)]
theorem without_bad {g : Gm} (hg : g.game) {n : Int} (h : n < 0 ∨ (g.ws.length : Int) ≤ n) : FDet Tryd.prog 37 [.g (gC g 0), .c (.int .i64 n)] [(0, wB g)] 1 zeroT [] 1 := by
  refine FSpec.of_body tok true Tryd.func37 rfl (by kernel_rfl) (by decide) (by simp [tupA, hpLt, tmLt, AV.lt, AE.lt, AC.lt, LL_cons, LL_nil, idOk, ABlk.lt, ints_LL, GB, tab64_LL, gC, wB, giC, noneB, gst, tC, pC, gN, gR, rC, rB]) (by simp [tupA, hpLt, tmLt, AV.lt, AE.lt, AC.lt, LL_cons, LL_nil, idOk, ABlk.lt, ints_LL, GB, tab64_LL, gC, wB, giC, noneB, gst, tC, pC, gN, gR, rC, rB]) (by show 2 ≤ _; decide) ?_
  refine Wk.on ?_
  refine CallA.ro [0] (.c (.int .i64 1)) (openWire_bad hg h) (by first | rfl | exact congrArg AV.g (ints_ren _ _) | (simp [ints_ren, AV.ren, ABlk.ren, AC.ren, AE.ren, qq]; done)) rfl (by (repeat (first | exact trivial | refine ⟨⟨(by first | exact .inl (by decide) | exact .inr (by decide)), (by first | (refine Or.inl ?_; first | rfl | exact congrArg some (ints_ren _ _).symm | exact congrArg ABlk.own (ints_ren _ _).symm | exact congrArg some (tab64_ren _).symm | exact congrArg (ABlk.row _ _) (ints_ren _ _).symm) | rfl | exact congrArg some (ints_ren _ _).symm | exact congrArg ABlk.own (ints_ren _ _).symm | exact congrArg some (tab64_ren _).symm | exact congrArg (ABlk.row _ _) (ints_ren _ _).symm | exact Or.inr ⟨rfl, rfl⟩)⟩, ?_⟩))) (by first | rfl | exact congrArg AV.g (ints_ren _ _) | (simp [ints_ren, AV.ren, ABlk.ren, AC.ren, AE.ren, qq]; done)) ?_
  refine Wk.on ?_
  exact AH.Fin.nil [] ⟨rfl, rfl, rfl⟩ (by first | exact trivial | (simp [tupA, hpLt, tmLt, AV.lt, AE.lt, AC.lt, LL_cons, LL_nil, idOk, ABlk.lt, ints_LL, GB, tab64_LL, gC, wB, giC, noneB, gst, tC, pC, gN, gR, rC, rB]; done) | (simp [tupA, hpLt, tmLt, AV.lt, AE.lt, AC.lt, LL_cons, LL_nil, idOk, ABlk.lt, ints_LL, GB, tab64_LL, gC, wB, giC, noneB, gst, tC, pC, gN, gR, rC, rB, rdn, wrn]; done)) trivial trivial rfl (by simp [GB])
/-! Games. -/
theorem game_of {g : Gm} (h2 : 2 ≤ g.n) (h8 : g.n ≤ 8) (hs : g.s < g.n) (ht : g.t < g.n) (hst : g.s ≠ g.t) (hl : g.ws.length ≤ 10) (hT : Tm g.n g.ws) : g.game := by
  obtain ⟨hw, hp⟩ := hT
  obtain ⟨n, s, t, L⟩ := g
  dsimp only at *
  show isGame n s t (fl L) L.length
  refine ⟨by unfold bad0; omega, fun i hi => ?_⟩
  have hg : ∀ j, j < L.length → (L.getD j (0, 0)) ∈ L := fun j hj => by
    rw [List.getD_eq_getElem?_getD, List.getElem?_eq_getElem hj]; exact List.getElem_mem hj
  have hwi := hw _ (hg i hi)
  unfold badW
  rw [(fl_get L i).1, (fl_get L i).2]
  have hc : 0 < i → ¬ 0 < cmpL (win (fl L) ((i - 1) * 2) 2) (win (fl L) (i * 2) 2) := fun h0 => by
    have hle : leW (L.getD (i - 1) (0, 0)) (L.getD i (0, 0)) = true := by
      have := List.pairwise_iff_getElem.1 hp (i - 1) i (by omega) hi (by omega)
      rw [List.getD_eq_getElem?_getD, List.getD_eq_getElem?_getD, List.getElem?_eq_getElem hi, List.getElem?_eq_getElem (show i - 1 < L.length by omega)]
      exact this
    rw [leW_iff] at hle
    have hfl := fl_len L
    rw [win2 (by omega), win2 (by omega), (fl_get L i).1, (fl_get L i).2, (fl_get L (i - 1)).1, (fl_get L (i - 1)).2]
    simp only [cmpL]
    unfold cmpI
    split <;> omega
  omega
theorem tame_Tm (x : Rw) {pl most : Nat} (h1 : 2 ≤ pl) : Tm (tame x pl most).n (tame x pl most).ws :=
  (tameA_Tm x (n := tameN x pl) (most := most) (by unfold tameN; omega) _ (Nat.le_refl _)).1
theorem Tm.sub {n : Nat} {l l' : List (Nat × Nat)} (h : Tm n l) (hs : l'.Sublist l) : Tm n l' := ⟨fun w hw => h.1 w (hs.subset hw), h.2.sublist hs⟩
theorem lessG_sub (g : Gm) (w : Nat) : (lessG g w).ws.Sublist g.ws := by
  show (g.ws.take w ++ g.ws.drop (w + 1)).Sublist g.ws
  rw [← List.eraseIdx_eq_take_drop_succ]
  exact List.eraseIdx_sublist _ _
theorem lessG_Tm {g : Gm} (hT : Tm g.n g.ws) (w : Nat) : Tm (lessG g w).n (lessG g w).ws := hT.sub (lessG_sub g w)
theorem lessG_game {g : Gm} (hg : g.game) (hT : Tm g.n g.ws) (w : Nat) : (lessG g w).game :=
  game_of hg.ok.n2 hg.ok.n8 hg.ok.s hg.ok.t (show g.s ≠ g.t from game_ends hg) (Nat.le_trans (lessG_sub g w).length_le hg.ok.len) (lessG_Tm hT w)
end Go.Proofs.YtfphkpdobbffeaaDoor

/-
  Wires as pairs of places: what one made short does to them. (Plain.)
-/
namespace Go.Wire

abbrev Wr := Nat × Nat

/-- What a place becomes when b becomes a. -/
def plc (a b x : Nat) : Nat := if x = b then a else if b < x then x - 1 else x
def cw (a b : Nat) (w : Wr) : Wr := (min (plc a b w.1) (plc a b w.2), max (plc a b w.1) (plc a b w.2))

/-- The wires that are left when one is made short. -/
def shW (a b : Nat) (W : List Wr) : List Wr := (W.filter fun w => decide (plc a b w.1 ≠ plc a b w.2)).map (cw a b)
end Go.Wire

/-
  Contracts: sorting of at most twelve wires.
-/
namespace Go.Proofs.YtfphkpdobbffeaaDoor
open Go Go.AH Go.Wire
set_option maxRecDepth 100000
set_option maxHeartbeats 1000000

/-- Wires put in order: the list reversed. -/
def insR (x : Nat × Nat) : List (Nat × Nat) → List (Nat × Nat)
  | [] => [x]
  | y :: l => if leW y x = true then x :: y :: l else y :: insR x l
def isortR (L : List (Nat × Nat)) : List (Nat × Nat) := L.foldl (fun acc x => insR x acc) []
def isort (L : List (Nat × Nat)) : List (Nat × Nat) := (isortR L).reverse
theorem insR_perm (x : Nat × Nat) : ∀ l, (insR x l).Perm (x :: l)
  | [] => List.Perm.refl _
  | y :: l => by
    rw [insR]
    split
    · exact List.Perm.refl _
    · exact ((insR_perm x l).cons y).trans (List.Perm.swap x y l)
theorem isortR_perm (L : List (Nat × Nat)) : (isortR L).Perm L := by
  have key : ∀ (L acc : List (Nat × Nat)), (L.foldl (fun acc x => insR x acc) acc).Perm (acc ++ L) := fun L => by
    induction L with
    | nil => intro acc; rw [List.append_nil]; exact List.Perm.refl _
    | cons x L ih =>
      intro acc
      refine (ih _).trans ?_
      exact ((insR_perm x acc).append_right L).trans (by rw [List.cons_append]; exact List.perm_middle.symm)
  exact key L []
theorem isort_perm (L : List (Nat × Nat)) : (isort L).Perm L := (List.reverse_perm _).trans (isortR_perm L)
theorem isort_len (L : List (Nat × Nat)) : (isort L).length = L.length := (isort_perm L).length_eq
theorem leW_total {x y : Nat × Nat} (h : leW y x = false) : leW x y = true := by
  rw [leW_iff]
  have : ¬ (y.1 < x.1 ∨ y.1 = x.1 ∧ y.2 ≤ x.2) := fun k => by rw [(leW_iff y x).2 k] at h; cases h
  omega
theorem leW_trans {x y z : Nat × Nat} (h : leW x y = true) (k : leW y z = true) : leW x z = true := by
  rw [leW_iff] at *; omega
theorem insR_sorted (x : Nat × Nat) : ∀ l, l.Pairwise (fun u v => leW v u = true) → (insR x l).Pairwise (fun u v => leW v u = true)
  | [], _ => List.pairwise_singleton _ _
  | y :: l, h => by
    have h2 := List.pairwise_cons.1 h
    rw [insR]
    split
    · rename_i c
      refine List.pairwise_cons.2 ⟨fun z hz => ?_, h⟩
      rcases List.mem_cons.1 hz with rfl | hz
      · exact c
      · exact leW_trans (h2.1 z hz) c
    · rename_i c
      refine List.pairwise_cons.2 ⟨fun z hz => ?_, insR_sorted x l h2.2⟩
      rcases List.mem_cons.1 ((insR_perm x l).mem_iff.1 hz) with rfl | hz
      · exact leW_total (by simpa using c)
      · exact h2.1 z hz
theorem isort_sorted (L : List (Nat × Nat)) : (isort L).Pairwise (fun u v => leW u v = true) := by
  have key : ∀ (L acc : List (Nat × Nat)), acc.Pairwise (fun u v => leW v u = true) → (L.foldl (fun acc x => insR x acc) acc).Pairwise (fun u v => leW v u = true) := fun L => by
    induction L with
    | nil => exact fun acc h => h
    | cons x L ih => exact fun acc h => ih _ (insR_sorted x acc h)
  exact List.pairwise_reverse.2 (key L [] List.Pairwise.nil)

/-- The game in which a wire is made short. -/
def shE (g : Gm) (w : Nat) : Nat × Nat := g.ws.getD w (0, 0)
def shortG (g : Gm) (w : Nat) : Gm := ⟨g.n - 1, plc (shE g w).1 (shE g w).2 g.s, plc (shE g w).1 (shE g w).2 g.t, isort (shW (shE g w).1 (shE g w).2 g.ws)⟩
/-- Whether a wire joins the ends. -/
def joinsE (g : Gm) (w : Nat) : Prop := min g.s g.t = (shE g w).1 ∧ max g.s g.t = (shE g w).2

def iS (L : List (Nat × Nat)) (i : Nat) : List (Nat × Nat) := (isortR (L.take i)).reverse ++ L.drop i
theorem iS_full (L : List (Nat × Nat)) {i : Nat} (h : L.length ≤ i) : iS L i = isort L := by
  rw [iS, List.take_of_length_le h, List.drop_of_length_le h, List.append_nil, isort]
theorem iS_succ (L : List (Nat × Nat)) {i : Nat} (h : i < L.length) : iS L (i + 1) = (insR L[i] (isortR (L.take i))).reverse ++ L.drop (i + 1) := by
  rw [iS, List.take_add_one, List.getElem?_eq_getElem h]
  simp only [isortR, Option.toList_some, List.foldl_append, List.foldl_cons, List.foldl_nil]
theorem iS_one (L : List (Nat × Nat)) : iS L 1 = L := by
  cases L with
  | nil => rfl
  | cons x L => simp [iS, isortR, insR]
theorem iS_at (L : List (Nat × Nat)) {i : Nat} (h : i < L.length) : iS L i = (isortR (L.take i)).reverse ++ L[i] :: ([] ++ L.drop (i + 1)) := by
  rw [iS, List.nil_append, List.drop_eq_getElem_cons h]
theorem isortR_len (L : List (Nat × Nat)) : (isortR L).length = L.length := (isortR_perm L).length_eq
theorem swap_eq (A : List (Nat × Nat)) (y x : Nat × Nat) (B : List (Nat × Nat)) : ((A ++ [y] ++ x :: B).set (A.length + 1) y).set A.length x = A ++ x :: (y :: B) := by
  rw [List.append_assoc, List.singleton_append, List.set_append_right _ _ (by omega), show A.length + 1 - A.length = 1 by omega, List.set_cons_succ, List.set_cons_zero, List.set_append_right _ _ (by omega), Nat.sub_self, List.set_cons_zero]
theorem get_x (A : List (Nat × Nat)) (y x : Nat × Nat) (B : List (Nat × Nat)) : (A ++ [y] ++ x :: B).getD (A.length + 1) (0, 0) = x ∧ (A ++ [y] ++ x :: B).getD A.length (0, 0) = y := by
  constructor
  · rw [List.getD_eq_getElem?_getD, List.getElem?_append_right (by simp)]; simp
  · rw [List.getD_eq_getElem?_getD, List.append_assoc, List.getElem?_append_right (by simp)]; simp
theorem fl_set : ∀ (V : List (Nat × Nat)) (i : Nat) (w : Nat × Nat), wrn (ints (fl V)) (i * 2) [.int .i64 (w.1 : Nat), .int .i64 (w.2 : Nat)] = ints (fl (V.set i w)) := by
  have key : ∀ (V : List (Nat × Nat)) (i : Nat) (w : Nat × Nat), ((fl V).set (i * 2) (w.1 : Nat)).set (i * 2 + 1) (w.2 : Nat) = fl (V.set i w) := fun V => by
    induction V with
    | nil => intro i w; simp [fl]
    | cons v V ih =>
      intro i w
      cases i with
      | zero => simp [fl]
      | succ i =>
        have := ih i w
        rw [show (i + 1) * 2 = i * 2 + 1 + 1 by omega]
        simp only [fl, List.flatMap_cons, List.cons_append, List.nil_append, List.set_cons_succ] at this ⊢
        rw [this]
  intro V i w
  show ((ints (fl V)).set (i * 2) (.int .i64 (w.1 : Nat))).set (i * 2 + 1) (.int .i64 (w.2 : Nat)) = _
  rw [ints_set, ints_set, key]
theorem rdn_fl (V : List (Nat × Nat)) (i : Nat) : rdn (ints (fl V)) (i * 2) [.int .i64 0, .int .i64 0] = [.int .i64 ((V.getD i (0, 0)).1 : Nat), .int .i64 ((V.getD i (0, 0)).2 : Nat)] := by
  have := wgetW V i
  rw [Nat.zero_add] at this
  exact this
/-- The order of wires, as the program says it. -/
def cmpW (x y : Nat × Nat) : Int := cmpL [(x.1 : Int), (x.2 : Int)] [(y.1 : Int), (y.2 : Int)]
theorem cmpI_or (a b : Int) : (cmpI a b = -1 ∧ a < b) ∨ (cmpI a b = 1 ∧ b < a) ∨ (cmpI a b = 0 ∧ a = b) := by
  unfold cmpI
  split
  · exact .inl ⟨rfl, by assumption⟩
  · split
    · exact .inr (.inl ⟨rfl, by assumption⟩)
    · exact .inr (.inr ⟨rfl, by omega⟩)
theorem cmpW_neg (x y : Nat × Nat) : decide (cmpW x y < 0) = !leW y x := by
  have h : cmpW x y < 0 ↔ ¬ leW y x = true := by
    rw [leW_iff]
    unfold cmpW
    rcases cmpI_or x.1 y.1 with ⟨e1, h1⟩ | ⟨e1, h1⟩ | ⟨e1, h1⟩
    · simp only [cmpL, e1]; omega
    · simp only [cmpL, e1]; omega
    · rcases cmpI_or x.2 y.2 with ⟨e2, h2⟩ | ⟨e2, h2⟩ | ⟨e2, h2⟩
      · simp [cmpL, e1, e2]; omega
      · simp [cmpL, e1, e2]; omega
      · simp [cmpL, e1, e2]; omega
  cases hl : leW y x with
  | true => exact decide_eq_false (by rw [h, hl]; simp)
  | false => exact decide_eq_true (by rw [h, hl]; simp)
theorem cmpW_spec (x y : Nat × Nat) : FDet Tryd.prog 90 [.g [.int .i64 (x.1 : Nat), .int .i64 (x.2 : Nat)], .g [.int .i64 (y.1 : Nat), .int .i64 (y.2 : Nat)]] [] 0 (.c (.int .i64 (cmpW x y))) [] 0 := by
  have h := cmpS2_spec (A := [(x.1 : Int), (x.2 : Int)]) (o := 0) (y.1 : Int) (y.2 : Int) (by simp)
  rw [win2 (by simp)] at h
  change FDet Tryd.prog _ _ _ _ (.c (.int .i64 (cmpW x y))) _ _ at h
  refine FSpec.of_body tok true Tryd.func90 rfl (by kernel_rfl) (by decide) (by simp [tupA, hpLt, tmLt, AV.lt, AE.lt, AC.lt, LL_cons, LL_nil, idOk, ABlk.lt, ints_LL, GB, tab64_LL, gC, wB]) (by simp [tupA, hpLt, tmLt, AV.lt, AE.lt, AC.lt, LL_cons, LL_nil, idOk, ABlk.lt, ints_LL, GB, tab64_LL, gC, wB]) (by show 2 ≤ _; decide) ?_
  refine Wk.on ?_
  refine Tr.draw (md := true) [⟨[], [6], [], [], []⟩, ⟨[], [5], [0], [], []⟩] tok (by kernel_rfl) (by kernel_rfl) ?_
  refine Wk.on ?_
  refine CallA.ro [0, 1] (.c (.int .i64 (cmpW x y))) (h) (by first | rfl | exact congrArg AV.g (ints_ren _ _) | (simp [ints_ren, AV.ren, ABlk.ren, AC.ren, AE.ren, qq]; done)) rfl (by (repeat (first | exact trivial | refine ⟨⟨(by first | exact .inl (by decide) | exact .inr (by decide)), (by first | (refine Or.inl ?_; first | rfl | exact congrArg some (ints_ren _ _).symm | exact congrArg ABlk.own (ints_ren _ _).symm | exact congrArg some (tab64_ren _).symm | exact congrArg (ABlk.row _ _) (ints_ren _ _).symm) | rfl | exact congrArg some (ints_ren _ _).symm | exact congrArg ABlk.own (ints_ren _ _).symm | exact congrArg some (tab64_ren _).symm | exact congrArg (ABlk.row _ _) (ints_ren _ _).symm | exact Or.inr ⟨rfl, rfl⟩)⟩, ?_⟩))) (by first | rfl | exact congrArg AV.g (ints_ren _ _) | (simp [ints_ren, AV.ren, ABlk.ren, AC.ren, AE.ren, qq]; done)) ?_
  refine Wk.on ?_
  exact AH.Fin.nil [] ⟨rfl, rfl, rfl⟩ (by first | exact trivial | (simp [tupA, hpLt, tmLt, AV.lt, AE.lt, AC.lt, LL_cons, LL_nil, idOk, ABlk.lt, ints_LL, GB, tab64_LL, gC, wB]; done) | (simp [tupA, hpLt, tmLt, AV.lt, AE.lt, AC.lt, LL_cons, LL_nil, idOk, ABlk.lt, ints_LL, GB, tab64_LL, gC, wB, rdn, wrn]; done)) trivial trivial rfl (by simp [GB])
theorem insort_spec (L : List (Nat × Nat)) (hL : L.length ≤ 1000) : FDet Tryd.prog 122 [.c (.row 0 L.length), .c (.int .i64 0), .c (.int .i64 L.length), .c (.fn 90 [] [])] [(0, .row 60 2 (ints (fl L)))] 1 (.t []) [(0, .row 60 2 (ints (fl (isort L))))] 1 := by
  refine FSpec.of_body tok true Tryd.func122 rfl (by kernel_rfl) (by decide) (by simp [tupA, hpLt, tmLt, AV.lt, AE.lt, AC.lt, LL_cons, LL_nil, idOk, ABlk.lt, ints_LL, GB, tab64_LL, gC, wB]) (by simp [tupA, hpLt, tmLt, AV.lt, AE.lt, AC.lt, LL_cons, LL_nil, idOk, ABlk.lt, ints_LL, GB, tab64_LL, gC, wB]) (by show 4 ≤ _; decide) ?_
  refine Wk.on ?_
  refine Tr.loop (md := true) (X := Nat) (st := fun i => ⟨[(0, .c (.row 0 L.length)), (1, .c (.int .i64 0)), (2, .c (.int .i64 L.length)), (3, .c (.fn 90 [] [])), (8, .c (.int .i64 i))], [(0, .row 60 2 (ints (fl (iS L i))))], 1, 53, 1⟩) (inv := fun i => 1 ≤ i ∧ i ≤ 1001) (μ := fun i => 1001 - i) (x0 := 1) (l := []) tok ⟨by omega, by omega⟩ ?_ ?_
  · exact Sub.nil ⟨rfl, rfl, (by simp [tab64_LL, gC, wB]), rfl, (by simp [tupA, hpLt, tmLt, AV.lt, AE.lt, AC.lt, LL_cons, LL_nil, idOk, ABlk.lt, ints_LL, GB, tab64_LL, gC, wB]), (by simp [tupA, hpLt, tmLt, AV.lt, AE.lt, AC.lt, LL_cons, LL_nil, idOk, ABlk.lt, ints_LL, GB, tab64_LL, gC, wB])⟩ (by (repeat (first | exact trivial | refine ⟨trivial, ?_⟩ | refine ⟨rfl, ?_⟩))) ⟨by rw [iS_one]; rfl, trivial⟩
  · rintro i ⟨h1, h2⟩
    by_cases hi : i < L.length
    · obtain ⟨P, hP⟩ : ∃ P, P = (isortR (L.take i)).reverse := ⟨_, rfl⟩
      obtain ⟨x, hx⟩ : ∃ x, x = L[i] := ⟨_, rfl⟩
      obtain ⟨S, hS⟩ : ∃ S, S = L.drop (i + 1) := ⟨_, rfl⟩
      have hat := iS_at L hi
      have hsu := iS_succ L hi
      rw [← hP, ← hx, ← hS] at hat
      rw [← hx, ← hS] at hsu
      have hPl : P.length = i := by rw [hP, List.length_reverse, isortR_len, List.length_take]; omega
      have hSl : S.length + (i + 1) = L.length := by rw [hS, List.length_drop]; omega
      have hPr : isortR (L.take i) = P.reverse := by rw [hP, List.reverse_reverse]
      rw [hPr] at hsu
      rw [hat]
      clear hP hx hS hPr hat
      refine Wk.on ?_
      rw [decide_eq_true (show ((i : Nat) : Int) < ((L.length : Nat) : Int) by omega)]
      refine Wk.on ?_
      refine Tr.loop (md := true) (X := List (Nat × Nat) × List (Nat × Nat)) (st := fun q => ⟨[(0, .c (.row 0 L.length)), (1, .c (.int .i64 0)), (2, .c (.int .i64 L.length)), (3, .c (.fn 90 [] [])), (8, .c (.int .i64 i)), (9, .c (.int .i64 q.1.length))], [(0, .row 60 2 (ints (fl (q.1 ++ x :: (q.2 ++ S)))))], 1, 53, 1⟩) (inv := fun q => q.1.length + q.2.length = i ∧ (insR x q.1.reverse).reverse ++ q.2 = (insR x P.reverse).reverse) (μ := fun q => q.1.length) (x0 := (P, [])) (l := []) tok ⟨by simp [hPl], by simp⟩ ?_ ?_
      · exact Sub.nil ⟨rfl, rfl, (by simp [tab64_LL, gC, wB]), rfl, (by simp [tupA, hpLt, tmLt, AV.lt, AE.lt, AC.lt, LL_cons, LL_nil, idOk, ABlk.lt, ints_LL, GB, tab64_LL, gC, wB]), (by simp [tupA, hpLt, tmLt, AV.lt, AE.lt, AC.lt, LL_cons, LL_nil, idOk, ABlk.lt, ints_LL, GB, tab64_LL, gC, wB])⟩ ⟨rfl, rfl, rfl, rfl, rfl, by rw [hPl]; rfl, trivial⟩ (by (repeat (first | exact trivial | refine ⟨trivial, ?_⟩ | refine ⟨rfl, ?_⟩)))
      · rintro ⟨A, B⟩ ⟨hl, hin⟩
        dsimp only at hl hin ⊢
        by_cases hA0 : A = []
        · subst hA0
          refine Wk.on ?_
          refine Tr.draw (md := true) [⟨[], [19], [], [], []⟩, ⟨[], [18], [0], [], []⟩, ⟨[0, 1], [], [], [], []⟩, ⟨[0, 1, 2], [], [], [], []⟩, ⟨[0, 1, 2, 3], [23, 24, 25, 26, 27, 28, 29, 30, 31], [], [], []⟩, ⟨[0, 1, 2, 3], [22, 24, 27, 28, 29, 30, 31], [4], [], []⟩, ⟨[0, 1, 2, 3], [22, 23, 27, 28, 29, 30, 31], [4, 5], [], []⟩, ⟨[0, 1, 2, 3, 5, 6], [22, 27, 28, 29, 30, 31], [4], [], []⟩, ⟨[0, 1, 2, 3, 5, 6, 7], [22, 27, 28, 29, 30, 31], [4], [], []⟩, ⟨[0, 1, 2, 3], [22, 23, 24, 25, 26, 28, 29], [4, 5, 6, 7, 8], [], []⟩, ⟨[0, 1, 2, 3], [22, 23, 24, 25, 26, 27], [4, 5, 6, 7, 8, 9], [], []⟩, ⟨[0, 1, 2, 3, 10], [22, 23, 24, 25, 26, 27], [4, 5, 6, 7, 8, 9], [], []⟩, ⟨[0, 1, 2, 3, 9, 10, 11], [22, 23, 24, 25, 26], [4, 5, 6, 7, 8], [], []⟩, ⟨[0, 1, 2, 3, 9, 10, 11, 12], [22, 23, 24, 25, 26], [4, 5, 6, 7, 8], [], []⟩] tok (by kernel_rfl) (by kernel_rfl) ?_
          refine Wk.on ?_
          refine Again.mk (i + 1) (Sub.nil ⟨rfl, rfl, (by simp [tab64_LL, gC, wB]), rfl, (by simp [tupA, hpLt, tmLt, AV.lt, AE.lt, AC.lt, LL_cons, LL_nil, idOk, ABlk.lt, ints_LL, GB, tab64_LL, gC, wB]), (by simp [tupA, hpLt, tmLt, AV.lt, AE.lt, AC.lt, LL_cons, LL_nil, idOk, ABlk.lt, ints_LL, GB, tab64_LL, gC, wB])⟩ (by (repeat (first | exact trivial | refine ⟨trivial, ?_⟩ | refine ⟨rfl, ?_⟩))) ⟨by show ABlk.row 60 2 (ints (fl _)) = ABlk.row 60 2 (ints (fl _)); rw [hsu, ← hin]; simp [insR], trivial⟩) (⟨by omega, by omega⟩) (by omega)
        · obtain ⟨A', y, rfl⟩ : ∃ A' y, A = A' ++ [y] := ⟨A.dropLast, A.getLast hA0, (List.dropLast_concat_getLast hA0).symm⟩
          rw [List.length_append, List.length_singleton] at hl
          have hlen : (ints (fl (A' ++ [y] ++ x :: (B ++ S)))).length = L.length * 2 := by rw [ints_len, fl_len]; simp; omega
          obtain ⟨g1, g2⟩ := get_x A' y x (B ++ S)
          have hsw := swap_eq A' y x (B ++ S)
          have e1 : (A' ++ [y]).length = A'.length + 1 := by simp
          have hr1 : (A' ++ [y]).reverse = y :: A'.reverse := by simp
          have k1 : (((A'.length + 1 : Nat) : Int)).toNat = A'.length + 1 := Int.toNat_natCast _
          have k2 : (((A'.length + 1 : Nat) : Int) - 1).toNat = A'.length := by omega
          rw [hr1] at hin
          rw [e1]
          generalize hj : A'.length = j at *
          generalize hV : A' ++ [y] ++ x :: (B ++ S) = V at *
          have r1 := rdn_fl V (j + 1)
          have r2 := rdn_fl V j
          rw [g1] at r1
          rw [g2] at r2
          have hb1 : (0 : Int) ≤ ((j + 1 : Nat) : Int) ∧ ((j + 1 : Nat) : Int) < ((L.length : Nat) : Int) := by omega
          have hb2 : (0 : Int) ≤ ((j + 1 : Nat) : Int) - 1 ∧ ((j + 1 : Nat) : Int) - 1 < ((L.length : Nat) : Int) := by omega
          refine Wk.on ?_
          refine Tr.draw (md := true) [⟨[], [19], [], [], []⟩, ⟨[], [18], [0], [], []⟩, ⟨[0, 1], [], [], [], []⟩, ⟨[0, 1, 2], [], [], [], []⟩, ⟨[0, 1, 2, 3], [23, 24, 25, 26, 27, 28, 29, 30, 31], [], [], []⟩, ⟨[0, 1, 2, 3], [22, 24, 27, 28, 29, 30, 31], [4], [], []⟩, ⟨[0, 1, 2, 3], [22, 23, 27, 28, 29, 30, 31], [4, 5], [], []⟩, ⟨[0, 1, 2, 3, 5, 6], [22, 27, 28, 29, 30, 31], [4], [], []⟩, ⟨[0, 1, 2, 3, 5, 6, 7], [22, 27, 28, 29, 30, 31], [4], [], []⟩, ⟨[0, 1, 2, 3], [22, 23, 24, 25, 26, 28, 29], [4, 5, 6, 7, 8], [], []⟩, ⟨[0, 1, 2, 3], [22, 23, 24, 25, 26, 27], [4, 5, 6, 7, 8, 9], [], []⟩, ⟨[0, 1, 2, 3, 10], [22, 23, 24, 25, 26, 27], [4, 5, 6, 7, 8, 9], [], []⟩, ⟨[0, 1, 2, 3, 9, 10, 11], [22, 23, 24, 25, 26], [4, 5, 6, 7, 8], [], []⟩, ⟨[0, 1, 2, 3, 9, 10, 11, 12], [22, 23, 24, 25, 26], [4, 5, 6, 7, 8], [], []⟩] tok (by kernel_rfl) (by kernel_rfl) ?_
          refine Wk.on ?_
          rw [decide_eq_true (show (0 : Int) < ((j + 1 : Nat) : Int) by omega)]
          refine Wk.on ?_
          refine ⟨⟨by rw [k1, hlen]; show (j + 1) * 2 + 2 ≤ _; omega, rfl⟩, ?_⟩
          rw [k1]
          refine Wk.on ?_
          refine ⟨⟨by rw [k2, hlen]; show j * 2 + 2 ≤ _; omega, rfl⟩, ?_⟩
          rw [k2]
          refine Wk.on ?_
          rw [show rdn (ints (fl V)) ((j + 1) * 2) [.int .i64 0, .int .i64 0] = _ from r1, show rdn (ints (fl V)) (j * 2) [.int .i64 0, .int .i64 0] = _ from r2]
          refine CallA.ro [] (.c (.int .i64 (cmpW x y))) (cmpW_spec x y) (by first | rfl | exact congrArg AV.g (ints_ren _ _) | (simp [ints_ren, AV.ren, ABlk.ren, AC.ren, AE.ren, qq]; done)) rfl (by (repeat (first | exact trivial | refine ⟨⟨(by first | exact .inl (by decide) | exact .inr (by decide)), (by first | (refine Or.inl ?_; first | rfl | exact congrArg some (ints_ren _ _).symm | exact congrArg ABlk.own (ints_ren _ _).symm | exact congrArg some (tab64_ren _).symm | exact congrArg (ABlk.row _ _) (ints_ren _ _).symm) | rfl | exact congrArg some (ints_ren _ _).symm | exact congrArg ABlk.own (ints_ren _ _).symm | exact congrArg some (tab64_ren _).symm | exact congrArg (ABlk.row _ _) (ints_ren _ _).symm | exact Or.inr ⟨rfl, rfl⟩)⟩, ?_⟩))) (by first | rfl | exact congrArg AV.g (ints_ren _ _) | (simp [ints_ren, AV.ren, ABlk.ren, AC.ren, AE.ren, qq]; done)) ?_
          refine Wk.on ?_
          rw [cmpW_neg]
          cases hlt : leW y x with
          | false =>
            refine Wk.on ?_
            refine Tr.draw (md := true) [⟨[], [38, 39, 40, 41, 42, 43, 44, 45, 46, 47, 48, 49, 50], [], [], []⟩, ⟨[], [37, 39, 40, 41, 42, 43, 44, 45, 46, 47, 48, 49, 50], [0], [], []⟩, ⟨[], [37, 38, 40, 41, 42, 43, 44, 45, 46, 47, 48, 49, 50, 51], [0, 1], [], [0]⟩, ⟨[], [37, 38, 39, 42, 43, 44, 45, 46, 47, 48, 49, 50, 51], [0, 1, 2], [], [0]⟩, ⟨[3], [37, 38, 39, 42, 43, 44, 45, 46, 47, 48, 49, 50, 51], [0, 1, 2], [], [0]⟩, ⟨[], [37, 38, 39, 40, 41, 43, 44, 47, 48, 49, 50], [0, 1, 2, 3, 4], [], []⟩, ⟨[], [37, 38, 39, 40, 41, 42, 47, 48, 49, 50], [0, 1, 2, 3, 4, 5], [], []⟩, ⟨[6], [37, 38, 39, 40, 41, 42, 47, 48, 49, 50], [0, 1, 2, 3, 4, 5], [], []⟩, ⟨[5, 6, 7], [37, 38, 39, 40, 41, 47, 48, 49, 50], [0, 1, 2, 3, 4], [], []⟩, ⟨[5, 6, 7, 8], [37, 38, 39, 40, 41, 47, 48, 49, 50], [0, 1, 2, 3, 4], [], []⟩, ⟨[], [37, 38, 39, 40, 41, 42, 43, 44, 45, 46, 48], [0, 1, 2, 3, 4, 5, 6, 7, 8, 9], [], []⟩, ⟨[], [37, 38, 39, 40, 41, 42, 43, 44, 45, 46, 47], [0, 1, 2, 3, 4, 5, 6, 7, 8, 9, 10], [], []⟩, ⟨[10, 11], [37, 38, 39, 40, 41, 42, 43, 44, 45, 46], [0, 1, 2, 3, 4, 5, 6, 7, 8, 9], [], []⟩, ⟨[10, 11, 12], [37, 38, 39, 40, 41, 42, 43, 44, 45, 46], [0, 1, 2, 3, 4, 5, 6, 7, 8, 9], [], []⟩, ⟨[0, 1, 5, 6, 7, 8, 9, 10, 11, 12, 13], [39, 40, 41], [2, 3, 4], [], []⟩, ⟨[0, 1, 5, 6, 7, 8, 9, 10, 11, 12, 13, 14], [39, 40, 41], [2, 3, 4], [0], []⟩] tok (by kernel_rfl) (by kernel_rfl) ?_
            refine Wk.on ?_
            refine ⟨⟨by rw [k2, hlen]; show j * 2 + 2 ≤ _; omega, rfl⟩, ?_⟩
            rw [k2]
            refine Wk.on ?_
            refine ⟨⟨by rw [k1, hlen]; show (j + 1) * 2 + 2 ≤ _; omega, rfl⟩, ?_⟩
            rw [k1]
            refine Wk.on ?_
            rw [show rdn (ints (fl V)) ((j + 1) * 2) [.int .i64 0, .int .i64 0] = _ from r1, show rdn (ints (fl V)) (j * 2) [.int .i64 0, .int .i64 0] = _ from r2]
            refine Wk.on ?_
            refine ⟨⟨rfl, by rw [k1, hlen]; show (j + 1) * 2 + 2 ≤ _; omega⟩, ?_⟩
            rw [k1]
            refine Wk.on ?_
            rw [fl_set]
            refine ⟨⟨rfl, by rw [k2, ints_len, fl_len, List.length_set]; rw [ints_len, fl_len] at hlen; show j * 2 + 2 ≤ _; omega⟩, ?_⟩
            rw [k2]
            refine Wk.on ?_
            refine Again.mk (A', y :: B) (Sub.nil ⟨rfl, rfl, (by simp [tab64_LL, gC, wB]), rfl, (by simp [tupA, hpLt, tmLt, AV.lt, AE.lt, AC.lt, LL_cons, LL_nil, idOk, ABlk.lt, ints_LL, GB, tab64_LL, gC, wB]), (by simp [tupA, hpLt, tmLt, AV.lt, AE.lt, AC.lt, LL_cons, LL_nil, idOk, ABlk.lt, ints_LL, GB, tab64_LL, gC, wB])⟩ ⟨rfl, rfl, rfl, rfl, rfl, by show AV.c (.int .i64 _) = AV.c (.int .i64 _); rw [hj]; congr 2; omega, trivial⟩ ⟨by show ABlk.row 60 2 (wrn _ _ [.int .i64 (x.1 : Nat), .int .i64 (x.2 : Nat)]) = ABlk.row 60 2 (ints (fl _)); rw [fl_set, hsw]; rfl, trivial⟩) ⟨by show A'.length + (y :: B).length = i; rw [hj, List.length_cons]; omega, by rw [← hin, insR, hlt]; simp⟩ (by show A'.length < j + 1; omega)
          | true =>
            refine Wk.on ?_
            refine Again.mk (i + 1) (Sub.nil ⟨rfl, rfl, (by simp [tab64_LL, gC, wB]), rfl, (by simp [tupA, hpLt, tmLt, AV.lt, AE.lt, AC.lt, LL_cons, LL_nil, idOk, ABlk.lt, ints_LL, GB, tab64_LL, gC, wB]), (by simp [tupA, hpLt, tmLt, AV.lt, AE.lt, AC.lt, LL_cons, LL_nil, idOk, ABlk.lt, ints_LL, GB, tab64_LL, gC, wB])⟩ (by (repeat (first | exact trivial | refine ⟨trivial, ?_⟩ | refine ⟨rfl, ?_⟩))) ⟨by show ABlk.row 60 2 (ints (fl _)) = ABlk.row 60 2 (ints (fl _)); rw [hsu, ← hin, insR, hlt]; simp [← hV], trivial⟩) (⟨by omega, by omega⟩) (by omega)
    · refine Wk.on ?_
      rw [decide_eq_false (show ¬ ((i : Nat) : Int) < ((L.length : Nat) : Int) by omega)]
      refine Wk.on ?_
      exact Fin.nil [(0, .row 60 2 (ints (fl (isort L))))] ⟨rfl, rfl, rfl⟩ (by simp [tupA, AV.lt]) ⟨by show ABlk.row 60 2 (ints (fl _)) = ABlk.row 60 2 (ints (fl _)); rw [iS_full L (by omega)], trivial⟩ (by simp [tupA, hpLt, tmLt, AV.lt, AE.lt, AC.lt, LL_cons, LL_nil, idOk, ABlk.lt, ints_LL, GB, tab64_LL, gC, wB]) rfl (by simp [GB])
def lenN (n : Nat) : Nat := if n = 0 then 0 else n.log2 + 1
theorem wrap8 {n : Nat} (h : n < 256) : IntKind.u8.wrap (n : Int) = n := AH.wrap_small _ _ (by omega) (by show (n : Int) < 2 ^ 8; omega) (by intro h; cases h)
theorem len64_spec {n : Nat} (h : n < 256) : FDet Tryd.prog 131 [.c (.int .u64 n)] [] 0 (.c (.int .i64 (lenN n))) [] 0 := by
  refine FSpec.of_body tok true Tryd.func131 rfl (by kernel_rfl) (by decide) (by simp [tupA, hpLt, tmLt, AV.lt, AE.lt, AC.lt, LL_cons, LL_nil, idOk, ABlk.lt, ints_LL, GB, tab64_LL, gC, wB]) (by simp [tupA, hpLt, tmLt, AV.lt, AE.lt, AC.lt, LL_cons, LL_nil, idOk, ABlk.lt, ints_LL, GB, tab64_LL, gC, wB]) (by show 1 ≤ _; decide) ?_
  refine Wk.on ?_
  rw [decide_eq_false (show ¬ (4294967296 : Int) ≤ (n : Int) by omega)]
  refine Wk.on ?_
  rw [decide_eq_false (show ¬ (65536 : Int) ≤ (n : Int) by omega)]
  refine Wk.on ?_
  rw [decide_eq_false (show ¬ (256 : Int) ≤ (n : Int) by omega)]
  refine Wk.on ?_
  rw [wrap8 h]
  generalize hX : ByteArray.mk _ = X
  have hsz : X.size = 256 := by rw [← hX]; kernel_rfl
  have key : ∀ m : Nat, m < 256 → IntKind.i64.wrap (((X.data.toList.getD m 0).toNat : Nat) : Int) = lenN m := by rw [← hX]; decide +kernel
  clear hX
  refine ⟨⟨by omega, by omega⟩, ?_⟩
  rw [Int.toNat_natCast]
  refine Wk.on ?_
  rw [key n h]
  have hl2 : lenN n ≤ 8 := by
    unfold lenN
    split
    · omega
    · have := (Nat.log2_lt (n := n) (k := 8) (by omega)).2 (by omega); omega
  refine Wk.on ?_
  exact AH.Fin.nil [] ⟨by show AV.c (.int .i64 (0 + (lenN n : Nat))) = _; rw [Int.zero_add], rfl, rfl⟩ (by first | exact trivial | (simp [tupA, hpLt, tmLt, AV.lt, AE.lt, AC.lt, LL_cons, LL_nil, idOk, ABlk.lt, ints_LL, GB, tab64_LL, gC, wB]; done) | (simp [tupA, hpLt, tmLt, AV.lt, AE.lt, AC.lt, LL_cons, LL_nil, idOk, ABlk.lt, ints_LL, GB, tab64_LL, gC, wB, rdn, wrn]; done)) trivial trivial rfl (by simp [GB])
theorem len_spec {n : Nat} (h : n < 256) : FDet Tryd.prog 112 [.c (.int .u64 n)] [] 0 (.c (.int .i64 (lenN n))) [] 0 := by
  refine FSpec.of_body tok true Tryd.func112 rfl (by kernel_rfl) (by decide) (by simp [tupA, hpLt, tmLt, AV.lt, AE.lt, AC.lt, LL_cons, LL_nil, idOk, ABlk.lt, ints_LL, GB, tab64_LL, gC, wB]) (by simp [tupA, hpLt, tmLt, AV.lt, AE.lt, AC.lt, LL_cons, LL_nil, idOk, ABlk.lt, ints_LL, GB, tab64_LL, gC, wB]) (by show 1 ≤ _; decide) ?_
  refine Wk.on ?_
  refine CallA.ro [] (.c (.int .i64 (lenN n))) (len64_spec h) (by first | rfl | exact congrArg AV.g (ints_ren _ _) | (simp [ints_ren, AV.ren, ABlk.ren, AC.ren, AE.ren, qq]; done)) rfl (by (repeat (first | exact trivial | refine ⟨⟨(by first | exact .inl (by decide) | exact .inr (by decide)), (by first | (refine Or.inl ?_; first | rfl | exact congrArg some (ints_ren _ _).symm | exact congrArg ABlk.own (ints_ren _ _).symm | exact congrArg some (tab64_ren _).symm | exact congrArg (ABlk.row _ _) (ints_ren _ _).symm) | rfl | exact congrArg some (ints_ren _ _).symm | exact congrArg ABlk.own (ints_ren _ _).symm | exact congrArg some (tab64_ren _).symm | exact congrArg (ABlk.row _ _) (ints_ren _ _).symm | exact Or.inr ⟨rfl, rfl⟩)⟩, ?_⟩))) (by first | rfl | exact congrArg AV.g (ints_ren _ _) | (simp [ints_ren, AV.ren, ABlk.ren, AC.ren, AE.ren, qq]; done)) ?_
  refine Wk.on ?_
  exact AH.Fin.nil [] ⟨rfl, rfl, rfl⟩ (by first | exact trivial | (simp [tupA, hpLt, tmLt, AV.lt, AE.lt, AC.lt, LL_cons, LL_nil, idOk, ABlk.lt, ints_LL, GB, tab64_LL, gC, wB]; done) | (simp [tupA, hpLt, tmLt, AV.lt, AE.lt, AC.lt, LL_cons, LL_nil, idOk, ABlk.lt, ints_LL, GB, tab64_LL, gC, wB, rdn, wrn]; done)) trivial trivial rfl (by simp [GB])
theorem pdq_spec (L : List (Nat × Nat)) (hL : L.length ≤ 12) (m : Nat) : FDet Tryd.prog 111 [.c (.row 0 L.length), .c (.int .i64 0), .c (.int .i64 L.length), .c (.int .i64 m), .c (.fn 90 [] [])] [(0, .row 60 2 (ints (fl L)))] 1 (.t []) [(0, .row 60 2 (ints (fl (isort L))))] 1 := by
  refine FSpec.of_body tok true Tryd.func111 rfl (by kernel_rfl) (by decide) (by simp [tupA, hpLt, tmLt, AV.lt, AE.lt, AC.lt, LL_cons, LL_nil, idOk, ABlk.lt, ints_LL, GB, tab64_LL, gC, wB]) (by simp [tupA, hpLt, tmLt, AV.lt, AE.lt, AC.lt, LL_cons, LL_nil, idOk, ABlk.lt, ints_LL, GB, tab64_LL, gC, wB]) (by show 5 ≤ _; decide) ?_
  refine Wk.on ?_
  refine Tr.loop (md := true) (X := Unit) (st := fun _ => ⟨[(0, .c (.row 0 L.length)), (1, .c (.int .i64 0)), (2, .c (.int .i64 L.length)), (4, .c (.fn 90 [] []))], [(0, .row 60 2 (ints (fl L)))], 1, 148, 1⟩) (inv := fun _ => True) (μ := fun _ => 0) (x0 := ()) (l := []) tok trivial ?_ ?_
  · exact Sub.nil ⟨rfl, rfl, (by simp [tab64_LL, gC, wB]), rfl, (by simp [tupA, hpLt, tmLt, AV.lt, AE.lt, AC.lt, LL_cons, LL_nil, idOk, ABlk.lt, ints_LL, GB, tab64_LL, gC, wB]), (by simp [tupA, hpLt, tmLt, AV.lt, AE.lt, AC.lt, LL_cons, LL_nil, idOk, ABlk.lt, ints_LL, GB, tab64_LL, gC, wB])⟩ (by (repeat (first | exact trivial | refine ⟨trivial, ?_⟩ | refine ⟨rfl, ?_⟩))) (by (repeat (first | exact trivial | refine ⟨trivial, ?_⟩ | refine ⟨rfl, ?_⟩)))
  · intro _ _
    refine Wk.on ?_
    rw [decide_eq_true (show ((L.length : Nat) : Int) - 0 ≤ 12 by omega)]
    refine Wk.on ?_
    refine CallA.det [0] (.t []) ([(0, .row 60 2 (ints (fl (isort L))))]) (insort_spec L (by omega)) (by first | rfl | exact congrArg AV.g (ints_ren _ _) | (simp [ints_ren, AV.ren, ABlk.ren, AC.ren, AE.ren, qq]; done)) rfl (by (repeat (first | exact trivial | refine ⟨⟨(by first | exact .inl (by decide) | exact .inr (by decide)), (by first | (refine Or.inl ?_; first | rfl | exact congrArg some (ints_ren _ _).symm | exact congrArg ABlk.own (ints_ren _ _).symm | exact congrArg some (tab64_ren _).symm | exact congrArg (ABlk.row _ _) (ints_ren _ _).symm) | rfl | exact congrArg some (ints_ren _ _).symm | exact congrArg ABlk.own (ints_ren _ _).symm | exact congrArg some (tab64_ren _).symm | exact congrArg (ABlk.row _ _) (ints_ren _ _).symm | exact Or.inr ⟨rfl, rfl⟩)⟩, ?_⟩))) (by first | rfl | exact congrArg AV.g (ints_ren _ _) | (simp [ints_ren, AV.ren, ABlk.ren, AC.ren, AE.ren, qq]; done)) (by first | rfl | (simp [behind, gone, lk, up, del, qq, ABlk.wr, GB, ints_ren, AV.ren, ABlk.ren, AC.ren, AE.ren]; done) | (simp [behind, gone, lk, up, del, qq, ABlk.wr, GB, ints_ren, AV.ren, ABlk.ren, AC.ren, AE.ren]; rfl)) ?_
    refine Wk.on ?_
    exact Fin.nil [(0, .row 60 2 (ints (fl (isort L))))] ⟨rfl, rfl, rfl⟩ (by simp [tupA, AV.lt]) ⟨rfl, trivial⟩ (by simp [tupA, hpLt, tmLt, AV.lt, AE.lt, AC.lt, LL_cons, LL_nil, idOk, ABlk.lt, ints_LL, GB, tab64_LL, gC, wB]) rfl (by simp [GB])
theorem sortW_spec (L : List (Nat × Nat)) (hL : L.length ≤ 12) : FDet Tryd.prog 89 [.c (.row 0 L.length), .c (.fn 90 [] [])] [(0, .row 60 2 (ints (fl L)))] 1 (.t []) [(0, .row 60 2 (ints (fl (isort L))))] 1 := by
  have hw : IntKind.u64.wrap (L.length : Int) = L.length := wrapU (by omega)
  refine FSpec.of_body tok true Tryd.func89 rfl (by kernel_rfl) (by decide) (by simp [tupA, hpLt, tmLt, AV.lt, AE.lt, AC.lt, LL_cons, LL_nil, idOk, ABlk.lt, ints_LL, GB, tab64_LL, gC, wB]) (by simp [tupA, hpLt, tmLt, AV.lt, AE.lt, AC.lt, LL_cons, LL_nil, idOk, ABlk.lt, ints_LL, GB, tab64_LL, gC, wB]) (by show 2 ≤ _; decide) ?_
  refine Wk.on ?_
  rw [hw]
  refine CallA.ro [] (.c (.int .i64 (lenN L.length))) (len_spec (n := L.length) (by omega)) (by first | rfl | exact congrArg AV.g (ints_ren _ _) | (simp [ints_ren, AV.ren, ABlk.ren, AC.ren, AE.ren, qq]; done)) rfl (by (repeat (first | exact trivial | refine ⟨⟨(by first | exact .inl (by decide) | exact .inr (by decide)), (by first | (refine Or.inl ?_; first | rfl | exact congrArg some (ints_ren _ _).symm | exact congrArg ABlk.own (ints_ren _ _).symm | exact congrArg some (tab64_ren _).symm | exact congrArg (ABlk.row _ _) (ints_ren _ _).symm) | rfl | exact congrArg some (ints_ren _ _).symm | exact congrArg ABlk.own (ints_ren _ _).symm | exact congrArg some (tab64_ren _).symm | exact congrArg (ABlk.row _ _) (ints_ren _ _).symm | exact Or.inr ⟨rfl, rfl⟩)⟩, ?_⟩))) (by first | rfl | exact congrArg AV.g (ints_ren _ _) | (simp [ints_ren, AV.ren, ABlk.ren, AC.ren, AE.ren, qq]; done)) ?_
  refine Wk.on ?_
  refine CallA.det [0] (.t []) ([(0, .row 60 2 (ints (fl (isort L))))]) (pdq_spec L hL (lenN L.length)) (by first | rfl | exact congrArg AV.g (ints_ren _ _) | (simp [ints_ren, AV.ren, ABlk.ren, AC.ren, AE.ren, qq]; done)) rfl (by (repeat (first | exact trivial | refine ⟨⟨(by first | exact .inl (by decide) | exact .inr (by decide)), (by first | (refine Or.inl ?_; first | rfl | exact congrArg some (ints_ren _ _).symm | exact congrArg ABlk.own (ints_ren _ _).symm | exact congrArg some (tab64_ren _).symm | exact congrArg (ABlk.row _ _) (ints_ren _ _).symm) | rfl | exact congrArg some (ints_ren _ _).symm | exact congrArg ABlk.own (ints_ren _ _).symm | exact congrArg some (tab64_ren _).symm | exact congrArg (ABlk.row _ _) (ints_ren _ _).symm | exact Or.inr ⟨rfl, rfl⟩)⟩, ?_⟩))) (by first | rfl | exact congrArg AV.g (ints_ren _ _) | (simp [ints_ren, AV.ren, ABlk.ren, AC.ren, AE.ren, qq]; done)) (by first | rfl | (simp [behind, gone, lk, up, del, qq, ABlk.wr, GB, ints_ren, AV.ren, ABlk.ren, AC.ren, AE.ren]; done) | (simp [behind, gone, lk, up, del, qq, ABlk.wr, GB, ints_ren, AV.ren, ABlk.ren, AC.ren, AE.ren]; rfl)) ?_
  refine Wk.on ?_
  exact Fin.nil [(0, .row 60 2 (ints (fl (isort L))))] ⟨rfl, rfl, rfl⟩ (by simp [tupA, AV.lt]) ⟨rfl, trivial⟩ (by simp [tupA, hpLt, tmLt, AV.lt, AE.lt, AC.lt, LL_cons, LL_nil, idOk, ABlk.lt, ints_LL, GB, tab64_LL, gC, wB]) rfl (by simp [GB])
theorem insort_nil : FDet Tryd.prog 122 [.c .nils, .c (.int .i64 0), .c (.int .i64 0), .c (.fn 90 [] [])] [] 0 (.t []) [] 0 := by
  refine FSpec.of_body tok true Tryd.func122 rfl (by kernel_rfl) (by decide) (by simp [tupA, hpLt, tmLt, AV.lt, AE.lt, AC.lt, LL_cons, LL_nil, idOk, ABlk.lt, ints_LL, GB, tab64_LL, gC, wB]) (by simp [tupA, hpLt, tmLt, AV.lt, AE.lt, AC.lt, LL_cons, LL_nil, idOk, ABlk.lt, ints_LL, GB, tab64_LL, gC, wB]) (by show 4 ≤ _; decide) ?_
  refine Wk.on ?_
  refine Tr.loop (md := true) (X := Unit) (st := fun _ => ⟨[(0, .c .nils), (1, .c (.int .i64 0)), (2, .c (.int .i64 0)), (8, .c (.int .i64 1))], [], 0, 53, 0⟩) (inv := fun _ => True) (μ := fun _ => 0) (x0 := ()) (l := []) tok trivial ?_ ?_
  · exact Sub.nil ⟨rfl, rfl, (by simp [tab64_LL, gC, wB]), rfl, (by simp [tupA, hpLt, tmLt, AV.lt, AE.lt, AC.lt, LL_cons, LL_nil, idOk, ABlk.lt, ints_LL, GB, tab64_LL, gC, wB]), (by simp [tupA, hpLt, tmLt, AV.lt, AE.lt, AC.lt, LL_cons, LL_nil, idOk, ABlk.lt, ints_LL, GB, tab64_LL, gC, wB])⟩ (by (repeat (first | exact trivial | refine ⟨trivial, ?_⟩ | refine ⟨rfl, ?_⟩))) (by (repeat (first | exact trivial | refine ⟨trivial, ?_⟩ | refine ⟨rfl, ?_⟩)))
  · intro _ _
    refine Wk.on ?_
    exact AH.Fin.nil [] ⟨rfl, rfl, rfl⟩ (by first | exact trivial | (simp [tupA, hpLt, tmLt, AV.lt, AE.lt, AC.lt, LL_cons, LL_nil, idOk, ABlk.lt, ints_LL, GB, tab64_LL, gC, wB]; done) | (simp [tupA, hpLt, tmLt, AV.lt, AE.lt, AC.lt, LL_cons, LL_nil, idOk, ABlk.lt, ints_LL, GB, tab64_LL, gC, wB, rdn, wrn]; done)) trivial trivial rfl (by simp [GB])
theorem pdq_nil : FDet Tryd.prog 111 [.c .nils, .c (.int .i64 0), .c (.int .i64 0), .c (.int .i64 0), .c (.fn 90 [] [])] [] 0 (.t []) [] 0 := by
  refine FSpec.of_body tok true Tryd.func111 rfl (by kernel_rfl) (by decide) (by simp [tupA, hpLt, tmLt, AV.lt, AE.lt, AC.lt, LL_cons, LL_nil, idOk, ABlk.lt, ints_LL, GB, tab64_LL, gC, wB]) (by simp [tupA, hpLt, tmLt, AV.lt, AE.lt, AC.lt, LL_cons, LL_nil, idOk, ABlk.lt, ints_LL, GB, tab64_LL, gC, wB]) (by show 5 ≤ _; decide) ?_
  refine Wk.on ?_
  refine Tr.loop (md := true) (X := Unit) (st := fun _ => ⟨[(0, .c .nils), (1, .c (.int .i64 0)), (2, .c (.int .i64 0)), (4, .c (.fn 90 [] []))], [], 0, 148, 0⟩) (inv := fun _ => True) (μ := fun _ => 0) (x0 := ()) (l := []) tok trivial ?_ ?_
  · exact Sub.nil ⟨rfl, rfl, (by simp [tab64_LL, gC, wB]), rfl, (by simp [tupA, hpLt, tmLt, AV.lt, AE.lt, AC.lt, LL_cons, LL_nil, idOk, ABlk.lt, ints_LL, GB, tab64_LL, gC, wB]), (by simp [tupA, hpLt, tmLt, AV.lt, AE.lt, AC.lt, LL_cons, LL_nil, idOk, ABlk.lt, ints_LL, GB, tab64_LL, gC, wB])⟩ (by (repeat (first | exact trivial | refine ⟨trivial, ?_⟩ | refine ⟨rfl, ?_⟩))) (by (repeat (first | exact trivial | refine ⟨trivial, ?_⟩ | refine ⟨rfl, ?_⟩)))
  · intro _ _
    refine Wk.on ?_
    refine CallA.ro [] (.t []) (insort_nil) (by first | rfl | exact congrArg AV.g (ints_ren _ _) | (simp [ints_ren, AV.ren, ABlk.ren, AC.ren, AE.ren, qq]; done)) rfl (by (repeat (first | exact trivial | refine ⟨⟨(by first | exact .inl (by decide) | exact .inr (by decide)), (by first | (refine Or.inl ?_; first | rfl | exact congrArg some (ints_ren _ _).symm | exact congrArg ABlk.own (ints_ren _ _).symm | exact congrArg some (tab64_ren _).symm | exact congrArg (ABlk.row _ _) (ints_ren _ _).symm) | rfl | exact congrArg some (ints_ren _ _).symm | exact congrArg ABlk.own (ints_ren _ _).symm | exact congrArg some (tab64_ren _).symm | exact congrArg (ABlk.row _ _) (ints_ren _ _).symm | exact Or.inr ⟨rfl, rfl⟩)⟩, ?_⟩))) (by first | rfl | exact congrArg AV.g (ints_ren _ _) | (simp [ints_ren, AV.ren, ABlk.ren, AC.ren, AE.ren, qq]; done)) ?_
    refine Wk.on ?_
    exact AH.Fin.nil [] ⟨rfl, rfl, rfl⟩ (by first | exact trivial | (simp [tupA, hpLt, tmLt, AV.lt, AE.lt, AC.lt, LL_cons, LL_nil, idOk, ABlk.lt, ints_LL, GB, tab64_LL, gC, wB]; done) | (simp [tupA, hpLt, tmLt, AV.lt, AE.lt, AC.lt, LL_cons, LL_nil, idOk, ABlk.lt, ints_LL, GB, tab64_LL, gC, wB, rdn, wrn]; done)) trivial trivial rfl (by simp [GB])
theorem sortW_nil : FDet Tryd.prog 89 [.c .nils, .c (.fn 90 [] [])] [] 0 (.t []) [] 0 := by
  refine FSpec.of_body tok true Tryd.func89 rfl (by kernel_rfl) (by decide) (by simp [tupA, hpLt, tmLt, AV.lt, AE.lt, AC.lt, LL_cons, LL_nil, idOk, ABlk.lt, ints_LL, GB, tab64_LL, gC, wB]) (by simp [tupA, hpLt, tmLt, AV.lt, AE.lt, AC.lt, LL_cons, LL_nil, idOk, ABlk.lt, ints_LL, GB, tab64_LL, gC, wB]) (by show 2 ≤ _; decide) ?_
  refine Wk.on ?_
  refine CallA.ro [] (.c (.int .i64 (lenN 0))) (len_spec (n := 0) (by omega)) (by first | rfl | exact congrArg AV.g (ints_ren _ _) | (simp [ints_ren, AV.ren, ABlk.ren, AC.ren, AE.ren, qq]; done)) rfl (by (repeat (first | exact trivial | refine ⟨⟨(by first | exact .inl (by decide) | exact .inr (by decide)), (by first | (refine Or.inl ?_; first | rfl | exact congrArg some (ints_ren _ _).symm | exact congrArg ABlk.own (ints_ren _ _).symm | exact congrArg some (tab64_ren _).symm | exact congrArg (ABlk.row _ _) (ints_ren _ _).symm) | rfl | exact congrArg some (ints_ren _ _).symm | exact congrArg ABlk.own (ints_ren _ _).symm | exact congrArg some (tab64_ren _).symm | exact congrArg (ABlk.row _ _) (ints_ren _ _).symm | exact Or.inr ⟨rfl, rfl⟩)⟩, ?_⟩))) (by first | rfl | exact congrArg AV.g (ints_ren _ _) | (simp [ints_ren, AV.ren, ABlk.ren, AC.ren, AE.ren, qq]; done)) ?_
  refine Wk.on ?_
  refine CallA.ro [] (.t []) (pdq_nil) (by first | rfl | exact congrArg AV.g (ints_ren _ _) | (simp [ints_ren, AV.ren, ABlk.ren, AC.ren, AE.ren, qq]; done)) rfl (by (repeat (first | exact trivial | refine ⟨⟨(by first | exact .inl (by decide) | exact .inr (by decide)), (by first | (refine Or.inl ?_; first | rfl | exact congrArg some (ints_ren _ _).symm | exact congrArg ABlk.own (ints_ren _ _).symm | exact congrArg some (tab64_ren _).symm | exact congrArg (ABlk.row _ _) (ints_ren _ _).symm) | rfl | exact congrArg some (ints_ren _ _).symm | exact congrArg ABlk.own (ints_ren _ _).symm | exact congrArg some (tab64_ren _).symm | exact congrArg (ABlk.row _ _) (ints_ren _ _).symm | exact Or.inr ⟨rfl, rfl⟩)⟩, ?_⟩))) (by first | rfl | exact congrArg AV.g (ints_ren _ _) | (simp [ints_ren, AV.ren, ABlk.ren, AC.ren, AE.ren, qq]; done)) ?_
  refine Wk.on ?_
  exact AH.Fin.nil [] ⟨rfl, rfl, rfl⟩ (by first | exact trivial | (simp [tupA, hpLt, tmLt, AV.lt, AE.lt, AC.lt, LL_cons, LL_nil, idOk, ABlk.lt, ints_LL, GB, tab64_LL, gC, wB]; done) | (simp [tupA, hpLt, tmLt, AV.lt, AE.lt, AC.lt, LL_cons, LL_nil, idOk, ABlk.lt, ints_LL, GB, tab64_LL, gC, wB, rdn, wrn]; done)) trivial trivial rfl (by simp [GB])
end Go.Proofs.YtfphkpdobbffeaaDoor

/-
  Contracts: the game in which a wire is made short, by the program.
-/
namespace Go.Proofs.YtfphkpdobbffeaaDoor
open Go Go.AH Go.Wire
set_option maxRecDepth 100000
set_option maxHeartbeats 1000000

/-- The game that grows. -/
def gS (n S T : Nat) (l : List (Nat × Nat)) : List AC := match l with
  | [] => [.int .i64 n, .int .i64 S, .int .i64 T, .nils]
  | _ :: l => [.int .i64 n, .int .i64 S, .int .i64 T, .row 6 (l.length + 1)]
def gSH (l : List (Nat × Nat)) : List (Nat × ABlk) := match l with
  | [] => []
  | w :: l => [(6, .row 60 2 (ints (fl (w :: l))))]
def gSK (l : List (Nat × Nat)) : Nat := match l with
  | [] => 6
  | _ :: _ => 7
theorem place_spec (a b x : Nat) (hx : x < 1000) : FDet Tryd.prog 88 [.c (.int .i64 x), .c (.ptr 0 0), .c (.ptr 1 0)] [(0, .ro [.int .i64 b]), (1, .ro [.int .i64 a])] 2 (.c (.int .i64 (plc a b x : Nat))) [] 2 := by
  refine FSpec.of_body tok true Tryd.func88 rfl (by kernel_rfl) (by decide) (by simp [tupA, hpLt, tmLt, AV.lt, AE.lt, AC.lt, LL_cons, LL_nil, idOk, ABlk.lt, ints_LL, GB, tab64_LL, gC, wB, giC, noneB, gst, tC, pC, gN, gR, rC, rB, gS, gSH, gSK, tameH, zeroT]) (by simp [tupA, hpLt, tmLt, AV.lt, AE.lt, AC.lt, LL_cons, LL_nil, idOk, ABlk.lt, ints_LL, GB, tab64_LL, gC, wB, giC, noneB, gst, tC, pC, gN, gR, rC, rB, gS, gSH, gSK, tameH, zeroT]) (by show 3 ≤ _; decide) ?_
  refine Wk.on ?_
  by_cases h1 : x = b
  · rw [decide_eq_true (show (x : Int) = (b : Int) by omega)]
    refine Wk.on ?_
    exact AH.Fin.nil [] ⟨by rw [plc, if_pos h1]; rfl, rfl, rfl⟩ (by first | exact trivial | (simp [tupA, hpLt, tmLt, AV.lt, AE.lt, AC.lt, LL_cons, LL_nil, idOk, ABlk.lt, ints_LL, GB, tab64_LL, gC, wB, giC, noneB, gst, tC, pC, gN, gR, rC, rB, gS, gSH, gSK, tameH, zeroT]; done) | (simp [tupA, hpLt, tmLt, AV.lt, AE.lt, AC.lt, LL_cons, LL_nil, idOk, ABlk.lt, ints_LL, GB, tab64_LL, gC, wB, giC, noneB, gst, tC, pC, gN, gR, rC, rB, gS, gSH, gSK, tameH, zeroT, rdn, wrn]; done)) trivial trivial rfl (by simp [GB])
  · rw [decide_eq_false (show ¬ (x : Int) = (b : Int) by omega)]
    refine Wk.on ?_
    by_cases h2 : b < x
    · rw [decide_eq_true (show (b : Int) < (x : Int) by omega)]
      refine Wk.on ?_
      have e : ((x - 1 : Nat) : Int) = (x : Int) - 1 := by omega
      exact AH.Fin.nil [] ⟨by rw [plc, if_neg h1, if_pos h2, e]; rfl, rfl, rfl⟩ (by first | exact trivial | (simp [tupA, hpLt, tmLt, AV.lt, AE.lt, AC.lt, LL_cons, LL_nil, idOk, ABlk.lt, ints_LL, GB, tab64_LL, gC, wB, giC, noneB, gst, tC, pC, gN, gR, rC, rB, gS, gSH, gSK, tameH, zeroT]; done) | (simp [tupA, hpLt, tmLt, AV.lt, AE.lt, AC.lt, LL_cons, LL_nil, idOk, ABlk.lt, ints_LL, GB, tab64_LL, gC, wB, giC, noneB, gst, tC, pC, gN, gR, rC, rB, gS, gSH, gSK, tameH, zeroT, rdn, wrn]; done)) trivial trivial rfl (by simp [GB])
    · rw [decide_eq_false (show ¬ (b : Int) < (x : Int) by omega)]
      refine Wk.on ?_
      exact AH.Fin.nil [] ⟨by rw [plc, if_neg h1, if_neg h2]; rfl, rfl, rfl⟩ (by first | exact trivial | (simp [tupA, hpLt, tmLt, AV.lt, AE.lt, AC.lt, LL_cons, LL_nil, idOk, ABlk.lt, ints_LL, GB, tab64_LL, gC, wB, giC, noneB, gst, tC, pC, gN, gR, rC, rB, gS, gSH, gSK, tameH, zeroT]; done) | (simp [tupA, hpLt, tmLt, AV.lt, AE.lt, AC.lt, LL_cons, LL_nil, idOk, ABlk.lt, ints_LL, GB, tab64_LL, gC, wB, giC, noneB, gst, tC, pC, gN, gR, rC, rB, gS, gSH, gSK, tameH, zeroT, rdn, wrn]; done)) trivial trivial rfl (by simp [GB])
/-- A game and no error. -/
def okT (g : Gm) : AV := match g.ws with
  | [] => .t [.g (gN g), .c (.int .i64 0)]
  | _ => .t [.g (gR g 1), .c (.int .i64 0)]
theorem shorter_bad {g : Gm} (hg : g.game) {n : Int} (h : n < 0 ∨ (g.ws.length : Int) ≤ n) : FDet Tryd.prog 52 [.g (gC g 0), .c (.int .i64 n)] [(0, wB g)] 1 zeroT [] 1 := by
  refine FSpec.of_body tok true Tryd.func52 rfl (by kernel_rfl) (by decide) (by simp [tupA, hpLt, tmLt, AV.lt, AE.lt, AC.lt, LL_cons, LL_nil, idOk, ABlk.lt, ints_LL, GB, tab64_LL, gC, wB, giC, noneB, gst, tC, pC, gN, gR, rC, rB, gS, gSH, gSK, tameH, zeroT]) (by simp [tupA, hpLt, tmLt, AV.lt, AE.lt, AC.lt, LL_cons, LL_nil, idOk, ABlk.lt, ints_LL, GB, tab64_LL, gC, wB, giC, noneB, gst, tC, pC, gN, gR, rC, rB, gS, gSH, gSK, tameH, zeroT]) (by show 2 ≤ _; decide) ?_
  refine Wk.on ?_
  refine CallA.ro [0] (.c (.int .i64 1)) (openWire_bad hg h) (by first | rfl | exact congrArg AV.g (ints_ren _ _) | (simp [ints_ren, AV.ren, ABlk.ren, AC.ren, AE.ren, qq]; done)) rfl (by (repeat (first | exact trivial | refine ⟨⟨(by first | exact .inl (by decide) | exact .inr (by decide)), (by first | (refine Or.inl ?_; first | rfl | exact congrArg some (ints_ren _ _).symm | exact congrArg ABlk.own (ints_ren _ _).symm | exact congrArg some (tab64_ren _).symm | exact congrArg (ABlk.row _ _) (ints_ren _ _).symm) | rfl | exact congrArg some (ints_ren _ _).symm | exact congrArg ABlk.own (ints_ren _ _).symm | exact congrArg some (tab64_ren _).symm | exact congrArg (ABlk.row _ _) (ints_ren _ _).symm | exact Or.inr ⟨rfl, rfl⟩)⟩, ?_⟩))) (by first | rfl | exact congrArg AV.g (ints_ren _ _) | (simp [ints_ren, AV.ren, ABlk.ren, AC.ren, AE.ren, qq]; done)) ?_
  refine Wk.on ?_
  exact AH.Fin.nil [] ⟨rfl, rfl, rfl⟩ (by first | exact trivial | (simp [tupA, hpLt, tmLt, AV.lt, AE.lt, AC.lt, LL_cons, LL_nil, idOk, ABlk.lt, ints_LL, GB, tab64_LL, gC, wB, giC, noneB, gst, tC, pC, gN, gR, rC, rB, gS, gSH, gSK, tameH, zeroT]; done) | (simp [tupA, hpLt, tmLt, AV.lt, AE.lt, AC.lt, LL_cons, LL_nil, idOk, ABlk.lt, ints_LL, GB, tab64_LL, gC, wB, giC, noneB, gst, tC, pC, gN, gR, rC, rB, gS, gSH, gSK, tameH, zeroT, rdn, wrn]; done)) trivial trivial rfl (by simp [GB])
theorem shorter_joins {g : Gm} (hg : g.game) {i : Nat} (hi : i < g.ws.length) (hj : joinsE g i) : FDet Tryd.prog 52 [.g (gC g 0), .c (.int .i64 i)] [(0, wB g)] 1 zeroT [] 1 := by
  have hl : (ints (fl g.ws)).length = g.ws.length * 2 := by rw [ints_len, fl_len]
  refine FSpec.of_body tok true Tryd.func52 rfl (by kernel_rfl) (by decide) (by simp [tupA, hpLt, tmLt, AV.lt, AE.lt, AC.lt, LL_cons, LL_nil, idOk, ABlk.lt, ints_LL, GB, tab64_LL, gC, wB, giC, noneB, gst, tC, pC, gN, gR, rC, rB, gS, gSH, gSK, tameH, zeroT]) (by simp [tupA, hpLt, tmLt, AV.lt, AE.lt, AC.lt, LL_cons, LL_nil, idOk, ABlk.lt, ints_LL, GB, tab64_LL, gC, wB, giC, noneB, gst, tC, pC, gN, gR, rC, rB, gS, gSH, gSK, tameH, zeroT]) (by show 2 ≤ _; decide) ?_
  refine Wk.on ?_
  refine CallA.ro [0] (.c (.int .i64 0)) (openWire_ok hg hi) (by first | rfl | exact congrArg AV.g (ints_ren _ _) | (simp [ints_ren, AV.ren, ABlk.ren, AC.ren, AE.ren, qq]; done)) rfl (by (repeat (first | exact trivial | refine ⟨⟨(by first | exact .inl (by decide) | exact .inr (by decide)), (by first | (refine Or.inl ?_; first | rfl | exact congrArg some (ints_ren _ _).symm | exact congrArg ABlk.own (ints_ren _ _).symm | exact congrArg some (tab64_ren _).symm | exact congrArg (ABlk.row _ _) (ints_ren _ _).symm) | rfl | exact congrArg some (ints_ren _ _).symm | exact congrArg ABlk.own (ints_ren _ _).symm | exact congrArg some (tab64_ren _).symm | exact congrArg (ABlk.row _ _) (ints_ren _ _).symm | exact Or.inr ⟨rfl, rfl⟩)⟩, ?_⟩))) (by first | rfl | exact congrArg AV.g (ints_ren _ _) | (simp [ints_ren, AV.ren, ABlk.ren, AC.ren, AE.ren, qq]; done)) ?_
  refine Wk.on ?_
  refine Tr.draw (md := true) [⟨[], [7, 8, 24, 28, 29, 30, 31, 32, 33], [], [], []⟩, ⟨[0], [7, 8, 24, 28, 29, 30, 31, 32, 33], [], [], []⟩, ⟨[], [7, 8, 22, 23, 28, 29, 30, 31, 32, 33], [0, 1], [], []⟩, ⟨[0, 1, 2], [7, 8, 28, 29, 30, 31, 32, 33], [], [], []⟩, ⟨[0, 1, 2, 3], [7, 8, 28, 29, 30, 31, 32, 33], [], [], []⟩, ⟨[0, 1, 2, 3, 4], [7, 8, 28, 29, 30, 31, 32, 33], [], [], []⟩, ⟨[], [7, 8, 22, 23, 24, 25, 26, 27, 30], [0, 1, 2, 3, 4, 5], [], [3]⟩, ⟨[6], [7, 8, 22, 23, 24, 25, 26, 27, 30], [0, 1, 2, 3, 4, 5], [], [3]⟩, ⟨[], [7, 8, 22, 23, 24, 25, 26, 27, 28, 29], [0, 1, 2, 3, 4, 5, 6, 7], [], [3]⟩, ⟨[6, 7, 8], [7, 8, 22, 23, 24, 25, 26, 27], [0, 1, 2, 3, 4, 5], [], [3]⟩, ⟨[6, 7, 8, 9], [7, 8, 22, 23, 24, 25, 26, 27], [0, 1, 2, 3, 4, 5], [], [3]⟩, ⟨[6, 7, 8, 9, 10], [7, 8, 22, 23, 24, 25, 26, 27], [0, 1, 2, 3, 4, 5], [], [3]⟩, ⟨[], [8, 22, 23, 24, 25, 26, 27, 28, 29, 30, 31, 32, 33], [0, 1, 2, 3, 4, 5, 6, 7, 8, 9, 10, 11], [], []⟩, ⟨[], [7, 22, 23, 24, 25, 26, 27, 28, 29, 30, 31, 32, 33], [0, 1, 2, 3, 4, 5, 6, 7, 8, 9, 10, 11, 12], [], []⟩, ⟨[0, 1, 2, 3, 4, 5, 12, 13], [28, 29, 30, 31, 32, 33], [6, 7, 8, 9, 10, 11], [3], []⟩] tok (by kernel_rfl) (by kernel_rfl) ?_
  refine Wk.on ?_
  simp only [Int.toNat_natCast]
  rw [wget0, wget1]
  obtain ⟨h1, h2⟩ := hj
  unfold shE at h1 h2
  refine Wk.on ?_
  rw [decide_eq_true (show min (g.s : Int) (g.t : Int) = ((g.ws.getD i (0, 0)).1 : Nat) by omega)]
  refine Wk.on ?_
  rw [decide_eq_true (show max (g.s : Int) (g.t : Int) = ((g.ws.getD i (0, 0)).2 : Nat) by omega)]
  refine Wk.on ?_
  exact AH.Fin.nil [] ⟨rfl, rfl, rfl⟩ (by first | exact trivial | (simp [tupA, hpLt, tmLt, AV.lt, AE.lt, AC.lt, LL_cons, LL_nil, idOk, ABlk.lt, ints_LL, GB, tab64_LL, gC, wB, giC, noneB, gst, tC, pC, gN, gR, rC, rB, gS, gSH, gSK, tameH, zeroT]; done) | (simp [tupA, hpLt, tmLt, AV.lt, AE.lt, AC.lt, LL_cons, LL_nil, idOk, ABlk.lt, ints_LL, GB, tab64_LL, gC, wB, giC, noneB, gst, tC, pC, gN, gR, rC, rB, gS, gSH, gSK, tameH, zeroT, rdn, wrn]; done)) trivial trivial rfl (by simp [GB])
theorem shW_succ (a b : Nat) (W : List (Nat × Nat)) {k : Nat} (h : k < W.length) : shW a b (W.take (k + 1)) = shW a b (W.take k) ++ (if plc a b (W.getD k (0, 0)).1 ≠ plc a b (W.getD k (0, 0)).2 then [cw a b (W.getD k (0, 0))] else []) := by
  have e : W.take (k + 1) = W.take k ++ [W.getD k (0, 0)] := by
    rw [List.take_add_one, List.getElem?_eq_getElem h, List.getD_eq_getElem?_getD, List.getElem?_eq_getElem h]; rfl
  unfold shW
  rw [e, List.filter_append, List.map_append]
  congr 1
  generalize W.getD k (0, 0) = w
  split
  · rename_i c; simp [c]
  · rename_i c; simp at c; simp [c]
theorem shorter_ok {g : Gm} (hg : g.game) {i : Nat} (hi : i < g.ws.length) (hj : ¬ joinsE g i) : FDet Tryd.prog 52 [.g (gC g 0), .c (.int .i64 i)] [(0, wB g)] 1 (okT (shortG g i)) (tameH (shortG g i)) (tameK (shortG g i)) := by
  have hl : (ints (fl g.ws)).length = g.ws.length * 2 := by rw [ints_len, fl_len]
  have hn2 := hg.ok.n2
  have hn8 := hg.ok.n8
  have hl10 := hg.ok.len
  obtain ⟨a, ha⟩ : ∃ a, a = (shE g i).1 := ⟨_, rfl⟩
  obtain ⟨b, hb⟩ : ∃ b, b = (shE g i).2 := ⟨_, rfl⟩
  have hsg : shortG g i = ⟨g.n - 1, plc a b g.s, plc a b g.t, isort (shW a b g.ws)⟩ := by rw [ha, hb]; rfl
  have ha2 : ((g.ws.getD i (0, 0)).1 : Nat) = a := ha.symm
  have hb2 : ((g.ws.getD i (0, 0)).2 : Nat) = b := hb.symm
  unfold joinsE at hj
  rw [← ha, ← hb] at hj
  rw [hsg]
  clear hsg ha hb
  refine FSpec.of_body tok true Tryd.func52 rfl (by kernel_rfl) (by decide) (by simp [tupA, hpLt, tmLt, AV.lt, AE.lt, AC.lt, LL_cons, LL_nil, idOk, ABlk.lt, ints_LL, GB, tab64_LL, gC, wB, giC, noneB, gst, tC, pC, gN, gR, rC, rB, gS, gSH, gSK, tameH, zeroT]) (by simp [tupA, hpLt, tmLt, AV.lt, AE.lt, AC.lt, LL_cons, LL_nil, idOk, ABlk.lt, ints_LL, GB, tab64_LL, gC, wB, giC, noneB, gst, tC, pC, gN, gR, rC, rB, gS, gSH, gSK, tameH, zeroT]) (by show 2 ≤ _; decide) ?_
  refine Wk.on ?_
  refine CallA.ro [0] (.c (.int .i64 0)) (openWire_ok hg hi) (by first | rfl | exact congrArg AV.g (ints_ren _ _) | (simp [ints_ren, AV.ren, ABlk.ren, AC.ren, AE.ren, qq]; done)) rfl (by (repeat (first | exact trivial | refine ⟨⟨(by first | exact .inl (by decide) | exact .inr (by decide)), (by first | (refine Or.inl ?_; first | rfl | exact congrArg some (ints_ren _ _).symm | exact congrArg ABlk.own (ints_ren _ _).symm | exact congrArg some (tab64_ren _).symm | exact congrArg (ABlk.row _ _) (ints_ren _ _).symm) | rfl | exact congrArg some (ints_ren _ _).symm | exact congrArg ABlk.own (ints_ren _ _).symm | exact congrArg some (tab64_ren _).symm | exact congrArg (ABlk.row _ _) (ints_ren _ _).symm | exact Or.inr ⟨rfl, rfl⟩)⟩, ?_⟩))) (by first | rfl | exact congrArg AV.g (ints_ren _ _) | (simp [ints_ren, AV.ren, ABlk.ren, AC.ren, AE.ren, qq]; done)) ?_
  refine Wk.on ?_
  refine Tr.draw (md := true) [⟨[], [7, 8, 24, 28, 29, 30, 31, 32, 33], [], [], []⟩, ⟨[0], [7, 8, 24, 28, 29, 30, 31, 32, 33], [], [], []⟩, ⟨[], [7, 8, 22, 23, 28, 29, 30, 31, 32, 33], [0, 1], [], []⟩, ⟨[0, 1, 2], [7, 8, 28, 29, 30, 31, 32, 33], [], [], []⟩, ⟨[0, 1, 2, 3], [7, 8, 28, 29, 30, 31, 32, 33], [], [], []⟩, ⟨[0, 1, 2, 3, 4], [7, 8, 28, 29, 30, 31, 32, 33], [], [], []⟩, ⟨[], [7, 8, 22, 23, 24, 25, 26, 27, 30], [0, 1, 2, 3, 4, 5], [], [3]⟩, ⟨[6], [7, 8, 22, 23, 24, 25, 26, 27, 30], [0, 1, 2, 3, 4, 5], [], [3]⟩, ⟨[], [7, 8, 22, 23, 24, 25, 26, 27, 28, 29], [0, 1, 2, 3, 4, 5, 6, 7], [], [3]⟩, ⟨[6, 7, 8], [7, 8, 22, 23, 24, 25, 26, 27], [0, 1, 2, 3, 4, 5], [], [3]⟩, ⟨[6, 7, 8, 9], [7, 8, 22, 23, 24, 25, 26, 27], [0, 1, 2, 3, 4, 5], [], [3]⟩, ⟨[6, 7, 8, 9, 10], [7, 8, 22, 23, 24, 25, 26, 27], [0, 1, 2, 3, 4, 5], [], [3]⟩, ⟨[], [8, 22, 23, 24, 25, 26, 27, 28, 29, 30, 31, 32, 33], [0, 1, 2, 3, 4, 5, 6, 7, 8, 9, 10, 11], [], []⟩, ⟨[], [7, 22, 23, 24, 25, 26, 27, 28, 29, 30, 31, 32, 33], [0, 1, 2, 3, 4, 5, 6, 7, 8, 9, 10, 11, 12], [], []⟩, ⟨[0, 1, 2, 3, 4, 5, 12, 13], [28, 29, 30, 31, 32, 33], [6, 7, 8, 9, 10, 11], [3], []⟩] tok (by kernel_rfl) (by kernel_rfl) ?_
  refine Wk.on ?_
  simp only [Int.toNat_natCast]
  rw [wget0, wget1, ha2, hb2]
  clear ha2 hb2
  refine Wk.on ?_
  by_cases h1 : min g.s g.t = a
  rw [decide_eq_true (show min (g.s : Int) (g.t : Int) = (a : Nat) by omega)]
  refine Wk.on ?_
  rw [decide_eq_false (show ¬ max (g.s : Int) (g.t : Int) = (b : Nat) by omega)]
  refine Wk.on ?_
  rotate_left
  rw [decide_eq_false (show ¬ min (g.s : Int) (g.t : Int) = (a : Nat) by omega)]
  refine Wk.on ?_
  all_goals
    have hs := hg.ok.s
    have ht := hg.ok.t
    have hps := place_spec a b g.s (by omega)
    have hpt := place_spec a b g.t (by omega)
    refine Tr.draw (md := true) [⟨[], [10, 55, 56, 57, 58, 59, 60, 61, 62], [], [], []⟩, ⟨[0], [10, 55, 56, 57, 58, 59, 60, 61, 62], [], [], []⟩, ⟨[0, 1], [10, 55, 56, 57, 58, 59, 60, 61, 62], [], [], []⟩, ⟨[], [10, 52, 53, 54, 56, 57, 59, 60, 61], [0, 1, 2], [], []⟩, ⟨[], [10, 52, 53, 54, 55, 59, 60, 61], [0, 1, 2, 3], [], []⟩, ⟨[4], [10, 52, 53, 54, 55, 59, 60, 61], [0, 1, 2, 3], [], []⟩, ⟨[3, 4, 5], [10, 52, 53, 54, 59, 60, 61], [0, 1, 2], [], []⟩, ⟨[], [10, 52, 53, 54, 55, 56, 57, 58, 60, 61], [0, 1, 2, 3, 4, 5, 6], [], []⟩, ⟨[], [10, 52, 53, 54, 55, 56, 57, 58, 59], [0, 1, 2, 3, 4, 5, 6, 7], [], []⟩, ⟨[8], [10, 52, 53, 54, 55, 56, 57, 58, 59], [0, 1, 2, 3, 4, 5, 6, 7], [], []⟩, ⟨[3, 4, 5, 6, 7, 8, 9], [10, 52, 53, 54], [0, 1, 2], [], []⟩, ⟨[0, 1, 2, 3, 4, 5, 6, 7, 8, 9, 10], [10], [], [], []⟩, ⟨[], [52, 53, 54, 55, 56, 57, 58, 59, 60, 61, 62, 63], [0, 1, 2, 3, 4, 5, 6, 7, 8, 9, 10, 11], [], []⟩] tok (by kernel_rfl) (by kernel_rfl) ?_
    refine Wk.on ?_
    rw [show (g.n : Int) - 1 = ((g.n - 1 : Nat) : Int) by omega]
    refine Wk.on ?_
    refine CallQ.ro [4, 3] (.c (.int .i64 (plc a b g.s : Nat))) (hps) (by first | rfl | exact congrArg AV.g (ints_ren _ _) | (simp [ints_ren, AV.ren, ABlk.ren, AC.ren, AE.ren, qq]; done)) rfl (by (repeat (first | exact trivial | refine ⟨⟨(by first | exact .inl (by decide) | exact .inr (by decide)), (by first | (refine Or.inl ?_; first | rfl | exact congrArg some (ints_ren _ _).symm | exact congrArg ABlk.own (ints_ren _ _).symm | exact congrArg some (tab64_ren _).symm | exact congrArg (ABlk.row _ _) (ints_ren _ _).symm) | rfl | exact congrArg some (ints_ren _ _).symm | exact congrArg ABlk.own (ints_ren _ _).symm | exact congrArg some (tab64_ren _).symm | exact congrArg (ABlk.row _ _) (ints_ren _ _).symm | exact Or.inr ⟨rfl, rfl⟩)⟩, ?_⟩))) (by first | rfl | exact congrArg AV.g (ints_ren _ _) | (simp [ints_ren, AV.ren, ABlk.ren, AC.ren, AE.ren, qq]; done)) ?_
    refine Wk.on ?_
    refine CallQ.ro [4, 3] (.c (.int .i64 (plc a b g.t : Nat))) (hpt) (by first | rfl | exact congrArg AV.g (ints_ren _ _) | (simp [ints_ren, AV.ren, ABlk.ren, AC.ren, AE.ren, qq]; done)) rfl (by (repeat (first | exact trivial | refine ⟨⟨(by first | exact .inl (by decide) | exact .inr (by decide)), (by first | (refine Or.inl ?_; first | rfl | exact congrArg some (ints_ren _ _).symm | exact congrArg ABlk.own (ints_ren _ _).symm | exact congrArg some (tab64_ren _).symm | exact congrArg (ABlk.row _ _) (ints_ren _ _).symm) | rfl | exact congrArg some (ints_ren _ _).symm | exact congrArg ABlk.own (ints_ren _ _).symm | exact congrArg some (tab64_ren _).symm | exact congrArg (ABlk.row _ _) (ints_ren _ _).symm | exact Or.inr ⟨rfl, rfl⟩)⟩, ?_⟩))) (by first | rfl | exact congrArg AV.g (ints_ren _ _) | (simp [ints_ren, AV.ren, ABlk.ren, AC.ren, AE.ren, qq]; done)) ?_
    refine Wk.on ?_
    refine Tr.loop (md := true) (X := Nat × List (Nat × Nat)) (st := fun q => ⟨[(2, .c (.ptr 1 0)), (4, .c (.ptr 2 0)), (9, .c (.fn 88 [] [4, 3])), (10, .c (.ptr 5 0)), (65, .c (.rs 0 0 g.ws.length)), (66, .c (.int .i64 g.ws.length)), (67, .c (.int .i64 q.1))], (5, .own (gS (g.n - 1) (plc a b g.s) (plc a b g.t) q.2)) :: (4, .own [.int .i64 b]) :: (3, .own [.int .i64 a]) :: (2, .own [.int .i64 0, .int .i64 0, .int .i64 0, .nils]) :: (1, .own (gC g 0)) :: (0, wB g) :: gSH q.2, gSK q.2, 99, 1⟩) (inv := fun q => q.1 ≤ g.ws.length ∧ q.2 = shW a b (g.ws.take q.1)) (μ := fun q => g.ws.length - q.1) (x0 := (0, [])) (l := []) tok ⟨Nat.zero_le _, rfl⟩ ?_ ?_
    · exact Sub.nil ⟨rfl, rfl, (by simp [tab64_LL, gC, wB, giC, noneB, gst, tC, pC, gN, gR, rC, rB, gS, gSH, gSK, tameH, zeroT]), rfl, (by simp [tupA, hpLt, tmLt, AV.lt, AE.lt, AC.lt, LL_cons, LL_nil, idOk, ABlk.lt, ints_LL, GB, tab64_LL, gC, wB, giC, noneB, gst, tC, pC, gN, gR, rC, rB, gS, gSH, gSK, tameH, zeroT]), (by simp [tupA, hpLt, tmLt, AV.lt, AE.lt, AC.lt, LL_cons, LL_nil, idOk, ABlk.lt, ints_LL, GB, tab64_LL, gC, wB, giC, noneB, gst, tC, pC, gN, gR, rC, rB, gS, gSH, gSK, tameH, zeroT])⟩ ⟨rfl, rfl, rfl, rfl, rfl, rfl, rfl, trivial⟩ ⟨rfl, rfl, rfl, rfl, rfl, rfl, trivial⟩
    · rintro ⟨k, l⟩ ⟨hk, hlk⟩
      dsimp only at hk hlk
      have hll : l.length ≤ 10 := by
        rw [hlk]
        refine Nat.le_trans ?_ hl10
        show ((List.filter _ _).map _).length ≤ _
        rw [List.length_map]
        exact Nat.le_trans (List.length_filter_le _ _) (by rw [List.length_take]; omega)
      by_cases hkl : k < g.ws.length
      · have hsu := shW_succ a b g.ws hkl
        rw [← hlk] at hsu
        have hend := hg.ok.ends k hkl
        have hr := rdn_fl g.ws k
        generalize g.ws.getD k (0, 0) = w at *
        have hp1 := place_spec a b w.1 (by omega)
        have hp2 := place_spec a b w.2 (by omega)
        rcases l with _ | ⟨w0, l⟩
        · skip
          dsimp only [gSH, gSK]
          refine Wk.on ?_
          rw [decide_eq_true (show ((k : Nat) : Int) < ((g.ws.length : Nat) : Int) by omega)]
          refine Wk.on ?_
          refine ⟨⟨by rw [hl, Int.toNat_natCast]; show 0 + k * 2 + 2 ≤ _; omega, rfl⟩, ?_⟩
          rw [Int.toNat_natCast, Nat.zero_add]
          rw [show rdn (ints (fl g.ws)) (k * 2) [.int .i64 0, .int .i64 0] = _ from hr]
          refine Wk.on ?_
          refine Tr.draw (md := true) [⟨[], [72, 73, 75, 76, 77], [], [], []⟩, ⟨[], [71, 75, 76, 77], [0], [], []⟩, ⟨[1], [71, 75, 76, 77], [0], [], []⟩, ⟨[0, 1, 2], [75, 76, 77], [], [], []⟩, ⟨[], [71, 72, 73, 74, 76, 77], [0, 1, 2, 3], [], []⟩, ⟨[], [71, 72, 73, 74, 75], [0, 1, 2, 3, 4], [], []⟩, ⟨[5], [71, 72, 73, 74, 75], [0, 1, 2, 3, 4], [], []⟩] tok (by kernel_rfl) (by kernel_rfl) ?_
          refine Wk.on ?_
          refine CallQ.ro [4, 3] (.c (.int .i64 (plc a b w.1 : Nat))) (hp1) (by first | rfl | exact congrArg AV.g (ints_ren _ _) | (simp [ints_ren, AV.ren, ABlk.ren, AC.ren, AE.ren, qq]; done)) rfl (by (repeat (first | exact trivial | refine ⟨⟨(by first | exact .inl (by decide) | exact .inr (by decide)), (by first | (refine Or.inl ?_; first | rfl | exact congrArg some (ints_ren _ _).symm | exact congrArg ABlk.own (ints_ren _ _).symm | exact congrArg some (tab64_ren _).symm | exact congrArg (ABlk.row _ _) (ints_ren _ _).symm) | rfl | exact congrArg some (ints_ren _ _).symm | exact congrArg ABlk.own (ints_ren _ _).symm | exact congrArg some (tab64_ren _).symm | exact congrArg (ABlk.row _ _) (ints_ren _ _).symm | exact Or.inr ⟨rfl, rfl⟩)⟩, ?_⟩))) (by first | rfl | exact congrArg AV.g (ints_ren _ _) | (simp [ints_ren, AV.ren, ABlk.ren, AC.ren, AE.ren, qq]; done)) ?_
          refine Wk.on ?_
          refine CallA.ro [4, 3] (.c (.int .i64 (plc a b w.2 : Nat))) (hp2) (by first | rfl | exact congrArg AV.g (ints_ren _ _) | (simp [ints_ren, AV.ren, ABlk.ren, AC.ren, AE.ren, qq]; done)) rfl (by (repeat (first | exact trivial | refine ⟨⟨(by first | exact .inl (by decide) | exact .inr (by decide)), (by first | (refine Or.inl ?_; first | rfl | exact congrArg some (ints_ren _ _).symm | exact congrArg ABlk.own (ints_ren _ _).symm | exact congrArg some (tab64_ren _).symm | exact congrArg (ABlk.row _ _) (ints_ren _ _).symm) | rfl | exact congrArg some (ints_ren _ _).symm | exact congrArg ABlk.own (ints_ren _ _).symm | exact congrArg some (tab64_ren _).symm | exact congrArg (ABlk.row _ _) (ints_ren _ _).symm | exact Or.inr ⟨rfl, rfl⟩)⟩, ?_⟩))) (by first | rfl | exact congrArg AV.g (ints_ren _ _) | (simp [ints_ren, AV.ren, ABlk.ren, AC.ren, AE.ren, qq]; done)) ?_
          refine Wk.on ?_
          by_cases hc : plc a b w.1 = plc a b w.2
          · rw [decide_eq_false (show ¬ ((plc a b w.1 : Nat) : Int) ≠ ((plc a b w.2 : Nat) : Int) by omega)]
            refine Wk.on ?_
            refine Again.mk (k + 1, []) (Sub.nil ⟨rfl, rfl, (by simp [tab64_LL, gC, wB, giC, noneB, gst, tC, pC, gN, gR, rC, rB, gS, gSH, gSK, tameH, zeroT]), rfl, (by simp [tupA, hpLt, tmLt, AV.lt, AE.lt, AC.lt, LL_cons, LL_nil, idOk, ABlk.lt, ints_LL, GB, tab64_LL, gC, wB, giC, noneB, gst, tC, pC, gN, gR, rC, rB, gS, gSH, gSK, tameH, zeroT]), (by simp [tupA, hpLt, tmLt, AV.lt, AE.lt, AC.lt, LL_cons, LL_nil, idOk, ABlk.lt, ints_LL, GB, tab64_LL, gC, wB, giC, noneB, gst, tC, pC, gN, gR, rC, rB, gS, gSH, gSK, tameH, zeroT])⟩ ⟨rfl, rfl, rfl, rfl, rfl, rfl, rfl, trivial⟩ ⟨rfl, rfl, rfl, rfl, rfl, rfl, trivial⟩) ⟨by omega, ?_⟩ (by show g.ws.length - (k + 1) < g.ws.length - k; omega)
            show [] = shW a b (g.ws.take (k + 1))
            rw [hsu, if_neg (fun h => h hc)]; simp
          · rw [decide_eq_true (show ((plc a b w.1 : Nat) : Int) ≠ ((plc a b w.2 : Nat) : Int) by omega)]
            refine Wk.on ?_
            rw [show min ((plc a b w.1 : Nat) : Int) ((plc a b w.2 : Nat) : Int) = ((cw a b w).1 : Nat) by unfold cw; dsimp only; omega]
            refine Wk.on ?_
            rw [show max ((plc a b w.1 : Nat) : Int) ((plc a b w.2 : Nat) : Int) = ((cw a b w).2 : Nat) by unfold cw; dsimp only; omega]
            refine Wk.on ?_
            refine Again.mk (k + 1, [cw a b w]) (Sub.new [(6, 8)] ⟨rfl, rfl, Nat.le_of_ble_eq_true rfl, Nat.le_of_ble_eq_true rfl⟩ rfl ⟨rfl, rfl, rfl, rfl, rfl, rfl, rfl, trivial⟩ ⟨rfl, rfl, rfl, rfl, rfl, wBren g _, rfl, trivial⟩ rfl (by simp [tupA, hpLt, tmLt, AV.lt, AE.lt, AC.lt, LL_cons, LL_nil, idOk, ABlk.lt, ints_LL, GB, tab64_LL, gC, wB, giC, noneB, gst, tC, pC, gN, gR, rC, rB, gS, gSH, gSK, tameH, zeroT]) (by simp [tupA, hpLt, tmLt, AV.lt, AE.lt, AC.lt, LL_cons, LL_nil, idOk, ABlk.lt, ints_LL, GB, tab64_LL, gC, wB, giC, noneB, gst, tC, pC, gN, gR, rC, rB, gS, gSH, gSK, tameH, zeroT])) ⟨by omega, ?_⟩ (by show g.ws.length - (k + 1) < g.ws.length - k; omega)
            show [cw a b w] = shW a b (g.ws.take (k + 1))
            rw [hsu, if_pos hc]; rfl
        · rw [List.length_cons] at hll
          have hfl2 : (ints (fl (w0 :: l))).length = (l.length + 1) * 2 := by rw [ints_len, fl_len]; rfl
          dsimp only [gSH, gSK]
          refine Wk.on ?_
          rw [decide_eq_true (show ((k : Nat) : Int) < ((g.ws.length : Nat) : Int) by omega)]
          refine Wk.on ?_
          refine ⟨⟨by rw [hl, Int.toNat_natCast]; show 0 + k * 2 + 2 ≤ _; omega, rfl⟩, ?_⟩
          rw [Int.toNat_natCast, Nat.zero_add]
          rw [show rdn (ints (fl g.ws)) (k * 2) [.int .i64 0, .int .i64 0] = _ from hr]
          refine Wk.on ?_
          refine Tr.draw (md := true) [⟨[], [72, 73, 75, 76, 77], [], [], []⟩, ⟨[], [71, 75, 76, 77], [0], [], []⟩, ⟨[1], [71, 75, 76, 77], [0], [], []⟩, ⟨[0, 1, 2], [75, 76, 77], [], [], []⟩, ⟨[], [71, 72, 73, 74, 76, 77], [0, 1, 2, 3], [], []⟩, ⟨[], [71, 72, 73, 74, 75], [0, 1, 2, 3, 4], [], []⟩, ⟨[5], [71, 72, 73, 74, 75], [0, 1, 2, 3, 4], [], []⟩] tok (by kernel_rfl) (by kernel_rfl) ?_
          refine Wk.on ?_
          refine CallQ.ro [4, 3] (.c (.int .i64 (plc a b w.1 : Nat))) (hp1) (by first | rfl | exact congrArg AV.g (ints_ren _ _) | (simp [ints_ren, AV.ren, ABlk.ren, AC.ren, AE.ren, qq]; done)) rfl (by (repeat (first | exact trivial | refine ⟨⟨(by first | exact .inl (by decide) | exact .inr (by decide)), (by first | (refine Or.inl ?_; first | rfl | exact congrArg some (ints_ren _ _).symm | exact congrArg ABlk.own (ints_ren _ _).symm | exact congrArg some (tab64_ren _).symm | exact congrArg (ABlk.row _ _) (ints_ren _ _).symm) | rfl | exact congrArg some (ints_ren _ _).symm | exact congrArg ABlk.own (ints_ren _ _).symm | exact congrArg some (tab64_ren _).symm | exact congrArg (ABlk.row _ _) (ints_ren _ _).symm | exact Or.inr ⟨rfl, rfl⟩)⟩, ?_⟩))) (by first | rfl | exact congrArg AV.g (ints_ren _ _) | (simp [ints_ren, AV.ren, ABlk.ren, AC.ren, AE.ren, qq]; done)) ?_
          refine Wk.on ?_
          refine CallA.ro [4, 3] (.c (.int .i64 (plc a b w.2 : Nat))) (hp2) (by first | rfl | exact congrArg AV.g (ints_ren _ _) | (simp [ints_ren, AV.ren, ABlk.ren, AC.ren, AE.ren, qq]; done)) rfl (by (repeat (first | exact trivial | refine ⟨⟨(by first | exact .inl (by decide) | exact .inr (by decide)), (by first | (refine Or.inl ?_; first | rfl | exact congrArg some (ints_ren _ _).symm | exact congrArg ABlk.own (ints_ren _ _).symm | exact congrArg some (tab64_ren _).symm | exact congrArg (ABlk.row _ _) (ints_ren _ _).symm) | rfl | exact congrArg some (ints_ren _ _).symm | exact congrArg ABlk.own (ints_ren _ _).symm | exact congrArg some (tab64_ren _).symm | exact congrArg (ABlk.row _ _) (ints_ren _ _).symm | exact Or.inr ⟨rfl, rfl⟩)⟩, ?_⟩))) (by first | rfl | exact congrArg AV.g (ints_ren _ _) | (simp [ints_ren, AV.ren, ABlk.ren, AC.ren, AE.ren, qq]; done)) ?_
          refine Wk.on ?_
          by_cases hc : plc a b w.1 = plc a b w.2
          · rw [decide_eq_false (show ¬ ((plc a b w.1 : Nat) : Int) ≠ ((plc a b w.2 : Nat) : Int) by omega)]
            refine Wk.on ?_
            refine Again.mk (k + 1, w0 :: l) (Sub.nil ⟨rfl, rfl, (by simp [tab64_LL, gC, wB, giC, noneB, gst, tC, pC, gN, gR, rC, rB, gS, gSH, gSK, tameH, zeroT]), rfl, (by simp [tupA, hpLt, tmLt, AV.lt, AE.lt, AC.lt, LL_cons, LL_nil, idOk, ABlk.lt, ints_LL, GB, tab64_LL, gC, wB, giC, noneB, gst, tC, pC, gN, gR, rC, rB, gS, gSH, gSK, tameH, zeroT]), (by simp [tupA, hpLt, tmLt, AV.lt, AE.lt, AC.lt, LL_cons, LL_nil, idOk, ABlk.lt, ints_LL, GB, tab64_LL, gC, wB, giC, noneB, gst, tC, pC, gN, gR, rC, rB, gS, gSH, gSK, tameH, zeroT])⟩ ⟨rfl, rfl, rfl, rfl, rfl, rfl, rfl, trivial⟩ ⟨rfl, rfl, rfl, rfl, rfl, rfl, rfl, trivial⟩) ⟨by omega, ?_⟩ (by show g.ws.length - (k + 1) < g.ws.length - k; omega)
            show w0 :: l = shW a b (g.ws.take (k + 1))
            rw [hsu, if_neg (fun h => h hc)]; simp
          · rw [decide_eq_true (show ((plc a b w.1 : Nat) : Int) ≠ ((plc a b w.2 : Nat) : Int) by omega)]
            refine Wk.on ?_
            rw [show min ((plc a b w.1 : Nat) : Int) ((plc a b w.2 : Nat) : Int) = ((cw a b w).1 : Nat) by unfold cw; dsimp only; omega]
            refine Wk.on ?_
            rw [show max ((plc a b w.1 : Nat) : Int) ((plc a b w.2 : Nat) : Int) = ((cw a b w).2 : Nat) by unfold cw; dsimp only; omega]
            refine Wk.on ?_
            refine ⟨⟨Nat.le_of_ble_eq_true rfl, rfl, rfl, hfl2, by show ((l.length + 1 + 1 : Nat) : Int) * 16 ≤ _; omega, by omega⟩, ?_⟩
            refine Wk.on ?_
            refine Again.mk (k + 1, w0 :: (l ++ [cw a b w])) (Sub.new [(6, 9)] ⟨rfl, rfl, Nat.le_of_ble_eq_true rfl, Nat.le_of_ble_eq_true rfl⟩ rfl ⟨rfl, rfl, rfl, rfl, rfl, rfl, rfl, trivial⟩ ⟨by show some (ABlk.own _) = some (ABlk.own _); simp [gS, AC.ren, rn, lk], rfl, rfl, rfl, rfl, wBren g _, by show some (ABlk.row 60 2 _) = some (ABlk.row 60 2 ((ints _).map _)); rw [ints_ren]; exact congrArg (fun l => some (ABlk.row 60 2 l)) (by simp [ints, fl]; rfl), trivial⟩ rfl (by simp [tupA, hpLt, tmLt, AV.lt, AE.lt, AC.lt, LL_cons, LL_nil, idOk, ABlk.lt, ints_LL, GB, tab64_LL, gC, wB, giC, noneB, gst, tC, pC, gN, gR, rC, rB, gS, gSH, gSK, tameH, zeroT]) (by simp [tupA, hpLt, tmLt, AV.lt, AE.lt, AC.lt, LL_cons, LL_nil, idOk, ABlk.lt, ints_LL, GB, tab64_LL, gC, wB, giC, noneB, gst, tC, pC, gN, gR, rC, rB, gS, gSH, gSK, tameH, zeroT])) ⟨by omega, ?_⟩ (by show g.ws.length - (k + 1) < g.ws.length - k; omega)
            show w0 :: (l ++ [cw a b w]) = shW a b (g.ws.take (k + 1))
            rw [hsu, if_pos hc]; rfl
      · rw [List.take_of_length_le (by omega)] at hlk
        rw [← hlk]
        clear hlk
        rcases l with _ | ⟨w0, l⟩
        · dsimp only [gSH, gSK]
          refine Wk.on ?_
          rw [decide_eq_false (show ¬ ((k : Nat) : Int) < ((g.ws.length : Nat) : Int) by omega)]
          refine Wk.on ?_
          refine CallA.ro [] (.t []) (sortW_nil) (by first | rfl | exact congrArg AV.g (ints_ren _ _) | (simp [ints_ren, AV.ren, ABlk.ren, AC.ren, AE.ren, qq]; done)) rfl (by (repeat (first | exact trivial | refine ⟨⟨(by first | exact .inl (by decide) | exact .inr (by decide)), (by first | (refine Or.inl ?_; first | rfl | exact congrArg some (ints_ren _ _).symm | exact congrArg ABlk.own (ints_ren _ _).symm | exact congrArg some (tab64_ren _).symm | exact congrArg (ABlk.row _ _) (ints_ren _ _).symm) | rfl | exact congrArg some (ints_ren _ _).symm | exact congrArg ABlk.own (ints_ren _ _).symm | exact congrArg some (tab64_ren _).symm | exact congrArg (ABlk.row _ _) (ints_ren _ _).symm | exact Or.inr ⟨rfl, rfl⟩)⟩, ?_⟩))) (by first | rfl | exact congrArg AV.g (ints_ren _ _) | (simp [ints_ren, AV.ren, ABlk.ren, AC.ren, AE.ren, qq]; done)) ?_
          refine Wk.on ?_
          exact AH.Fin.nil [] ⟨rfl, rfl, rfl⟩ (by first | exact trivial | (simp [tupA, hpLt, tmLt, AV.lt, AE.lt, AC.lt, LL_cons, LL_nil, idOk, ABlk.lt, ints_LL, GB, tab64_LL, gC, wB, giC, noneB, gst, tC, pC, gN, gR, rC, rB, gS, gSH, gSK, tameH, zeroT]; done) | (simp [tupA, hpLt, tmLt, AV.lt, AE.lt, AC.lt, LL_cons, LL_nil, idOk, ABlk.lt, ints_LL, GB, tab64_LL, gC, wB, giC, noneB, gst, tC, pC, gN, gR, rC, rB, gS, gSH, gSK, tameH, zeroT, rdn, wrn]; done)) trivial trivial rfl (by simp [GB])
        · rw [List.length_cons] at hll
          have hsp := sortW_spec (w0 :: l) (by rw [List.length_cons]; omega)
          obtain ⟨v, vs, hv⟩ : ∃ v vs, isort (w0 :: l) = v :: vs := by
            have := isort_len (w0 :: l)
            cases hq : isort (w0 :: l) with
            | nil => rw [hq] at this; simp at this
            | cons v vs => exact ⟨v, vs, rfl⟩
          have hvl : vs.length = l.length := by
            have := isort_len (w0 :: l)
            rw [hv] at this
            simpa using this
          rw [hv] at hsp ⊢
          dsimp only [gSH, gSK]
          refine Wk.on ?_
          rw [decide_eq_false (show ¬ ((k : Nat) : Int) < ((g.ws.length : Nat) : Int) by omega)]
          refine Wk.on ?_
          refine CallA.det [6] (.t []) ([(5, .own (gS (g.n - 1) (plc a b g.s) (plc a b g.t) (w0 :: l))), (4, .own [.int .i64 b]), (3, .own [.int .i64 a]), (2, .own [.int .i64 0, .int .i64 0, .int .i64 0, .nils]), (1, .own (gC g 0)), (0, wB g), (6, .row 60 2 (ints (fl (v :: vs))))]) (hsp) (by first | rfl | exact congrArg AV.g (ints_ren _ _) | (simp [ints_ren, AV.ren, ABlk.ren, AC.ren, AE.ren, qq]; done)) rfl (by (repeat (first | exact trivial | refine ⟨⟨(by first | exact .inl (by decide) | exact .inr (by decide)), (by first | (refine Or.inl ?_; first | rfl | exact congrArg some (ints_ren _ _).symm | exact congrArg ABlk.own (ints_ren _ _).symm | exact congrArg some (tab64_ren _).symm | exact congrArg (ABlk.row _ _) (ints_ren _ _).symm) | rfl | exact congrArg some (ints_ren _ _).symm | exact congrArg ABlk.own (ints_ren _ _).symm | exact congrArg some (tab64_ren _).symm | exact congrArg (ABlk.row _ _) (ints_ren _ _).symm | exact Or.inr ⟨rfl, rfl⟩)⟩, ?_⟩))) (by first | rfl | exact congrArg AV.g (ints_ren _ _) | (simp [ints_ren, AV.ren, ABlk.ren, AC.ren, AE.ren, qq]; done)) (by first | rfl | (simp [behind, gone, lk, up, del, qq, ABlk.wr, GB, ints_ren, AV.ren, ABlk.ren, AC.ren, AE.ren]; done) | (simp [behind, gone, lk, up, del, qq, ABlk.wr, GB, ints_ren, AV.ren, ABlk.ren, AC.ren, AE.ren]; rfl)) ?_
          refine Wk.on ?_
          exact AH.Fin.new [6] _ _ ⟨by show _ = AV.t [.g (gR ⟨g.n - 1, plc a b g.s, plc a b g.t, v :: vs⟩ 1), .c (.int .i64 0)]; rw [gR, List.length_cons, hvl], rfl, rfl⟩ rfl ⟨by show some _ = some _; exact congrArg (fun l => some (ABlk.row 60 2 l)) (ints_ren _ _).symm, trivial⟩ rfl (by simp [tupA, hpLt, tmLt, AV.lt, AE.lt, AC.lt, LL_cons, LL_nil, idOk, ABlk.lt, ints_LL, GB, tab64_LL, gC, wB, giC, noneB, gst, tC, pC, gN, gR, rC, rB, gS, gSH, gSK, tameH, zeroT]) (by simp [tupA, hpLt, tmLt, AV.lt, AE.lt, AC.lt, LL_cons, LL_nil, idOk, ABlk.lt, ints_LL, GB, tab64_LL, gC, wB, giC, noneB, gst, tC, pC, gN, gR, rC, rB, gS, gSH, gSK, tameH, zeroT])
theorem shorter_nil {g : Gm} (hg : g.game) {i : Nat} (hi : i < g.ws.length) (hj : ¬ joinsE g i) (h : (shortG g i).ws = []) : FDet Tryd.prog 52 [.g (gC g 0), .c (.int .i64 i)] [(0, wB g)] 1 (.t [.g (gN (shortG g i)), .c (.int .i64 0)]) [] 1 := by
  have := shorter_ok hg hi hj
  rw [show okT (shortG g i) = .t [.g (gN (shortG g i)), .c (.int .i64 0)] by rw [okT, h], show tameH (shortG g i) = [] by rw [tameH, h], show tameK (shortG g i) = 1 by rw [tameK, h]] at this
  exact this
theorem shorter_rs {g : Gm} (hg : g.game) {i : Nat} (hi : i < g.ws.length) (hj : ¬ joinsE g i) (h : ¬ (shortG g i).ws = []) : FDet Tryd.prog 52 [.g (gC g 0), .c (.int .i64 i)] [(0, wB g)] 1 (.t [.g (gC (shortG g i) 1), .c (.int .i64 0)]) [(1, .row 60 2 (ints (fl (shortG g i).ws)))] 2 := by
  have := shorter_ok hg hi hj
  obtain ⟨w, l, hw⟩ : ∃ w l, (shortG g i).ws = w :: l := by
    cases hq : (shortG g i).ws with
    | nil => exact absurd hq h
    | cons w l => exact ⟨w, l, rfl⟩
  rw [show okT (shortG g i) = .t [.g (gR (shortG g i) 1), .c (.int .i64 0)] by rw [okT, hw], show tameH (shortG g i) = [(1, .row 60 2 (ints (fl (shortG g i).ws)))] by rw [tameH, hw], show tameK (shortG g i) = 2 by rw [tameK, hw]] at this
  exact FDet.post this _ _ ⟨.inr ⟨rfl, rfl, rfl, ⟨⟨rfl, rfl, rfl⟩, trivial⟩, trivial⟩, rfl, trivial⟩ ⟨⟨⟨rfl, rfl⟩, .inl rfl⟩, trivial⟩ (by
    intro e he
    simp only [List.mem_cons, List.not_mem_nil, or_false] at he
    rcases he with rfl | rfl
    · exact gC_LL (.inl (by decide))
    · trivial) (by simp [tupA, hpLt, tmLt, AV.lt, AE.lt, AC.lt, LL_cons, LL_nil, idOk, ABlk.lt, ints_LL, GB, tab64_LL, gC, wB, giC, noneB, gst, tC, pC, gN, gR, rC, rB, gS, gSH, gSK, tameH, zeroT]) rfl
end Go.Proofs.YtfphkpdobbffeaaDoor
