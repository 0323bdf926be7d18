/-
  Abstract states over the model: a small memory whose blocks bear literal numbers, and what it means that a world and an activation fit one. (One library for all seats of this repo; nothing of the program in it.)
-/
import Derived.WalkKit
import Derived.RangeFuncNested
import Derived.OrdersIn
set_option linter.unusedSimpArgs false
set_option linter.unusedVariables false
namespace Go.AH
open Go.RowKit

/-- One cell. -/
inductive AC where
  | int (k : IntKind) (n : Int)
  | bool (b : Bool)
  | str (s : ByteArray)
  | ptr (id off : Nat)
  | nilp
  | sl (id off len : Nat) (cap : Option Nat)
  | row (id len : Nat)
  | nils
  | map (id : Nat)
  | fn (f : FuncId) (first cap : List Nat)
  | nilfn
  | rs (id off len : Nat)
  | nilm

/-- A part of a tuple. -/
inductive AE where
  | c (x : AC)
  | g (cs : List AC)

inductive AV where
  | c (x : AC)
  | g (cs : List AC)
  | t (es : List AE)

def AE.v : AE → AV
  | .c x => .c x
  | .g cs => .g cs

/-- A block. ro: read, never written; its known cells begin at the view's place. own: whole, writable. row: what append made: the first cells. mp: a map. -/
inductive ABlk where
  | ro (cs : List AC)
  | own (cs : List AC)
  | row (e esz : Nat) (cs : List AC)
  | mp (m : List (List AC × AC))
  | mi (I : List (List AC × AC) → Prop)

/-- A number, a bool, a string: no place is named. -/
def AC.prim : AC → Bool
  | .int .. => true
  | .bool _ => true
  | .str _ => true
  | _ => false
def primM (m : List (List AC × AC)) : Prop := ∀ p ∈ m, (∀ x ∈ p.1, x.prim = true) ∧ p.2.prim = true

def ABlk.wr : ABlk → Bool
  | .ro _ => false
  | _ => true

/-- Look up, put, take away in a list of pairs. -/
def lk {β : Type} : List (Nat × β) → Nat → Option β
  | [], _ => none
  | (j, b) :: r, i => if j = i then some b else lk r i
def up {β : Type} : List (Nat × β) → Nat → β → List (Nat × β)
  | [], i, b => [(i, b)]
  | (j, c) :: r, i, b => if j = i then (i, b) :: r else (j, c) :: up r i b
def del {β : Type} : List (Nat × β) → Nat → List (Nat × β)
  | [], _ => []
  | (j, c) :: r, i => if j = i then del r i else (j, c) :: del r i

theorem lk_up {β : Type} (l : List (Nat × β)) (i j : Nat) (b : β) : lk (up l i b) j = if i = j then some b else lk l j := by
  induction l with
  | nil => simp [up, lk]
  | cons p r ih =>
    obtain ⟨k, c⟩ := p
    simp only [up]
    by_cases h : k = i
    · subst h; simp only [if_true, lk]
      by_cases h2 : k = j
      · simp [h2]
      · simp [h2]
    · simp only [h, if_false, lk]
      by_cases h2 : k = j
      · subst h2; simp only [if_true]; rw [if_neg (Ne.symm h)]
      · simp only [h2, if_false]; exact ih
theorem lk_del {β : Type} (l : List (Nat × β)) (i j : Nat) : lk (del l i) j = if i = j then none else lk l j := by
  induction l with
  | nil => simp [del, lk]
  | cons p r ih =>
    obtain ⟨k, c⟩ := p
    simp only [del]
    by_cases h : k = i
    · subst h; simp only [if_true, lk]; rw [ih]
      by_cases h2 : k = j
      · simp [h2]
      · simp [h2]
    · simp only [h, if_false, lk]
      by_cases h2 : k = j
      · subst h2; simp only [if_true]; rw [if_neg (Ne.symm h)]
      · simp only [h2, if_false]; exact ih

/-- Where the blocks lie: number, first place, capacity (of rows). -/
structure Ren where
  ρ : Nat → Nat
  δ : Nat → Nat
  κ : Nat → Nat

/-- Numbers from here on are the program's own variables. -/
def GB : Nat := 100000

structure Ren.ok (R : Ren) : Prop where
  g : ∀ i, R.ρ (GB + i) = i
  d : ∀ i, R.δ (GB + i) = 0
  c : ∀ i, R.κ (GB + i) = 0

def Ren.adr (R : Ren) (id off : Nat) : Addr := ⟨R.ρ id, R.δ id + off, none⟩
def Ren.p0 (R : Ren) (id : Nat) : Value := .pointer (some (R.adr id 0))

def conC (R : Ren) : AC → Value → Prop
  | .int k n, v => v = .int k n
  | .bool b, v => v = .bool b
  | .str s, v => v = .string s
  | .ptr id off, v => v = .pointer (some (R.adr id off))
  | .nilp, v => v = .pointer none
  | .sl id off len cap, v => ∃ a c, v = .slice (some a) len c ∧ (∀ c0, cap = some c0 → c = c0) ∧ (0 < len → a = R.adr id off) ∧ len ≤ c
  | .row id len, v => v = .slice (some ⟨R.ρ id, 0, none⟩) len (R.κ id) ∧ len ≤ R.κ id
  | .nils, v => v = .slice none 0 0
  | .map id, v => v = .map (some (R.ρ id))
  | .fn f fs cs, v => v = .func (.func f) (fs.map R.p0).toArray (cs.map R.p0).toArray
  | .nilfn, v => v = .nilFunc
  | .rs id off len, v => (∃ a c, v = .slice (some a) len c ∧ (0 < len → a = R.adr id off) ∧ len ≤ c) ∨ (len = 0 ∧ v = .slice none 0 0)
  | .nilm, v => v = .map none

/-- Cells, one by one, from a place on. -/
def conL (R : Ren) (cs : List AC) (vs : Array Value) (o : Nat) : Prop :=
  ∀ (i : Nat) (x : AC), cs[i]? = some x → ∃ v : Value, vs[o + i]? = some v ∧ conC R x v

def conE (R : Ren) : AE → Value → Prop
  | .c x, v => conC R x v
  | .g cs, v => ∃ vs, v = .agg vs ∧ vs.size = cs.length ∧ conL R cs vs 0
def conV (R : Ren) : AV → Value → Prop
  | .c x, v => conC R x v
  | .g cs, v => ∃ vs, v = .agg vs ∧ vs.size = cs.length ∧ conL R cs vs 0
  | .t es, v => ∃ vs, v = .tuple vs ∧ vs.size = es.length ∧ ∀ (i : Nat) (e : AE), es[i]? = some e → ∃ u : Value, vs[i]? = some u ∧ conE R e u

theorem conV_v (R : Ren) (e : AE) (v : Value) : conV R e.v v ↔ conE R e v := by cases e <;> rfl

/-- A cell that fits is one cell. -/
theorem conC.one {R : Ren} {x : AC} {v : Value} (h : conC R x v) : v.oneCell' = true := by
  cases x <;> simp only [conC] at h <;> first | (subst h; rfl) | (rcases h with ⟨a, c, rfl, _⟩ | ⟨_, rfl⟩ <;> rfl) | (obtain ⟨a, c, rfl, _⟩ := h; rfl) | (obtain ⟨rfl, _⟩ := h; rfl)
theorem conC.cells {R : Ren} {x : AC} {v : Value} (h : conC R x v) : v.cells = #[v] := by
  cases x <;> simp only [conC] at h <;> first | (subst h; rfl) | (rcases h with ⟨a, c, rfl, _⟩ | ⟨_, rfl⟩ <;> rfl) | (obtain ⟨a, c, rfl, _⟩ := h; rfl) | (obtain ⟨rfl, _⟩ := h; rfl)

def BRel (R : Ren) (id : Nat) (w : World) : ABlk → Prop
  | .ro cs => ∃ c t z, w.heap[R.ρ id]? = some (.cells c t z) ∧ conL R cs c (R.δ id)
  | .own cs => ∃ c t, w.heap[R.ρ id]? = some (.cells c t (0, 0)) ∧ R.δ id = 0 ∧ c.size = cs.length ∧ conL R cs c 0
  | .row e z cs => ∃ c, w.heap[R.ρ id]? = some (.cells c e (0, 0)) ∧ R.δ id = 0 ∧ R.κ id ≤ maxLen ∧ c.size = R.κ id * z ∧ cs.length ≤ c.size ∧ conL R cs c 0
  | .mp m => ∃ es clock, w.heap[R.ρ id]? = some (.map es clock) ∧ es.size = m.length ∧
      ∀ (i : Nat) (k : List AC) (v : AC), m[i]? = some (k, v) → ∃ e : MapEntry, es[i]? = some e ∧ (∃ vs : Array Value, e.key = .agg vs ∧ vs.size = k.length ∧ conL R k vs 0) ∧ conC R v e.val
  | .mi I => ∃ m, (I m ∧ primM m) ∧ ∃ es clock, w.heap[R.ρ id]? = some (.map es clock) ∧ es.size = m.length ∧
      ∀ (i : Nat) (k : List AC) (v : AC), m[i]? = some (k, v) → ∃ e : MapEntry, es[i]? = some e ∧ (∃ vs : Array Value, e.key = .agg vs ∧ vs.size = k.length ∧ conL R k vs 0) ∧ conC R v e.val

theorem conC_prim {R R' : Ren} {x : AC} {v : Value} (h : x.prim = true) (hc : conC R x v) : conC R' x v := by
  cases x <;> first | exact hc | cases h
theorem conL_prim {R R' : Ren} {cs : List AC} {vs : Array Value} {o : Nat} (h : ∀ x ∈ cs, x.prim = true) (hc : conL R cs vs o) : conL R' cs vs o := fun i x hi => by
  obtain ⟨v, hv, hcv⟩ := hc i x hi
  exact ⟨v, hv, conC_prim (h x (List.mem_of_getElem? hi)) hcv⟩
/-- A map of which a law is known: a map. -/
theorem BRel.mi_iff {R : Ren} {id : Nat} {w : World} {I : List (List AC × AC) → Prop} : BRel R id w (.mi I) ↔ ∃ m, (I m ∧ primM m) ∧ BRel R id w (.mp m) := Iff.rfl
theorem BRel.mp_prim {R R' : Ren} {id id' : Nat} {w : World} {m : List (List AC × AC)} (hp : primM m) (e : R'.ρ id' = R.ρ id) (h : BRel R id w (.mp m)) : BRel R' id' w (.mp m) := by
  simp only [BRel, e] at h ⊢
  obtain ⟨es, cl, a, b, c⟩ := h
  refine ⟨es, cl, a, b, fun i k v hi => ?_⟩
  obtain ⟨e, he, ⟨vs, k1, k2, k3⟩, hv⟩ := c i k v hi
  have := hp (k, v) (List.mem_of_getElem? hi)
  exact ⟨e, he, ⟨vs, k1, k2, conL_prim this.1 k3⟩, conC_prim this.2 hv⟩

/-- The memory fits the world. -/
structure HRel (R : Ren) (H : List (Nat × ABlk)) (w : World) : Prop where
  blk : ∀ id b, lk H id = some b → BRel R id w b
  inj : ∀ i j b c, lk H i = some b → lk H j = some c → i ≠ j → b.wr = true → R.ρ i ≠ R.ρ j

theorem BRel.lt {R : Ren} {id : Nat} {w : World} {b : ABlk} (h : BRel R id w b) : R.ρ id < w.heap.size := by
  cases b <;> simp only [BRel] at h
  · obtain ⟨c, t, z, h, _⟩ := h; exact (Array.getElem?_eq_some_iff.1 h).1
  · obtain ⟨c, t, h, _⟩ := h; exact (Array.getElem?_eq_some_iff.1 h).1
  · obtain ⟨c, h, _⟩ := h; exact (Array.getElem?_eq_some_iff.1 h).1
  · obtain ⟨c, t, h, _⟩ := h; exact (Array.getElem?_eq_some_iff.1 h).1
  · obtain ⟨_, _, c, t, h, _⟩ := h; exact (Array.getElem?_eq_some_iff.1 h).1

/-- A block's fit rests on that block alone. -/
theorem BRel.of_block {R : Ren} {id : Nat} {w w' : World} {b : ABlk} (h : BRel R id w b) (hb : w'.heap[R.ρ id]? = w.heap[R.ρ id]?) : BRel R id w' b := by
  cases b <;> simp only [BRel, hb] at h ⊢ <;> exact h

/-- What an activation may turn: the blocks of M, and those that are new. -/
structure Fr (M : Nat → Prop) (w w' : World) : Prop where
  os : w'.os = w.os
  tape : w'.tape = w.tape
  output : w'.output = w.output
  size : w.heap.size ≤ w'.heap.size
  block : ∀ k, k < w.heap.size → ¬ M k → w'.heap[k]? = w.heap[k]?

theorem Fr.refl (M : Nat → Prop) (w : World) : Fr M w w := ⟨rfl, rfl, rfl, Nat.le_refl _, fun _ _ _ => rfl⟩
theorem Fr.trans {M M' : Nat → Prop} {a b c : World} (h : Fr M a b) (k : Fr M' b c) (hM : ∀ i, M' i → M i ∨ a.heap.size ≤ i) : Fr M a c :=
  ⟨k.os.trans h.os, k.tape.trans h.tape, k.output.trans h.output, Nat.le_trans h.size k.size, fun i hi hn =>
    (k.block i (Nat.lt_of_lt_of_le hi h.size) (fun hm => by rcases hM i hm with h1 | h1; exact hn h1; omega)).trans (h.block i hi hn)⟩
theorem Fr.alloc (M : Nat → Prop) (w : World) (o : Obj) : Fr M w (w.alloc o) :=
  ⟨rfl, rfl, rfl, by simp, fun k hk _ => Below.heap_alloc w o k hk⟩
theorem Fr.setCell {M : Nat → Prop} (w : World) (a : Addr) (v : Value) (h : M a.block) : Fr M w (w.setCell a v) :=
  ⟨rfl, rfl, rfl, by simp, fun k _ hn => Below.heap_setCell w a v k (fun e => hn (e ▸ h))⟩
theorem Fr.drew (M : Nat → Prop) (w : World) : Fr M w w.drew := ⟨rfl, rfl, rfl, Nat.le_refl _, fun _ _ _ => rfl⟩
theorem Fr.below {w w' : World} (h : Fr (fun _ => False) w w') : Below w.heap.size w w' := ⟨h.os, h.tape, h.output, h.size, fun k hk => h.block k hk (fun h => h)⟩
theorem Fr.of_below {M : Nat → Prop} {w w' : World} (h : Below w.heap.size w w') : Fr M w w' := ⟨h.os, h.tape, h.output, h.size, fun k hk _ => h.block k hk⟩
theorem Fr.mono {M M' : Nat → Prop} {w w' : World} (h : Fr M w w') (hM : ∀ k, M k → M' k) : Fr M' w w' := ⟨h.os, h.tape, h.output, h.size, fun k hk hn => h.block k hk (fun hm => hn (hM k hm))⟩

/-- The state of an activation: temporaries that are known, memory that is known, the next new number, how many temporaries there are. -/
structure AS where
  tm : List (Nat × AV)
  hp : List (Nat × ABlk)
  nx : Nat
  nt : Nat
  k0 : Nat

/-- What stays for an activation's whole life: the world at its beginning, the numbers below k then (what came in), what of the old memory it may write. -/
structure Env where
  W : World
  R : Ren
  k : Nat
  M : Nat → Prop

structure SRel (E : Env) (R : Ren) (s : AS) (a : Act) (w : World) : Prop where
  ok : R.ok
  nt : a.tmps.size = s.nt
  tm : ∀ t v, lk s.tm t = some v → ∃ u, a.tmps[t]? = some u ∧ conV R v u
  hp : HRel R s.hp w
  old : ∀ i, i < E.k → R.ρ i = E.R.ρ i ∧ R.δ i = E.R.δ i ∧ R.κ i = E.R.κ i
  wr : ∀ id b, lk s.hp id = some b → b.wr = true → E.M (R.ρ id) ∨ E.W.heap.size ≤ R.ρ id
  nx : ∀ id b, lk s.hp id = some b → id < s.nx ∨ GB ≤ id
  nk : E.k ≤ s.nx ∧ s.nx ≤ GB
  kk : s.k0 = E.k
  fr : Fr E.M E.W w
  df : ∃ ds : List Nat, a.defers = ds.map (fun d => { target := .collected d, args := #[] }) ∧ ds.Nodup ∧ ∀ d ∈ ds, (E.M d ∨ E.W.heap.size ≤ d) ∧ w.heap[d]? = some (.deferred (some []))

end Go.AH
