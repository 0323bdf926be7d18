/-
  Abstract states over the model: a small memory whose blocks bear literal numbers, and what it means that a world and an activation fit one. (One library for all seats of this repo; nothing of the program in it.)
-/
import Derived.WalkKit
import Derived.RangeFuncNested
import Derived.OrdersIn
import Derived.DeepKeys3
set_option linter.unusedSimpArgs false
set_option linter.unusedVariables false
namespace Go.AH
open Go.RowKit

inductive RT where
  | leaf (z n : Nat) (xs : List Int)
  | node (ks : List RT)

inductive AC where
  | int (k : IntKind) (n : Int)
  | bool (b : Bool)
  | str (s : ByteArray)
  | ptr (id off : Nat)
  | nilp
  | sl (id off len : Nat) (cap : Option Nat)
  | row (id len : Nat)
  | nils
  | map (id : Nat)
  | fn (f : FuncId) (first cap : List Nat)
  | nilfn
  | rs (id off len : Nat)
  | nilm
  | rp (id o len c z : Nat)
  | yv (l : Nat)
  | tv (t : RT)
  | tp (t : RT) (o : Nat)

def RT.z : RT → Nat
  | .leaf z _ _ => z
  | .node _ => 1
def RT.cs : RT → List AC
  | .leaf _ _ xs => xs.map (.int .i64)
  | .node ks => ks.map .tv

inductive AE where
  | c (x : AC)
  | g (cs : List AC)

inductive AV where
  | c (x : AC)
  | g (cs : List AC)
  | t (es : List AE)

def AE.v : AE → AV
  | .c x => .c x
  | .g cs => .g cs

inductive ABlk where
  | ro (cs : List AC)
  | own (cs : List AC)
  | row (e esz : Nat) (cs : List AC)
  | mp (m : List (List AC × AC))
  | mi (I : List (List AC × AC) → Prop)
  | si (s : ByteArray) (p : Nat)
  | li (I : List AC → Prop)

def AC.prim : AC → Bool
  | .int .. => true
  | .bool _ => true
  | .str _ => true
  | _ => false
def primM (m : List (List AC × AC)) : Prop := ∀ p ∈ m, (∀ x ∈ p.1, x.prim = true) ∧ p.2.prim = true

def ABlk.wr : ABlk → Bool
  | .ro _ => false
  | _ => true

def lk {β : Type} : List (Nat × β) → Nat → Option β
  | [], _ => none
  | (j, b) :: r, i => if j = i then some b else lk r i
def up {β : Type} : List (Nat × β) → Nat → β → List (Nat × β)
  | [], i, b => [(i, b)]
  | (j, c) :: r, i, b => if j = i then (i, b) :: r else (j, c) :: up r i b
def del {β : Type} : List (Nat × β) → Nat → List (Nat × β)
  | [], _ => []
  | (j, c) :: r, i => if j = i then del r i else (j, c) :: del r i

theorem lk_up {β : Type} (l : List (Nat × β)) (i j : Nat) (b : β) : lk (up l i b) j = if i = j then some b else lk l j := by
  induction l with
  | nil => simp [up, lk]
  | cons p r ih =>
    obtain ⟨k, c⟩ := p
    simp only [up]
    by_cases h : k = i
    · subst h; simp only [if_true, lk]
      by_cases h2 : k = j
      · simp [h2]
      · simp [h2]
    · simp only [h, if_false, lk]
      by_cases h2 : k = j
      · subst h2; simp only [if_true]; rw [if_neg (Ne.symm h)]
      · simp only [h2, if_false]; exact ih
theorem lk_del {β : Type} (l : List (Nat × β)) (i j : Nat) : lk (del l i) j = if i = j then none else lk l j := by
  induction l with
  | nil => simp [del, lk]
  | cons p r ih =>
    obtain ⟨k, c⟩ := p
    simp only [del]
    by_cases h : k = i
    · subst h; simp only [if_true, lk]; rw [ih]
      by_cases h2 : k = j
      · simp [h2]
      · simp [h2]
    · simp only [h, if_false, lk]
      by_cases h2 : k = j
      · subst h2; simp only [if_true]; rw [if_neg (Ne.symm h)]
      · simp only [h2, if_false]; exact ih

structure Ren where
  ρ : Nat → Nat
  δ : Nat → Nat
  κ : Nat → Nat
  z : Nat → Option (Array Value)

def Zle (Z Z' : Nat → Option (Array Value)) : Prop := ∀ b c, Z b = some c → Z' b = some c
theorem Zle.refl (Z : Nat → Option (Array Value)) : Zle Z Z := fun _ _ h => h
theorem Zle.trans {A B C : Nat → Option (Array Value)} (h : Zle A B) (k : Zle B C) : Zle A C := fun b c hb => k b c (h b c hb)
mutual
def KR (Z : Nat → Option (Array Value)) : RT → Value → Prop
  | .leaf z n xs, v => xs.length = n * z ∧ ((∃ b o cp c, v = .slice (some ⟨b, o, none⟩) n cp ∧ n ≤ cp ∧ Z b = some c ∧ ∀ i x, xs[i]? = some x → c[o + i]? = some (.int .i64 x)) ∨ (n = 0 ∧ (v = .slice none 0 0 ∨ ∃ a cp, v = .slice (some a) 0 cp)))
  | .node ks, v => (∃ b o cp c, v = .slice (some ⟨b, o, none⟩) ks.length cp ∧ ks.length ≤ cp ∧ Z b = some c ∧ KRs Z ks c o) ∨ (ks.length = 0 ∧ (v = .slice none 0 0 ∨ ∃ a cp, v = .slice (some a) 0 cp))
def KRs (Z : Nat → Option (Array Value)) : List RT → Array Value → Nat → Prop
  | [], _, _ => True
  | k :: ks, c, o => (∃ u, c[o]? = some u ∧ KR Z k u) ∧ KRs Z ks c (o + 1)
end
def RT.len : RT → Nat
  | .leaf _ n _ => n
  | .node ks => ks.length
theorem KR.slice {Z : Nat → Option (Array Value)} {t : RT} {v : Value} (h : KR Z t v) : ∃ a c, v = .slice a t.len c := by
  cases t with
  | leaf z n xs =>
    rw [KR] at h
    rcases h.2 with ⟨b, o, cp, c, rfl, _⟩ | ⟨rfl, rfl | ⟨a, cp, rfl⟩⟩
    · exact ⟨_, _, rfl⟩
    · exact ⟨_, _, rfl⟩
    · exact ⟨_, _, rfl⟩
  | node ks =>
    rw [KR] at h
    rcases h with ⟨b, o, cp, c, rfl, _⟩ | ⟨h0, rfl | ⟨a, cp, rfl⟩⟩
    · exact ⟨_, _, rfl⟩
    · exact ⟨none, 0, by show Value.slice none 0 0 = .slice none ks.length 0; rw [h0]⟩
    · exact ⟨some a, cp, by show Value.slice (some a) 0 cp = .slice (some a) ks.length cp; rw [h0]⟩
theorem KRs_get {Z : Nat → Option (Array Value)} : ∀ {ks : List RT} {c : Array Value} {o i : Nat} {k : RT}, KRs Z ks c o → ks[i]? = some k → ∃ u, c[o + i]? = some u ∧ KR Z k u
  | [], _, _, _, _, _, h => by simp at h
  | k :: ks, c, o, 0, k', h, hi => by
    rw [KRs] at h
    injection hi with hi; subst hi
    exact h.1
  | k :: ks, c, o, i + 1, k', h, hi => by
    rw [KRs] at h
    have := KRs_get h.2 (i := i) (k := k') (by simpa using hi)
    rwa [show o + 1 + i = o + (i + 1) by omega] at this
theorem KRs_of {Z : Nat → Option (Array Value)} : ∀ {ks : List RT} {c : Array Value} {o : Nat}, (∀ i k, ks[i]? = some k → ∃ u, c[o + i]? = some u ∧ KR Z k u) → KRs Z ks c o
  | [], _, _, _ => by rw [KRs]; trivial
  | k :: ks, c, o, h => by
    rw [KRs]
    refine ⟨h 0 k rfl, KRs_of fun i k' hi => ?_⟩
    have := h (i + 1) k' (by simpa using hi)
    rwa [show o + (i + 1) = o + 1 + i by omega] at this
mutual
theorem KR.mono {Z Z' : Nat → Option (Array Value)} (hz : Zle Z Z') : ∀ (t : RT) (v : Value), KR Z t v → KR Z' t v
  | .leaf z n xs, v, h => by
    rw [KR] at h ⊢
    refine ⟨h.1, h.2.imp (fun ⟨b, o, cp, c, h1, h2, h3, h4⟩ => ⟨b, o, cp, c, h1, h2, hz _ _ h3, h4⟩) id⟩
  | .node ks, v, h => by
    rw [KR] at h ⊢
    exact h.imp (fun ⟨b, o, cp, c, h1, h2, h3, h4⟩ => ⟨b, o, cp, c, h1, h2, hz _ _ h3, KRs.mono hz ks c o h4⟩) id
theorem KRs.mono {Z Z' : Nat → Option (Array Value)} (hz : Zle Z Z') : ∀ (ks : List RT) (c : Array Value) (o : Nat), KRs Z ks c o → KRs Z' ks c o
  | [], _, _, _ => by rw [KRs]; trivial
  | k :: ks, c, o, h => by
    rw [KRs] at h ⊢
    obtain ⟨⟨u, h1, h2⟩, h3⟩ := h
    exact ⟨⟨u, h1, KR.mono hz k u h2⟩, KRs.mono hz ks c (o + 1) h3⟩
end
def KP (Z : Nat → Option (Array Value)) (t : RT) (q : Nat) (v : Value) : Prop := ∃ b o c, v = .pointer (some ⟨b, o + q, none⟩) ∧ Z b = some c ∧ match t with
  | .leaf _ _ xs => ∀ i x, xs[i]? = some x → c[o + i]? = some (.int .i64 x)
  | .node ks => KRs Z ks c o
theorem KP.mono {Z Z' : Nat → Option (Array Value)} (hz : Zle Z Z') {t : RT} {q : Nat} {v : Value} (h : KP Z t q v) : KP Z' t q v := by
  obtain ⟨b, o, c, h1, h2, h3⟩ := h
  refine ⟨b, o, c, h1, hz _ _ h2, ?_⟩
  cases t with
  | leaf _ _ xs => exact h3
  | node ks => exact KRs.mono hz ks c o h3

def GB : Nat := 100000

structure Ren.ok (R : Ren) : Prop where
  g : ∀ i, R.ρ (GB + i) = i
  d : ∀ i, R.δ (GB + i) = 0
  c : ∀ i, R.κ (GB + i) = 0

def Ren.adr (R : Ren) (id off : Nat) : Addr := ⟨R.ρ id, R.δ id + off, none⟩
def Ren.p0 (R : Ren) (id : Nat) : Value := .pointer (some (R.adr id 0))

def conC (R : Ren) : AC → Value → Prop
  | .int k n, v => v = .int k n
  | .bool b, v => v = .bool b
  | .str s, v => v = .string s
  | .ptr id off, v => v = .pointer (some (R.adr id off))
  | .nilp, v => v = .pointer none
  | .sl id off len cap, v => ∃ a c, v = .slice (some a) len c ∧ (∀ c0, cap = some c0 → c = c0) ∧ (0 < len → a = R.adr id off) ∧ len ≤ c
  | .row id len, v => v = .slice (some ⟨R.ρ id, 0, none⟩) len (R.κ id) ∧ len ≤ R.κ id
  | .nils, v => v = .slice none 0 0
  | .map id, v => v = .map (some (R.ρ id))
  | .fn f fs cs, v => v = .func (.func f) (fs.map R.p0).toArray (cs.map R.p0).toArray
  | .nilfn, v => v = .nilFunc
  | .rs id off len, v => (∃ a c, v = .slice (some a) len c ∧ (0 < len → a = R.adr id off) ∧ len ≤ c) ∨ (len = 0 ∧ v = .slice none 0 0)
  | .nilm, v => v = .map none
  | .rp id o len c z, v => v = .slice (some ⟨R.ρ id, o * z, none⟩) len c ∧ o + c = R.κ id ∧ len ≤ c
  | .yv l, v => v = .func (.yield l) #[] #[]
  | .tv t, v => KR R.z t v
  | .tp t o, v => KP R.z t o v

def conL (R : Ren) (cs : List AC) (vs : Array Value) (o : Nat) : Prop :=
  ∀ (i : Nat) (x : AC), cs[i]? = some x → ∃ v : Value, vs[o + i]? = some v ∧ conC R x v

def conE (R : Ren) : AE → Value → Prop
  | .c x, v => conC R x v
  | .g cs, v => ∃ vs, v = .agg vs ∧ vs.size = cs.length ∧ conL R cs vs 0
def conV (R : Ren) : AV → Value → Prop
  | .c x, v => conC R x v
  | .g cs, v => ∃ vs, v = .agg vs ∧ vs.size = cs.length ∧ conL R cs vs 0
  | .t es, v => ∃ vs, v = .tuple vs ∧ vs.size = es.length ∧ ∀ (i : Nat) (e : AE), es[i]? = some e → ∃ u : Value, vs[i]? = some u ∧ conE R e u

theorem conV_v (R : Ren) (e : AE) (v : Value) : conV R e.v v ↔ conE R e v := by cases e <;> rfl

theorem conC.one {R : Ren} {x : AC} {v : Value} (h : conC R x v) : v.oneCell' = true := by
  cases x <;> simp only [conC] at h <;> first | (obtain ⟨a, c, rfl⟩ := h.slice; rfl) | (obtain ⟨b, o, c, rfl, _⟩ := h; rfl) | (subst h; rfl) | (rcases h with ⟨a, c, rfl, _⟩ | ⟨_, rfl⟩ <;> rfl) | (obtain ⟨a, c, rfl, _⟩ := h; rfl) | (obtain ⟨rfl, _⟩ := h; rfl)
theorem conC.cells {R : Ren} {x : AC} {v : Value} (h : conC R x v) : v.cells = #[v] := by
  cases x <;> simp only [conC] at h <;> first | (obtain ⟨a, c, rfl⟩ := h.slice; rfl) | (obtain ⟨b, o, c, rfl, _⟩ := h; rfl) | (subst h; rfl) | (rcases h with ⟨a, c, rfl, _⟩ | ⟨_, rfl⟩ <;> rfl) | (obtain ⟨a, c, rfl, _⟩ := h; rfl) | (obtain ⟨rfl, _⟩ := h; rfl)

def BRel (R : Ren) (id : Nat) (w : World) : ABlk → Prop
  | .ro cs => ∃ c t z, w.heap[R.ρ id]? = some (.cells c t z) ∧ conL R cs c (R.δ id)
  | .own cs => ∃ c t, w.heap[R.ρ id]? = some (.cells c t (0, 0)) ∧ R.δ id = 0 ∧ c.size = cs.length ∧ conL R cs c 0
  | .row e z cs => ∃ c, w.heap[R.ρ id]? = some (.cells c e (0, 0)) ∧ R.δ id = 0 ∧ R.κ id ≤ maxLen ∧ c.size = R.κ id * z ∧ cs.length ≤ c.size ∧ conL R cs c 0
  | .mp m => ∃ es clock, w.heap[R.ρ id]? = some (.map es clock) ∧ es.size = m.length ∧
      ∀ (i : Nat) (k : List AC) (v : AC), m[i]? = some (k, v) → ∃ e : MapEntry, es[i]? = some e ∧ (∃ vs : Array Value, e.key = .agg vs ∧ vs.size = k.length ∧ conL R k vs 0) ∧ conC R v e.val
  | .mi I => ∃ m, (I m ∧ primM m) ∧ ∃ es clock, w.heap[R.ρ id]? = some (.map es clock) ∧ es.size = m.length ∧
      ∀ (i : Nat) (k : List AC) (v : AC), m[i]? = some (k, v) → ∃ e : MapEntry, es[i]? = some e ∧ (∃ vs : Array Value, e.key = .agg vs ∧ vs.size = k.length ∧ conL R k vs 0) ∧ conC R v e.val
  | .si s p => w.heap[R.ρ id]? = some (.stringIter s p) ∧ R.δ id = 0
  | .li I => ∃ cs : List AC, (I cs ∧ ∀ x ∈ cs, x.prim = true) ∧ ∃ c t, w.heap[R.ρ id]? = some (.cells c t (0, 0)) ∧ R.δ id = 0 ∧ c.size = cs.length ∧ conL R cs c 0

theorem conC_prim {R R' : Ren} {x : AC} {v : Value} (h : x.prim = true) (hc : conC R x v) : conC R' x v := by
  cases x <;> first | exact hc | cases h
theorem conL_prim {R R' : Ren} {cs : List AC} {vs : Array Value} {o : Nat} (h : ∀ x ∈ cs, x.prim = true) (hc : conL R cs vs o) : conL R' cs vs o := fun i x hi => by
  obtain ⟨v, hv, hcv⟩ := hc i x hi
  exact ⟨v, hv, conC_prim (h x (List.mem_of_getElem? hi)) hcv⟩
theorem BRel.mi_iff {R : Ren} {id : Nat} {w : World} {I : List (List AC × AC) → Prop} : BRel R id w (.mi I) ↔ ∃ m, (I m ∧ primM m) ∧ BRel R id w (.mp m) := Iff.rfl
theorem BRel.mp_prim {R R' : Ren} {id id' : Nat} {w : World} {m : List (List AC × AC)} (hp : primM m) (e : R'.ρ id' = R.ρ id) (h : BRel R id w (.mp m)) : BRel R' id' w (.mp m) := by
  simp only [BRel, e] at h ⊢
  obtain ⟨es, cl, a, b, c⟩ := h
  refine ⟨es, cl, a, b, fun i k v hi => ?_⟩
  obtain ⟨e, he, ⟨vs, k1, k2, k3⟩, hv⟩ := c i k v hi
  have := hp (k, v) (List.mem_of_getElem? hi)
  exact ⟨e, he, ⟨vs, k1, k2, conL_prim this.1 k3⟩, conC_prim this.2 hv⟩

def Zok (Z : Nat → Option (Array Value)) (w : World) : Prop := ∀ b c, Z b = some c → ∃ t v, w.heap[b]? = some (.cells c t v)
theorem Zok.lt {Z : Nat → Option (Array Value)} {w : World} (h : Zok Z w) {b : Nat} (hb : w.heap.size ≤ b) : Z b = none := by
  cases hz : Z b with
  | none => rfl
  | some c =>
    obtain ⟨t, v, h1⟩ := h b c hz
    have := (Array.getElem?_eq_some_iff.1 h1).1
    omega
structure HRel (R : Ren) (H : List (Nat × ABlk)) (w : World) : Prop where
  blk : ∀ id b, lk H id = some b → BRel R id w b
  inj : ∀ i j b c, lk H i = some b → lk H j = some c → i ≠ j → b.wr = true → R.ρ i ≠ R.ρ j
  zw : Zok R.z w
  zn : ∀ id b, lk H id = some b → b.wr = true → R.z (R.ρ id) = none

theorem BRel.lt {R : Ren} {id : Nat} {w : World} {b : ABlk} (h : BRel R id w b) : R.ρ id < w.heap.size := by
  cases b <;> simp only [BRel] at h
  · obtain ⟨c, t, z, h, _⟩ := h; exact (Array.getElem?_eq_some_iff.1 h).1
  · obtain ⟨c, t, h, _⟩ := h; exact (Array.getElem?_eq_some_iff.1 h).1
  · obtain ⟨c, h, _⟩ := h; exact (Array.getElem?_eq_some_iff.1 h).1
  · obtain ⟨c, t, h, _⟩ := h; exact (Array.getElem?_eq_some_iff.1 h).1
  · obtain ⟨_, _, c, t, h, _⟩ := h; exact (Array.getElem?_eq_some_iff.1 h).1
  · exact (Array.getElem?_eq_some_iff.1 h.1).1
  · obtain ⟨_, _, c, t, h, _⟩ := h; exact (Array.getElem?_eq_some_iff.1 h).1

theorem BRel.of_block {R : Ren} {id : Nat} {w w' : World} {b : ABlk} (h : BRel R id w b) (hb : w'.heap[R.ρ id]? = w.heap[R.ρ id]?) : BRel R id w' b := by
  cases b <;> simp only [BRel, hb] at h ⊢ <;> exact h

structure Fr (M : Nat → Prop) (w w' : World) : Prop where
  os : w'.os = w.os
  tape : w'.tape = w.tape
  output : w'.output = w.output
  size : w.heap.size ≤ w'.heap.size
  block : ∀ k, k < w.heap.size → ¬ M k → w'.heap[k]? = w.heap[k]?

theorem Fr.refl (M : Nat → Prop) (w : World) : Fr M w w := ⟨rfl, rfl, rfl, Nat.le_refl _, fun _ _ _ => rfl⟩
theorem Fr.trans {M M' : Nat → Prop} {a b c : World} (h : Fr M a b) (k : Fr M' b c) (hM : ∀ i, M' i → M i ∨ a.heap.size ≤ i) : Fr M a c :=
  ⟨k.os.trans h.os, k.tape.trans h.tape, k.output.trans h.output, Nat.le_trans h.size k.size, fun i hi hn =>
    (k.block i (Nat.lt_of_lt_of_le hi h.size) (fun hm => by rcases hM i hm with h1 | h1; exact hn h1; omega)).trans (h.block i hi hn)⟩
theorem Fr.alloc (M : Nat → Prop) (w : World) (o : Obj) : Fr M w (w.alloc o) :=
  ⟨rfl, rfl, rfl, by simp, fun k hk _ => Below.heap_alloc w o k hk⟩
theorem Fr.drew (M : Nat → Prop) (w : World) : Fr M w w.drew := ⟨rfl, rfl, rfl, Nat.le_refl _, fun _ _ _ => rfl⟩
theorem Fr.below {w w' : World} (h : Fr (fun _ => False) w w') : Below w.heap.size w w' := ⟨h.os, h.tape, h.output, h.size, fun k hk => h.block k hk (fun h => h)⟩
theorem Fr.mono {M M' : Nat → Prop} {w w' : World} (h : Fr M w w') (hM : ∀ k, M k → M' k) : Fr M' w w' := ⟨h.os, h.tape, h.output, h.size, fun k hk hn => h.block k hk (fun hm => hn (hM k hm))⟩

structure AS where
  tm : List (Nat × AV)
  hp : List (Nat × ABlk)
  nx : Nat
  nt : Nat
  k0 : Nat

structure Env where
  W : World
  R : Ren
  k : Nat
  M : Nat → Prop

structure SRel (E : Env) (R : Ren) (s : AS) (a : Act) (w : World) : Prop where
  ok : R.ok
  nt : a.tmps.size = s.nt
  tm : ∀ t v, lk s.tm t = some v → ∃ u, a.tmps[t]? = some u ∧ conV R v u
  hp : HRel R s.hp w
  old : ∀ i, i < E.k → R.ρ i = E.R.ρ i ∧ R.δ i = E.R.δ i ∧ R.κ i = E.R.κ i
  wr : ∀ id b, lk s.hp id = some b → b.wr = true → E.M (R.ρ id) ∨ E.W.heap.size ≤ R.ρ id
  nx : ∀ id b, lk s.hp id = some b → id < s.nx ∨ GB ≤ id
  nk : E.k ≤ s.nx ∧ s.nx ≤ GB
  kk : s.k0 = E.k
  fr : Fr E.M E.W w
  zg : Zle E.R.z R.z ∧ ∀ b, R.z b ≠ none → E.R.z b ≠ none ∨ E.M b ∨ E.W.heap.size ≤ b
  df : ∃ ds : List Nat, a.defers = ds.map (fun d => { target := .collected d, args := #[] }) ∧ ds.Nodup ∧ ∀ d ∈ ds, (E.M d ∨ E.W.heap.size ≤ d) ∧ w.heap[d]? = some (.deferred (some []))

end Go.AH

/-
  The fit of a state and a world under a world's changes.
-/
namespace Go.AH
open Go.RowKit

def idOk (n i : Nat) : Prop := i < n ∨ GB ≤ i

def AC.lt (n : Nat) : AC → Prop
  | .ptr id _ => idOk n id
  | .sl id _ _ _ => idOk n id
  | .row id _ => idOk n id
  | .map id => idOk n id
  | .fn _ fs cs => (∀ i ∈ fs, idOk n i) ∧ ∀ i ∈ cs, idOk n i
  | .rs id _ _ => idOk n id
  | .rp id _ _ _ _ => idOk n id
  | _ => True
def LL (n : Nat) (cs : List AC) : Prop := ∀ x ∈ cs, x.lt n
def AE.lt (n : Nat) : AE → Prop
  | .c x => x.lt n
  | .g cs => LL n cs
def AV.lt (n : Nat) : AV → Prop
  | .c x => x.lt n
  | .g cs => LL n cs
  | .t es => ∀ e ∈ es, AE.lt n e
def ABlk.lt (n : Nat) : ABlk → Prop
  | .ro cs => LL n cs
  | .own cs => LL n cs
  | .row _ _ cs => LL n cs
  | .mp m => ∀ p ∈ m, LL n p.1 ∧ p.2.lt n
  | .mi _ => True
  | .si .. => True
  | .li _ => True

theorem idOk.mono {n m i : Nat} (h : idOk n i) (hm : n ≤ m) : idOk m i := by unfold idOk at *; omega
theorem AC.lt.mono {n m : Nat} {x : AC} (h : x.lt n) (hm : n ≤ m) : x.lt m := by
  cases x <;> simp only [AC.lt] at h ⊢ <;> first | exact idOk.mono h hm | exact ⟨fun i hi => (h.1 i hi).mono hm, fun i hi => (h.2 i hi).mono hm⟩
theorem LL.mono {n m : Nat} {cs : List AC} (h : LL n cs) (hm : n ≤ m) : LL m cs := fun x hx => (h x hx).mono hm
theorem AE.lt.mono {n m : Nat} {x : AE} (h : x.lt n) (hm : n ≤ m) : x.lt m := by
  cases x
  · exact AC.lt.mono h hm
  · exact LL.mono h hm
theorem AV.lt.mono {n m : Nat} {x : AV} (h : x.lt n) (hm : n ≤ m) : x.lt m := by
  cases x
  · exact AC.lt.mono h hm
  · exact LL.mono h hm
  · exact fun e he => (h e he).mono hm
theorem ABlk.lt.mono {n m : Nat} {b : ABlk} (h : b.lt n) (hm : n ≤ m) : b.lt m := by
  cases b
  · exact LL.mono h hm
  · exact LL.mono h hm
  · exact LL.mono h hm
  · exact fun p hp => ⟨(h p hp).1.mono hm, (h p hp).2.mono hm⟩
  · trivial
  · trivial
  · trivial

structure Agree (n : Nat) (R R' : Ren) : Prop where
  ids : ∀ i, idOk n i → R'.ρ i = R.ρ i ∧ R'.δ i = R.δ i ∧ R'.κ i = R.κ i
  zm : Zle R.z R'.z
instance {n : Nat} {R R' : Ren} : CoeFun (Agree n R R') (fun _ => ∀ i, idOk n i → R'.ρ i = R.ρ i ∧ R'.δ i = R.δ i ∧ R'.κ i = R.κ i) := ⟨Agree.ids⟩
theorem Agree.refl (n : Nat) (R : Ren) : Agree n R R := ⟨fun _ _ => ⟨rfl, rfl, rfl⟩, Zle.refl _⟩
theorem Agree.trans {n m : Nat} {A B C : Ren} (h : Agree n A B) (k : Agree m B C) (hm : n ≤ m) : Agree n A C := ⟨fun i hi => by
  obtain ⟨a, b, c⟩ := h i hi; obtain ⟨d, e, f⟩ := k i (hi.mono hm)
  exact ⟨d.trans a, e.trans b, f.trans c⟩, h.zm.trans k.zm⟩
theorem Agree.mono {n m : Nat} {A B : Ren} (h : Agree m A B) (hm : n ≤ m) : Agree n A B := ⟨fun i hi => h i (hi.mono hm), h.zm⟩
theorem Agree.adr {n : Nat} {R R' : Ren} (h : Agree n R R') {i : Nat} (hi : idOk n i) (o : Nat) : R'.adr i o = R.adr i o := by
  obtain ⟨a, b, _⟩ := h i hi; simp [Ren.adr, a, b]

theorem conC.agree {n : Nat} {R R' : Ren} (h : Agree n R R') {x : AC} {v : Value} (hx : x.lt n) (hc : conC R x v) : conC R' x v := by
  cases x with
  | ptr id off => simp only [conC, h.adr hx] at hc ⊢; exact hc
  | sl id off len cap => simp only [conC, h.adr hx] at hc ⊢; exact hc
  | rs id off len => simp only [conC, h.adr hx] at hc ⊢; exact hc
  | row id len => obtain ⟨a, _, c⟩ := h id hx; simp only [conC, a, c] at hc ⊢; exact hc
  | map id => obtain ⟨a, _, _⟩ := h id hx; simp only [conC, a] at hc ⊢; exact hc
  | rp id o len cc z => obtain ⟨a, _, c⟩ := h id hx; simp only [conC, a, c] at hc ⊢; exact hc
  | tv t => exact KR.mono h.zm t v hc
  | tp t o => exact KP.mono h.zm hc
  | fn f fs cs =>
    have hp : ∀ i, idOk n i → R'.p0 i = R.p0 i := fun i hi => by simp [Ren.p0, h.adr hi]
    simp only [conC] at hc ⊢
    rw [hc, List.map_congr_left fun i hi => hp i (hx.1 i hi), List.map_congr_left fun i hi => hp i (hx.2 i hi)]
  | _ => exact hc
theorem conL.agree {n : Nat} {R R' : Ren} (h : Agree n R R') {cs : List AC} {vs : Array Value} {o : Nat} (hx : LL n cs) (hc : conL R cs vs o) : conL R' cs vs o := fun i x hi => by
  obtain ⟨v, hv, hcv⟩ := hc i x hi
  exact ⟨v, hv, hcv.agree h (hx x (List.mem_of_getElem? hi))⟩
theorem conE.agree {n : Nat} {R R' : Ren} (h : Agree n R R') {x : AE} {v : Value} (hx : x.lt n) (hc : conE R x v) : conE R' x v := by
  cases x with
  | c x => exact conC.agree h hx hc
  | g cs => obtain ⟨vs, a, b, c⟩ := hc; exact ⟨vs, a, b, c.agree h hx⟩
theorem conV.agree {n : Nat} {R R' : Ren} (h : Agree n R R') {x : AV} {v : Value} (hx : x.lt n) (hc : conV R x v) : conV R' x v := by
  cases x with
  | c x => exact conC.agree h hx hc
  | g cs => obtain ⟨vs, a, b, c⟩ := hc; exact ⟨vs, a, b, c.agree h hx⟩
  | t es =>
    obtain ⟨vs, a, b, c⟩ := hc
    exact ⟨vs, a, b, fun i e hi => by obtain ⟨u, hu, hc⟩ := c i e hi; exact ⟨u, hu, hc.agree h (hx e (List.mem_of_getElem? hi))⟩⟩
theorem BRel.agree {n : Nat} {R R' : Ren} (h : Agree n R R') {id : Nat} {w : World} {b : ABlk} (hid : idOk n id) (hx : b.lt n) (hc : BRel R id w b) : BRel R' id w b := by
  obtain ⟨h1, h2, h3⟩ := h id hid
  cases b with
  | ro cs => simp only [BRel, h1, h2] at hc ⊢; obtain ⟨c, t, z, a, b⟩ := hc; exact ⟨c, t, z, a, b.agree h hx⟩
  | own cs => simp only [BRel, h1, h2] at hc ⊢; obtain ⟨c, t, a, d, e, b⟩ := hc; exact ⟨c, t, a, d, e, b.agree h hx⟩
  | row e z cs => simp only [BRel, h1, h2, h3] at hc ⊢; obtain ⟨c, a, d, e, f, g, b⟩ := hc; exact ⟨c, a, d, e, f, g, b.agree h hx⟩
  | mp m =>
    simp only [BRel, h1] at hc ⊢
    obtain ⟨es, cl, a, b, c⟩ := hc
    refine ⟨es, cl, a, b, fun i k v hi => ?_⟩
    obtain ⟨e, he, ⟨vs, k1, k2, k3⟩, hv⟩ := c i k v hi
    have := hx (k, v) (List.mem_of_getElem? hi)
    exact ⟨e, he, ⟨vs, k1, k2, k3.agree h this.1⟩, hv.agree h this.2⟩
  | mi I =>
    obtain ⟨m, ⟨hI, hp⟩, hm⟩ := BRel.mi_iff.1 hc
    exact BRel.mi_iff.2 ⟨m, ⟨hI, hp⟩, hm.mp_prim hp h1⟩
  | si s p => simp only [BRel, h1, h2] at hc ⊢; exact hc
  | li I => simp only [BRel, h1, h2] at hc ⊢; obtain ⟨cs, ⟨hI, hp⟩, c, t, a, d, e, b⟩ := hc; exact ⟨cs, ⟨hI, hp⟩, c, t, a, d, e, conL_prim hp b⟩

structure AS.wf (s : AS) : Prop where
  tm : ∀ t v, lk s.tm t = some v → v.lt s.nx
  hp : ∀ i b, lk s.hp i = some b → idOk s.nx i ∧ b.lt s.nx

structure Fit (E : Env) (R : Ren) (s : AS) (a : Act) (w : World) : Prop extends SRel E R s a w where
  wf : s.wf

variable {E : Env} {R R' : Ren} {s : AS} {a : Act} {w w' : World}

theorem Fit.kid (h : Fit E R s a w) {i : Nat} (hi : i < E.k) : idOk s.nx i := .inl (Nat.lt_of_lt_of_le hi h.nk.1)

theorem Fit.hp_congr {hp' : List (Nat × ABlk)} (h : Fit E R s a w) (he : ∀ i, lk hp' i = lk s.hp i) : Fit E R { s with hp := hp' } a w where
  ok := h.ok
  nt := h.nt
  tm := h.tm
  hp := ⟨fun id b hb => h.hp.blk id b (by rw [← he]; exact hb), fun i j b c hi hj => h.hp.inj i j b c (by rw [← he]; exact hi) (by rw [← he]; exact hj), h.hp.zw, fun id b hb => h.hp.zn id b (by rw [← he]; exact hb)⟩
  old := h.old
  wr := fun id b hb => h.wr id b (by rw [← he]; exact hb)
  nx := fun id b hb => h.nx id b (by rw [← he]; exact hb)
  nk := h.nk
  kk := h.kk
  fr := h.fr
  zg := h.zg
  df := h.df
  wf := ⟨h.wf.tm, fun i b hb => h.wf.hp i b (by rw [← he]; exact hb)⟩

theorem Fit.hp_sub {hp' : List (Nat × ABlk)} (h : Fit E R s a w) (he : ∀ i b, lk hp' i = some b → lk s.hp i = some b) : Fit E R { s with hp := hp' } a w where
  ok := h.ok
  nt := h.nt
  tm := h.tm
  hp := ⟨fun id b hb => h.hp.blk id b (he _ _ hb), fun i j b c hi hj => h.hp.inj i j b c (he _ _ hi) (he _ _ hj), h.hp.zw, fun id b hb => h.hp.zn id b (he _ _ hb)⟩
  old := h.old
  wr := fun id b hb => h.wr id b (he _ _ hb)
  nx := fun id b hb => h.nx id b (he _ _ hb)
  nk := h.nk
  kk := h.kk
  fr := h.fr
  zg := h.zg
  df := h.df
  wf := ⟨h.wf.tm, fun i b hb => h.wf.hp i b (he _ _ hb)⟩

theorem Fit.tm_sub {tm' : List (Nat × AV)} (h : Fit E R s a w) (he : ∀ i b, lk tm' i = some b → lk s.tm i = some b) : Fit E R { s with tm := tm' } a w where
  ok := h.ok
  nt := h.nt
  tm := fun t v hv => h.tm t v (he _ _ hv)
  hp := h.hp
  old := h.old
  wr := h.wr
  nx := h.nx
  nk := h.nk
  kk := h.kk
  fr := h.fr
  zg := h.zg
  df := h.df
  wf := ⟨fun t v hv => h.wf.tm t v (he _ _ hv), h.wf.hp⟩

theorem Fit.ren {m : Nat} (h : Fit E R s a w) (hag : Agree s.nx R R') (hok : R'.ok) (hm : s.nx ≤ m) (hG : m ≤ GB) (hz : R'.z = R.z := by rfl) : Fit E R' { s with nx := m } a w where
  ok := hok
  nt := h.nt
  tm := fun t v hv => by obtain ⟨u, hu, hc⟩ := h.tm t v hv; exact ⟨u, hu, hc.agree hag (h.wf.tm t v hv)⟩
  hp := ⟨fun id b hb => (h.hp.blk id b hb).agree hag (h.wf.hp id b hb).1 (h.wf.hp id b hb).2,
    fun i j b c hi hj hn hw => by
      rw [(hag i (h.wf.hp i b hi).1).1, (hag j (h.wf.hp j c hj).1).1]; exact h.hp.inj i j b c hi hj hn hw, by rw [hz]; exact h.hp.zw, fun id b hb hw => by rw [hz, (hag id (h.wf.hp id b hb).1).1]; exact h.hp.zn id b hb hw⟩
  old := fun i hi => by
    obtain ⟨x, y, z⟩ := hag i (h.kid hi); obtain ⟨x', y', z'⟩ := h.old i hi
    exact ⟨x.trans x', y.trans y', z.trans z'⟩
  wr := fun id b hb hw => by rw [(hag id (h.wf.hp id b hb).1).1]; exact h.wr id b hb hw
  nx := fun id b hb => by have := h.nx id b hb; show id < m ∨ _; omega
  nk := ⟨Nat.le_trans h.nk.1 hm, hG⟩
  kk := h.kk
  fr := h.fr
  zg := by rw [hz]; exact h.zg
  df := h.df
  wf := ⟨fun t v hv => (h.wf.tm t v hv).mono hm, fun i b hb => ⟨(h.wf.hp i b hb).1.mono hm, (h.wf.hp i b hb).2.mono hm⟩⟩

theorem Fit.renZ {m : Nat} (h : Fit E R s a w) (hag : Agree s.nx R R') (hok : R'.ok) (hm : s.nx ≤ m) (hG : m ≤ GB) (hzw : Zok R'.z w) (hzn : ∀ id b, lk s.hp id = some b → b.wr = true → R'.z (R.ρ id) = none) (hzg : ∀ b, R'.z b ≠ none → R.z b ≠ none ∨ E.M b ∨ E.W.heap.size ≤ b) : Fit E R' { s with nx := m } a w where
  ok := hok
  nt := h.nt
  tm := fun t v hv => by obtain ⟨u, hu, hc⟩ := h.tm t v hv; exact ⟨u, hu, hc.agree hag (h.wf.tm t v hv)⟩
  hp := ⟨fun id b hb => (h.hp.blk id b hb).agree hag (h.wf.hp id b hb).1 (h.wf.hp id b hb).2,
    fun i j b c hi hj hn hw => by
      rw [(hag i (h.wf.hp i b hi).1).1, (hag j (h.wf.hp j c hj).1).1]; exact h.hp.inj i j b c hi hj hn hw, hzw, fun id b hb hw => by rw [(hag id (h.wf.hp id b hb).1).1]; exact hzn id b hb hw⟩
  old := fun i hi => by
    obtain ⟨x, y, z⟩ := hag i (h.kid hi); obtain ⟨x', y', z'⟩ := h.old i hi
    exact ⟨x.trans x', y.trans y', z.trans z'⟩
  wr := fun id b hb hw => by rw [(hag id (h.wf.hp id b hb).1).1]; exact h.wr id b hb hw
  nx := fun id b hb => by have := h.nx id b hb; show id < m ∨ _; omega
  nk := ⟨Nat.le_trans h.nk.1 hm, hG⟩
  kk := h.kk
  fr := h.fr
  zg := ⟨h.zg.1.trans hag.zm, fun b hb => (hzg b hb).elim (h.zg.2 b) .inr⟩
  df := h.df
  wf := ⟨fun t v hv => (h.wf.tm t v hv).mono hm, fun i b hb => ⟨(h.wf.hp i b hb).1.mono hm, (h.wf.hp i b hb).2.mono hm⟩⟩

theorem Zok.grown {Z : Nat → Option (Array Value)} {w w' : World} {g : Option Nat} (h : Zok Z w) (hg : w.grownBy w' g) (hn : ∀ {b : Nat}, some b = g → Z b = none) : Zok Z w' := fun b c hb => by
  obtain ⟨t, v, h1⟩ := h b c hb
  refine ⟨t, v, (hg.block b (Array.getElem?_eq_some_iff.1 h1).1 fun e => ?_).trans h1⟩
  rw [hn e] at hb
  cases hb
theorem Fit.keep {id : Nat} {b : ABlk} (h : Fit E R s a w) (hid : lk s.hp id = some b) (hwr : b.wr = true) (hg : w.grownBy w' (some (R.ρ id)))
    (hndf : ∀ ds, w.heap[R.ρ id]? ≠ some (.deferred ds) := by intro _ h; simp_all) : Fit E R { s with hp := del s.hp id } a w' where
  ok := h.ok
  nt := h.nt
  tm := h.tm
  hp := ⟨fun i c hc => by
      simp only [lk_del] at hc
      by_cases e : id = i
      · rw [if_pos e] at hc; cases hc
      · rw [if_neg e] at hc
        refine (h.hp.blk i c hc).of_block (hg.block _ (h.hp.blk i c hc).lt ?_)
        intro e2; injection e2 with e2
        exact h.hp.inj id i b c hid hc e hwr e2.symm,
    fun i j c d hi hj => by
      simp only [lk_del] at hi hj
      split at hi <;> first | (cases hi; done) | skip
      split at hj <;> first | (cases hj; done) | skip
      exact h.hp.inj i j c d hi hj, h.hp.zw.grown hg (fun e => by injection e with e; rw [e]; exact h.hp.zn id b hid hwr), fun i c hc => by
      simp only [lk_del] at hc
      split at hc <;> first | (cases hc; done) | skip
      exact h.hp.zn i c hc⟩
  old := h.old
  wr := fun i c hc => by
    simp only [lk_del] at hc
    split at hc <;> first | (cases hc; done) | skip
    exact h.wr i c hc
  nx := fun i c hc => by
    simp only [lk_del] at hc
    split at hc <;> first | (cases hc; done) | skip
    exact h.nx i c hc
  nk := h.nk
  kk := h.kk
  fr := ⟨hg.os.trans h.fr.os, hg.tape.trans h.fr.tape, hg.output.trans h.fr.output, Nat.le_trans h.fr.size hg.size, fun k hk hn => by
    refine (hg.block k (Nat.lt_of_lt_of_le hk h.fr.size) ?_).trans (h.fr.block k hk hn)
    intro e; injection e with e
    rcases h.wr id b hid hwr with h1 | h1
    · exact hn (e ▸ h1)
    · omega⟩
  zg := h.zg
  df := by
    obtain ⟨ds, h1, hnd, h2⟩ := h.df
    refine ⟨ds, h1, hnd, fun d hd => ⟨(h2 d hd).1, (hg.block d (Array.getElem?_eq_some_iff.1 (h2 d hd).2).1 ?_).trans (h2 d hd).2⟩⟩
    intro e; injection e with e
    exact hndf _ (e ▸ (h2 d hd).2)
  wf := ⟨h.wf.tm, fun i c hc => by
    simp only [lk_del] at hc
    split at hc <;> first | (cases hc; done) | skip
    exact h.wf.hp i c hc⟩

theorem Fit.keep0 (h : Fit E R s a w) (hg : w.grownBy w' none) : Fit E R s a w' where
  ok := h.ok
  nt := h.nt
  tm := h.tm
  hp := ⟨fun i c hc => (h.hp.blk i c hc).of_block (hg.block _ (h.hp.blk i c hc).lt (by simp)), h.hp.inj, h.hp.zw.grown hg (fun e => by cases e), h.hp.zn⟩
  old := h.old
  wr := h.wr
  nx := h.nx
  nk := h.nk
  kk := h.kk
  fr := ⟨hg.os.trans h.fr.os, hg.tape.trans h.fr.tape, hg.output.trans h.fr.output, Nat.le_trans h.fr.size hg.size, fun k hk hn =>
    (hg.block k (Nat.lt_of_lt_of_le hk h.fr.size) (by simp)).trans (h.fr.block k hk hn)⟩
  zg := h.zg
  df := by
    obtain ⟨ds, h1, hnd, h2⟩ := h.df
    exact ⟨ds, h1, hnd, fun d hd => ⟨(h2 d hd).1, (hg.block d (Array.getElem?_eq_some_iff.1 (h2 d hd).2).1 (by simp)).trans (h2 d hd).2⟩⟩
  wf := h.wf

theorem Fit.add {id : Nat} {b : ABlk} (h : Fit E R s a w) (hn : lk s.hp id = none) (hb : BRel R id w b) (hw : b.wr = true → E.M (R.ρ id) ∨ E.W.heap.size ≤ R.ρ id)
    (hi : ∀ j c, lk s.hp j = some c → b.wr = true ∨ c.wr = true → R.ρ id ≠ R.ρ j) (hx : idOk s.nx id) (hl : b.lt s.nx) (hz : b.wr = true → R.z (R.ρ id) = none) : Fit E R { s with hp := (id, b) :: s.hp } a w where
  ok := h.ok
  nt := h.nt
  tm := h.tm
  hp := ⟨fun i c hc => by
      simp only [lk] at hc
      split at hc
      · rename_i e; subst e; injection hc with hc; exact hc ▸ hb
      · exact h.hp.blk i c hc,
    fun i j c d hci hdj hne hwr => by
      simp only [lk] at hci hdj
      split at hci
      · rename_i e; subst e; injection hci with hci; subst hci
        rw [if_neg hne] at hdj
        exact hi j d hdj (.inl hwr)
      · rename_i e
        split at hdj
        · rename_i e2; subst e2
          exact fun e3 => hi i c hci (.inr hwr) e3.symm
        · exact h.hp.inj i j c d hci hdj hne hwr, h.hp.zw, fun i c hc => by
      simp only [lk] at hc
      split at hc
      · rename_i e; subst e; injection hc with hc; exact hc ▸ hz
      · exact h.hp.zn i c hc⟩
  old := h.old
  wr := fun i c hc => by
    simp only [lk] at hc
    split at hc
    · rename_i e; subst e; injection hc with hc; exact hc ▸ hw
    · exact h.wr i c hc
  nx := fun i c hc => by
    simp only [lk] at hc
    split at hc
    · rename_i e; subst e; exact hx
    · exact h.nx i c hc
  nk := h.nk
  kk := h.kk
  fr := h.fr
  zg := h.zg
  df := h.df
  wf := ⟨h.wf.tm, fun i c hc => by
    simp only [lk] at hc
    split at hc
    · rename_i e; subst e; injection hc with hc; exact ⟨hx, hc ▸ hl⟩
    · exact h.wf.hp i c hc⟩

theorem Fit.put {d : Nat} {v : AV} {u : Value} (h : Fit E R s a w) (hd : d < s.nt) (hv : conV R v u) (hl : v.lt s.nx) : Fit E R { s with tm := (d, v) :: s.tm } (a.put (some d) u) w where
  ok := h.ok
  nt := by simp [Act.put, h.nt]
  tm := fun t v' hv' => by
    simp only [lk] at hv'
    have hd' : d < a.tmps.size := by rw [h.nt]; exact hd
    split at hv'
    · rename_i e; subst e; injection hv' with hv'; subst hv'
      exact ⟨u, by simp [Act.put, hd'], hv⟩
    · rename_i e
      obtain ⟨u', hu', hc⟩ := h.tm t v' hv'
      exact ⟨u', by simp [Act.put, Array.getElem?_setIfInBounds_ne e, hu'], hc⟩
  hp := h.hp
  old := h.old
  wr := h.wr
  nx := h.nx
  nk := h.nk
  kk := h.kk
  fr := h.fr
  zg := h.zg
  df := h.df
  wf := ⟨fun t v' hv' => by
    simp only [lk] at hv'
    split at hv'
    · injection hv' with hv'; exact hv' ▸ hl
    · exact h.wf.tm t v' hv', h.wf.hp⟩

def Ren.set (R : Ren) (id b d k : Nat) : Ren := ⟨fun i => if i = id then b else R.ρ i, fun i => if i = id then d else R.δ i, fun i => if i = id then k else R.κ i, R.z⟩
theorem Ren.set_agree (R : Ren) (id b d k : Nat) (h : id < GB) : Agree id R (R.set id b d k) := ⟨fun i hi => by
  have : i ≠ id := by unfold idOk at hi; omega
  simp [Ren.set, this], Zle.refl _⟩
theorem Ren.set_ok {R : Ren} (id b d k : Nat) (h : id < GB) (hk : R.ok) : (R.set id b d k).ok := by
  have hn : ∀ i, GB + i ≠ id := fun i => by omega
  exact ⟨fun i => by simp [Ren.set, hn, hk.g], fun i => by simp [Ren.set, hn, hk.d], fun i => by simp [Ren.set, hn, hk.c]⟩
@[simp] theorem Ren.set_ρ (R : Ren) (id b d k : Nat) : (R.set id b d k).ρ id = b := by simp [Ren.set]
@[simp] theorem Ren.set_δ (R : Ren) (id b d k : Nat) : (R.set id b d k).δ id = d := by simp [Ren.set]
@[simp] theorem Ren.set_κ (R : Ren) (id b d k : Nat) : (R.set id b d k).κ id = k := by simp [Ren.set]

end Go.AH

/-
  What one operation does to an abstract state.
-/
namespace Go.AH
open Go.RowKit

inductive TD where
  | int (k : IntKind) | bool | str | ptr
  | slice (e : Nat)
  | arr (n e : Nat)
  | struct (fs : List (Nat × Nat))
  | map (key el : Nat)
  | func
  | other

structure TI where
  d : TD
  size : Nat
  bytes : Nat
  zero : List AC
  cmp : Bool

def TI.agg (i : TI) : Bool := match i.d with | .arr .. => true | .struct .. => true | _ => false

def AS.on (s : AS) (f : List (Nat × AV) → List (Nat × ABlk) → Nat → Nat → Nat → Prop) : Prop := match s with | ⟨tm, hp, nx, nt, k0⟩ => f tm hp nx nt k0
theorem AS.on_eq (s : AS) (f : List (Nat × AV) → List (Nat × ABlk) → Nat → Nat → Nat → Prop) : s.on f = f s.tm s.hp s.nx s.nt s.k0 := rfl

def lit (b : Bool) (X : Prop) : Prop := match b with | true => X | false => False
theorem lit_iff {b : Bool} {X : Prop} : lit b X ↔ b = true ∧ X := by cases b <;> simp [lit]

def I64 (n : Int) : Prop := -9223372036854775808 ≤ n ∧ n < 9223372036854775808

def kv : Value → Option AV
  | .int k n => some (.c (.int k n))
  | .bool b => some (.c (.bool b))
  | .string s => some (.c (.str s))
  | .pointer none => some (.c .nilp)
  | .slice none 0 0 => some (.c .nils)
  | .nilFunc => some (.c .nilfn)
  | _ => none

def ev (s : AS) : Operand → Option AV
  | .tmp t => lk s.tm t
  | .const v => kv v
  | .global g => some (.c (.ptr (GB + g) 0))
  | .func f => some (.c (.fn f [] []))

def onV (s : AS) (x : Operand) (k : AV → Prop) : Prop := match ev s x with | some v => k v | none => False
def onC (s : AS) (x : Operand) (k : AC → Prop) : Prop := match ev s x with | some (.c v) => k v | _ => False

def rdn (cs : List AC) (o : Nat) : List AC → List AC
  | [] => []
  | z :: r => cs.getD o z :: rdn cs (o + 1) r
def wrn (cs : List AC) (o : Nat) : List AC → List AC
  | [] => cs
  | v :: r => wrn (cs.set o v) (o + 1) r

def ABlk.cells : ABlk → Option (List AC)
  | .ro cs => some cs
  | .own cs => some cs
  | .row _ _ cs => some cs
  | .mp _ => none
  | .mi _ => none
  | .si .. => none
  | .li _ => none
def ABlk.with (b : ABlk) (cs : List AC) : ABlk := match b with
  | .ro _ => .ro cs
  | .own _ => .own cs
  | .row e z _ => .row e z cs
  | .mp m => .mp m
  | .mi I => .mi I
  | .si s p => .si s p
  | .li I => .li I

def onCells (s : AS) (id : Nat) (k : ABlk → List AC → Prop) : Prop := match lk s.hp id with
  | some (.ro cs) => k (.ro cs) cs
  | some (.own cs) => k (.own cs) cs
  | some (.row e z cs) => k (.row e z cs) cs
  | _ => False

def iop (md : Bool) (op : BinOp) (kd : IntKind) (a b : Int) (k : Int → Prop) : Prop :=
  match md, op, kd with
  | true, .add, .i64 => I64 (a + b) ∧ k (a + b)
  | true, .sub, .i64 => I64 (a - b) ∧ k (a - b)
  | true, .mul, .i64 => I64 (a * b) ∧ k (a * b)
  | true, .quo, _ => (0 ≤ a ∧ 0 < b ∧ a < 2 ^ kd.bits ∧ (kd.signed = true → a < 2 ^ (kd.bits - 1))) ∧ k (a / b)
  | true, .rem, _ => (0 ≤ a ∧ 0 < b) ∧ k (a % b)
  | true, .shl, .i64 => (0 ≤ b ∧ b < 64 ∧ I64 (a * 2 ^ b.toNat)) ∧ k (a * 2 ^ b.toNat)
  | true, .shr, _ => (0 ≤ b ∧ b < kd.bits) ∧ k (a / 2 ^ b.toNat)
  | true, .and, _ => (0 ≤ a ∧ a < 9223372036854775808 ∧ 0 ≤ b ∧ b < 9223372036854775808 ∧ kd.bits = 64) ∧ k ((a.toNat &&& b.toNat : Nat) : Int)
  | true, .or, _ => (0 ≤ a ∧ a < 9223372036854775808 ∧ 0 ≤ b ∧ b < 9223372036854775808 ∧ kd.bits = 64) ∧ k ((a.toNat ||| b.toNat : Nat) : Int)
  | true, .xor, _ => (0 ≤ a ∧ a < 9223372036854775808 ∧ 0 ≤ b ∧ b < 9223372036854775808 ∧ kd.bits = 64) ∧ k ((a.toNat ^^^ b.toNat : Nat) : Int)
  | true, .andNot, _ => (0 ≤ a ∧ a < 9223372036854775808 ∧ 0 ≤ b ∧ b < 9223372036854775808 ∧ kd.bits = 64) ∧ k ((a.toNat ^^^ (a.toNat &&& b.toNat) : Nat) : Int)
  | _, .add, _ => k (kd.wrap (a + b))
  | _, .sub, _ => k (kd.wrap (a - b))
  | _, .mul, _ => k (kd.wrap (a * b))
  | _, .quo, _ => b ≠ 0 ∧ k (kd.wrap (a.tdiv b))
  | _, .rem, _ => b ≠ 0 ∧ k (a.tmod b)
  | _, .shl, _ => 0 ≤ b ∧ k (kd.wrap (a * 2 ^ (min b.toNat kd.bits)))
  | _, .shr, _ => 0 ≤ b ∧ k (a.fdiv (2 ^ (min b.toNat kd.bits)))
  | _, .and, _ => k (kd.wrap ((BitVec.ofInt kd.bits a &&& BitVec.ofInt kd.bits b).toNat))
  | _, .or, _ => k (kd.wrap ((BitVec.ofInt kd.bits a ||| BitVec.ofInt kd.bits b).toNat))
  | _, .xor, _ => k (kd.wrap ((BitVec.ofInt kd.bits a ^^^ BitVec.ofInt kd.bits b).toNat))
  | _, .andNot, _ => k (kd.wrap ((BitVec.ofInt kd.bits a &&& ~~~ BitVec.ofInt kd.bits b).toNat))
  | _, _, _ => False

def icmp (op : BinOp) (a b : Int) (k : Bool → Prop) : Prop :=
  match op with
  | .eql => k (decide (a = b))
  | .neq => k (decide (a ≠ b))
  | .lss => k (decide (a < b))
  | .leq => k (decide (a ≤ b))
  | .gtr => k (decide (b < a))
  | .geq => k (decide (b ≤ a))
  | _ => False

def eqC : AC → AC → Option Bool
  | .int k a, .int k' b => if k = k' then some (decide (a = b)) else none
  | .bool a, .bool b => some (a == b)
  | _, _ => none
def eqL : List AC → List AC → Option Bool
  | [], [] => some true
  | x :: xs, y :: ys => match eqC x y, eqL xs ys with
    | some a, some b => some (a && b)
    | _, _ => none
  | _, _ => none

def okC : AC → AC → Prop
  | .int k n, .int k' _ => k = k' ∧ k.min ≤ n ∧ n ≤ k.max
  | .bool _, .bool _ => True
  | _, _ => False
def okL : List AC → List AC → Prop
  | [], [] => True
  | x :: xs, z :: zs => okC x z ∧ okL xs zs
  | _, _ => False
def mget : List (List AC × AC) → List AC → Option AC
  | [], _ => none
  | (k, v) :: r, ks => if eqL ks k = some true then some v else mget r ks
def mset : List (List AC × AC) → List AC → AC → List (List AC × AC)
  | [], ks, v => [(ks, v)]
  | (k, w) :: r, ks, v => if eqL ks k = some true then (k, v) :: r else (k, w) :: mset r ks v
def mOk (m : List (List AC × AC)) (ks z : List AC) : Prop := okL ks z ∧ ∀ p ∈ m, okL p.1 z

def isArith : BinOp → Bool
  | .add | .sub | .mul | .quo | .rem | .and | .or | .xor | .andNot | .shl | .shr => true
  | _ => false

def eqNil (op : BinOp) (r : Bool) (k : AV → Prop) : Prop := match op with
  | .eql => k (.c (.bool r))
  | .neq => k (.c (.bool (!r)))
  | _ => False
def nilIs (op : BinOp) (x : AC) (k : AV → Prop) : Prop := match x with
  | .nils => eqNil op true k
  | .sl .. => eqNil op false k
  | .row .. => eqNil op false k
  | .rp .. => eqNil op false k
  | .rs _ _ n => 0 < n ∧ eqNil op false k
  | .tv t => 0 < t.len ∧ eqNil op false k
  | _ => False
def bin (T : Nat → Option TI) (md : Bool) (op : BinOp) (t : Nat) (x y : AV) (k : AV → Prop) : Prop :=
  match x, y with
  | .c (.int ka a), .c (.int kb b) =>
    if isArith op then lit (decide (op = .shl ∨ op = .shr ∨ ka = kb)) (iop md op ka a b (fun n => k (.c (.int ka n))))
    else lit (decide (ka = kb)) (icmp op a b (fun r => k (.c (.bool r))))
  | .c (.bool a), .c (.bool b) => lit (match T t with | some { d := .bool, .. } => true | _ => false) (match op with
    | .eql => k (.c (.bool (a == b)))
    | .neq => k (.c (.bool (a != b)))
    | _ => False)
  | .c (.str a), .c (.str b) => match op with
    | .add => ((a.size + b.size : Nat) : Int) ≤ 9223372036854775807 ∧ k (.c (.str (a ++ b)))
    | .eql => k (.c (.bool (a.toList == b.toList)))
    | .neq => k (.c (.bool (!(a.toList == b.toList))))
    | _ => False
  | .g xs, .g ys => (match T t with | some { cmp := true, zero := z, .. } => okL xs z ∧ okL ys z | _ => False) ∧ match eqL xs ys with
    | some r => (match op with
      | .eql => k (.c (.bool r))
      | .neq => k (.c (.bool (!r)))
      | _ => False)
    | none => False
  | .c x, .c .nils => (match T t with
    | some { d := .slice _, .. } => nilIs op x k
    | _ => False)
  | _, _ => False

def cellsOfV : AV → Option (List AC)
  | .c x => some [x]
  | .g cs => some cs
  | .t _ => none

def lay (s : AS) (place : Nat → Option (Nat × Nat)) (k : List AC → Prop) : List (Nat × Operand) → List AC → Prop
  | [], cs => k cs
  | (i, x) :: r, cs => match place i with
    | none => False
    | some (o, z) => onV s x fun v => match v with
      | .c c => (z = 1 ∧ o + 1 ≤ cs.length) ∧ lay s place k r (cs.set o c)
      | .g gs => (gs.length = z ∧ o + z ≤ cs.length) ∧ lay s place k r (wrn cs o gs)
      | .t _ => False

def rep (n : Nat) (z : List AC) : List AC := match n with | 0 => [] | n + 1 => z ++ rep n z

def szOf (T : Nat → Option TI) (t : Nat) : Option Nat := match T t with | some ⟨_, z, _, _, _⟩ => some z | none => none
theorem szOf_eq (T : Nat → Option TI) (t : Nat) : szOf T t = (T t).map (·.size) := by unfold szOf; cases T t <;> rfl

def bytesA : List AC → (List UInt8 → Prop) → Prop
  | [], k => k []
  | .int .u8 n :: r, k => (0 ≤ n ∧ n < 256) ∧ bytesA r fun l => k (UInt8.ofNat n.toNat :: l)
  | _, _ => False
def slLen : AC → Option Nat
  | .sl _ _ n _ => some n
  | .row _ n => some n
  | .rs _ _ n => some n
  | .rp _ _ n _ _ => some n
  | .nils => some 0
  | _ => none
def rdS (s : AS) (q : AC) (z n : Nat) (k : List AC → Prop) : Prop := match q with
  | .sl id o _ _ => onCells s id fun _ cs => o + n * z ≤ cs.length ∧ k ((cs.drop o).take (n * z))
  | .rs id o _ => onCells s id fun _ cs => o + n * z ≤ cs.length ∧ k ((cs.drop o).take (n * z))
  | .row id _ => (match lk s.hp id with
    | some (.row _ _ cs) => n * z ≤ cs.length ∧ k (cs.take (n * z))
    | _ => False)
  | .rp id o _ _ z' => (match lk s.hp id with
    | some (.row _ _ cs) => (z' = z ∧ o * z + n * z ≤ cs.length) ∧ k ((cs.drop (o * z)).take (n * z))
    | _ => False)
  | .nils => n = 0 ∧ k []
  | _ => False
def wrS (s : AS) (p : AC) (z n : Nat) (nw : List AC) (k : AS → Prop) : Prop := match p with
  | .sl id o _ _ => onCells s id fun b cs => (b.wr = true ∧ o + n * z ≤ cs.length) ∧ s.on fun tm hp nx nt k0 => k ⟨tm, up hp id (b.with (cs.take o ++ nw ++ cs.drop (o + n * z))), nx, nt, k0⟩
  | .row id _ => (match lk s.hp id with
    | some (.row e z' cs) => n * z ≤ cs.length ∧ s.on fun tm hp nx nt k0 => k ⟨tm, up hp id (.row e z' (nw ++ cs.drop (n * z))), nx, nt, k0⟩
    | _ => False)
  | .rp id o _ _ z' => (match lk s.hp id with
    | some (.row e z'' cs) => (z' = z ∧ z'' = z ∧ o * z ≤ cs.length) ∧ s.on fun tm hp nx nt k0 => k ⟨tm, up hp id (.row e z'' (cs.take (o * z) ++ nw ++ cs.drop (o * z + n * z))), nx, nt, k0⟩
    | _ => False)
  | .nils => n = 0 ∧ k s
  | _ => False
def stepA (T : Nat → Option TI) (md : Bool) (s : AS) (o : Op) (k : AV → AS → Prop) : Prop :=
  match o with
  | .move x => onV s x fun v => k v s
  | .assign x => onV s x fun v => k v s
  | .pick c a b => onC s c fun q => match q with
    | .bool q => onV s a fun va => onV s b fun vb => (match va, vb with
      | .c (.bool x), .c (.bool y) => k (.c (.bool (cond q x y))) s
      | _, _ => (q = true → k va s) ∧ (q = false → k vb s))
    | _ => False
  | .alloc e => match T e with
    | some { zero := z, .. } => s.on fun tm hp nx nt k0 => lit (decide (nx < GB)) (k (.c (.ptr nx 0)) ⟨tm, (nx, .own z) :: hp, nx + 1, nt, k0⟩)
    | none => False
  | .box _ x => onV s x fun v => match cellsOfV v with
    | some cs => s.on fun tm hp nx nt k0 => lit (decide (nx < GB)) (k (.c (.ptr nx 0)) ⟨tm, (nx, .own cs) :: hp, nx + 1, nt, k0⟩)
    | none => False
  | .build t ps => match T t with
    | some { d := .struct fs, zero := z, .. } => lay s (fun i => match fs[i]? with | some (o, ft) => (szOf T ft).map fun z => (o, z) | none => none) (fun cs => k (.g cs) s) ps.toList z
    | some { d := .arr _ e, zero := z, .. } => match szOf T e with
      | some w => lay s (fun i => some (i * w, w)) (fun cs => k (.g cs) s) ps.toList z
      | none => False
    | _ => False
  | .buildSlice t len ps => match T t with
    | some { d := .slice e, .. } => match T e with
      | some i => (s.nx < GB ∧ 0 < i.size ∧ i.zero.length = i.size ∧ len * i.size ≤ 16777216) ∧ lay s (fun j => some (j * i.size, i.size)) (fun cs => s.on fun tm hp nx nt k0 => k (.c (.sl nx 0 len (some len))) ⟨tm, (nx, .own cs) :: hp, nx + 1, nt, k0⟩) ps.toList (rep len i.zero)
      | none => False
    | _ => False
  | .load t x => onC s x fun p => match p with
    | .ptr id o => onCells s id fun _ cs => (match T t with
      | some i => (match i.agg with
        | false => match i.zero with
          | [z] => o + 1 ≤ cs.length ∧ k (.c (cs.getD o z)) s
          | _ => False
        | true => if i.size ≤ 6 then (o + i.size ≤ cs.length ∧ i.zero.length = i.size) ∧ k (.g (rdn cs o i.zero)) s
          else (match o with
            | 0 => cs.length = i.size ∧ k (.g cs) s
            | o + 1 => (o + 1) + i.size ≤ cs.length ∧ k (.g ((cs.drop (o + 1)).take i.size)) s))
      | none => False)
    | .tp q o => (match T t with
      | some i => (match i.agg with
        | false => (match i.zero with
          | [z] => o + 1 ≤ q.cs.length ∧ k (.c (q.cs.getD o z)) s
          | _ => False)
        | true => o + i.size ≤ q.cs.length ∧ k (.g ((q.cs.drop o).take i.size)) s)
      | none => False)
    | _ => False
  | .store t x y => onC s x fun p => onV s y fun v => match p with
    | .ptr id o => onCells s id fun b cs => b.wr = true ∧ match T t with
      | some i => (match v with
        | .c c => (i.size = 1 ∧ o + 1 ≤ cs.length) ∧ s.on fun tm hp nx nt k0 => k (.t []) ⟨tm, up hp id (b.with (cs.set o c)), nx, nt, k0⟩
        | .g gs => if i.size ≤ 6 then (gs.length = i.size ∧ o + i.size ≤ cs.length) ∧ s.on fun tm hp nx nt k0 => k (.t []) ⟨tm, up hp id (b.with (wrn cs o gs)), nx, nt, k0⟩
          else (match o with
            | 0 => (gs.length = i.size ∧ cs.length = i.size) ∧ s.on fun tm hp nx nt k0 => k (.t []) ⟨tm, up hp id (b.with gs), nx, nt, k0⟩
            | o + 1 => (gs.length = i.size ∧ (o + 1) + i.size ≤ cs.length) ∧ s.on fun tm hp nx nt k0 => k (.t []) ⟨tm, up hp id (b.with (cs.take (o + 1) ++ gs ++ cs.drop ((o + 1) + i.size))), nx, nt, k0⟩)
        | .t _ => False)
      | none => False
    | _ => False
  | .nilCheck x => onC s x fun p => match p with
    | .ptr id o => k (.c (.ptr id o)) s
    | .fn f a b => k (.c (.fn f a b)) s
    | _ => False
  | .binOp op t x y _ => onV s x fun a => onV s y fun b => bin T md op t a b (fun r => k r s)
  | .unOp op _ x => onC s x fun v => match op, v with
    | .not, .bool b => k (.c (.bool (!b))) s
    | .neg, .int kd n => iop md .sub kd 0 n fun r => k (.c (.int kd r)) s
    | _, _ => False
  | .convert src dst x => onC s x fun v => match T src, T dst, v with
    | some _, some { d := .int kd, .. }, .int _ n => k (.c (.int kd (kd.wrap n))) s
    | some { d := .slice e, .. }, some { d := .str, .. }, .sl id o len _ => (match T e with
      | some { d := .int .u8, .. } => onCells s id fun _ cs => o + len ≤ cs.length ∧ bytesA ((cs.drop o).take len) fun l => k (.c (.str ⟨l.toArray⟩)) s
      | _ => False)
    | some { d := .slice e, .. }, some { d := .str, .. }, .row id len => (match T e, lk s.hp id with
      | some { d := .int .u8, .. }, some (.row _ _ cs) => len ≤ cs.length ∧ bytesA (cs.take len) fun l => k (.c (.str ⟨l.toArray⟩)) s
      | _, _ => False)
    | some { d := .slice e, .. }, some { d := .str, .. }, .nils => (match T e with
      | some { d := .int .u8, .. } => k (.c (.str ⟨#[]⟩)) s
      | _ => False)
    | _, _, _ => False
  | .makeSlice t x y => onC s x fun p => onC s y fun q => match p, q, T t with
    | .int _ l, .int _ c, some { d := .slice e, .. } => (match T e with
      | some i => (s.nx < GB ∧ 0 < i.size ∧ i.zero.length = i.size ∧ 0 ≤ l ∧ l = c ∧ (i.bytes : Int) * c ≤ 281474976710656 ∧ c ≤ 9223372036854775807) ∧
          s.on fun tm hp nx nt k0 => k (.c (.sl nx 0 l.toNat (some c.toNat))) ⟨tm, (nx, .own (rep c.toNat i.zero)) :: hp, nx + 1, nt, k0⟩
      | none => False)
    | _, _, _ => False
  | .makeFunc (.func f) fs cs => fnOps s fs.toList fun fl => fnOps s cs.toList fun cl => k (.c (.fn f fl cl)) s
  | .fieldAddr t x f => onC s x fun p => match p, T t with
    | .ptr id o, some { d := .struct fs, .. } => (match fs[f]? with
      | some (fo, ft) => lit (match szOf T ft with | some (_ + 1) => true | _ => false) (k (.c (.ptr id (o + fo))) s)
      | none => False)
    | _, _ => False
  | .indexAddr t x y => onC s x fun p => onC s y fun q => match p, q, T t with
    | .ptr id o, .int _ i, some { d := .arr n e, .. } => (match szOf T e with
      | some z => (0 ≤ i ∧ i < n) ∧ k (.c (.ptr id (o + i.toNat * z))) s
      | none => False)
    | .sl id o len _, .int _ i, some { d := .slice e, .. } => (match szOf T e with
      | some z => (0 ≤ i ∧ i < len) ∧ k (.c (.ptr id (o + i.toNat * z))) s
      | none => False)
    | .row id len, .int _ i, some { d := .slice e, .. } => (match lk s.hp id, szOf T e with
      | some (.row ..), some z => (0 ≤ i ∧ i < len) ∧ k (.c (.ptr id (i.toNat * z))) s
      | _, _ => False)
    | .rs id o len, .int _ i, some { d := .slice e, .. } => (match szOf T e with
      | some z => (0 ≤ i ∧ i < len) ∧ k (.c (.ptr id (o + i.toNat * z))) s
      | none => False)
    | .tv q, .int _ i, some { d := .slice e, .. } => (match szOf T e with
      | some z => (q.z = z ∧ 0 ≤ i ∧ i < q.len) ∧ k (.c (.tp q (i.toNat * z))) s
      | none => False)
    | _, _, _ => False
  | .index t x y => onV s x fun p => onC s y fun q => match p, q, T t with
    | .g cs, .int _ i, some { d := .arr n e, .. } => (match T e with
      | some { size := 1, zero := [z], d := ed, .. } => (TI.agg ⟨ed, 1, 0, [], false⟩ = false ∧ 0 ≤ i ∧ i < n ∧ i.toNat < cs.length) ∧ k (.c (cs.getD i.toNat z)) s
      | _ => False)
    | .c (.str b), .int _ i, some { d := .str, .. } => (0 ≤ i ∧ i < b.size) ∧ k (.c (.int .u8 ((b.data.toList.getD i.toNat 0).toNat : Int))) s
    | _, _, _ => False
  | .field t x f => onV s x fun p => match p, T t with
    | .g cs, some { d := .struct fs, .. } => (match fs[f]? with
      | some (o, ft) => (match T ft with
        | some i => (match i.agg with
          | false => match i.zero with
            | [z] => o + 1 ≤ cs.length ∧ k (.c (cs.getD o z)) s
            | _ => False
          | true => o + i.size ≤ cs.length ∧ k (.g ((cs.drop o).take i.size)) s)
        | none => False)
      | none => False)
    | _, _ => False
  | .extract x i => onV s x fun v => match v with
    | .t es => (match es[i]? with | some e => k e.v s | none => False)
    | _ => False
  | .range t x => onC s x fun p => match p, T t with
    | .str b, some { d := .str, .. } => s.on fun tm hp nx nt k0 => lit (decide (nx < GB)) (k (.c (.ptr nx 0)) ⟨tm, (nx, .si b 0) :: hp, nx + 1, nt, k0⟩)
    | _, _ => False
  | .next x true => onC s x fun p => match p with
    | .ptr id 0 => (match lk s.hp id with
      | some (.si b p) => (p < b.size → s.on fun tm hp nx nt k0 => k (.t [.c (.bool true), .c (.int .i64 p), .c (.int .i32 ((Utf8.decode b p).1 : Nat))]) ⟨tm, up hp id (.si b (p + (Utf8.decode b p).2)), nx, nt, k0⟩) ∧ (¬ p < b.size → k (.t [.c (.bool false)]) s)
      | _ => False)
    | _ => False
  | .makeMap _ none => s.on fun tm hp nx nt k0 => lit (decide (nx < GB)) (k (.c (.map nx)) ⟨tm, (nx, .mp []) :: hp, nx + 1, nt, k0⟩)
  | .lookup t x y ok => onC s x fun p => onV s y fun q => match p, q, T t with
    | .map id, .g ks, some { d := .map ke el, .. } => (match lk s.hp id, T ke, T el with
      | some (.mp m), some { cmp := true, zero := z, .. }, some { d := ed, zero := [z0], .. } =>
        (TI.agg ⟨ed, 1, 0, [], false⟩ = false ∧ mOk m ks z) ∧ (match ok with
          | true => k (.t [.c ((mget m ks).getD z0), .c (.bool (mget m ks).isSome)]) s
          | false => k (.c ((mget m ks).getD z0)) s)
      | _, _, _ => False)
    | _, _, _ => False
  | .mapUpdate t x y v => onC s x fun p => onV s y fun q => onC s v fun u => match p, q, T t with
    | .map id, .g ks, some { d := .map ke _, .. } => (match lk s.hp id, T ke with
      | some (.mp m), some { cmp := true, zero := z, .. } => mOk m ks z ∧ s.on fun tm hp nx nt k0 => k (.t []) ⟨tm, up hp id (.mp (mset m ks u)), nx, nt, k0⟩
      | some (.mi I), some { cmp := true, zero := z, .. } => (u.prim = true ∧ ∀ m, I m → mOk m ks z ∧ I (mset m ks u)) ∧ k (.t []) s
      | _, _ => False)
    | _, _, _ => False
  | .slice t x lo hi none => onC s x fun p => onO s lo fun lo => onO s hi fun hi => match p, T t with
    | .sl id o len cap, some { d := .slice e, .. } => (match szOf T e with
      | some z => subS o len cap z lo hi fun o' n' c' => k (.c (.sl id o' n' c')) s
      | none => False)
    | .nils, some { d := .slice e, .. } => (match szOf T e with
      | some _ => (lo.getD 0 = 0 ∧ hi.getD 0 = 0) ∧ k (.c .nils) s
      | none => False)
    | .row id len, some { d := .slice e, .. } => (match lk s.hp id, szOf T e with
      | some (.row ..), some z => subS 0 len none z lo hi fun o' n' c' => k (.c (.sl id o' n' c')) s
      | _, _ => False)
    | .ptr id o, some { d := .arr n e, .. } => (match szOf T e with
      | some z => subS o n (some n) z lo hi fun o' n' c' => k (.c (.sl id o' n' c')) s
      | none => False)
    | .str b, some { d := .str, .. } => (0 ≤ lo.getD 0 ∧ lo.getD 0 ≤ hi.getD b.size ∧ hi.getD b.size ≤ b.size) ∧ k (.c (.str (b.extract (lo.getD 0).toNat (hi.getD b.size).toNat))) s
    | .rs id o len, some { d := .slice e, .. } => (match szOf T e with
      | some z => subS o len none z lo hi fun o' n' _ => k (.c (.rs id o' n')) s
      | none => False)
    | .rp id o len c z, some { d := .slice e, .. } => (match szOf T e with
      | some z' => (z' = z ∧ 0 ≤ lo.getD 0 ∧ lo.getD 0 ≤ hi.getD len ∧ hi.getD len ≤ c) ∧
          ((lo.getD 0 = 0 ∨ lo.getD 0 < c) → k (.c (.rp id (o + (lo.getD 0).toNat) ((hi.getD len).toNat - (lo.getD 0).toNat) (c - (lo.getD 0).toNat) z)) s) ∧
          (¬ (lo.getD 0 = 0 ∨ lo.getD 0 < c) → k (.c (.sl id 0 0 (some 0))) s)
      | none => False)
    | _, _ => False
  | .slice t x lo (some hi) (some mx) => onC s x fun p => onO s lo fun lo => onC s hi fun h => onC s mx fun q => match p, h, q, T t with
    | .sl id o len (some c), .int _ h, .int _ m, some { d := .slice e, .. } => (match szOf T e with
      | some z => (0 ≤ lo.getD 0 ∧ lo.getD 0 ≤ h ∧ h ≤ m ∧ m ≤ c ∧ (h = lo.getD 0 ∨ 0 < len)) ∧ k (.c (.sl id (o + (lo.getD 0).toNat * z) (h.toNat - (lo.getD 0).toNat) (some (m.toNat - (lo.getD 0).toNat)))) s
      | none => False)
    | .row id len, .int _ h, .int _ m, some { d := .slice e, .. } => (match lk s.hp id, szOf T e with
      | some (.row ..), some z => (0 ≤ lo.getD 0 ∧ lo.getD 0 ≤ h ∧ h ≤ m ∧ m ≤ len) ∧ k (.c (.sl id ((lo.getD 0).toNat * z) (h.toNat - (lo.getD 0).toNat) (some (m.toNat - (lo.getD 0).toNat)))) s
      | _, _ => False)
    | .rs id o len, .int _ h, .int _ m, some { d := .slice e, .. } => (match szOf T e with
      | some z => (0 ≤ lo.getD 0 ∧ lo.getD 0 ≤ h ∧ h ≤ m ∧ m ≤ len ∧ 0 < len) ∧ k (.c (.sl id (o + (lo.getD 0).toNat * z) (h.toNat - (lo.getD 0).toNat) (some (m.toNat - (lo.getD 0).toNat)))) s
      | none => False)
    | .rp id o len c z, .int _ h, .int _ m, some { d := .slice e, .. } => (match lk s.hp id, szOf T e with
      | some (.row ..), some z' => (z' = z ∧ o = 0 ∧ 0 ≤ lo.getD 0 ∧ lo.getD 0 ≤ h ∧ h ≤ m ∧ m ≤ c) ∧ k (.c (.sl id ((lo.getD 0).toNat * z) (h.toNat - (lo.getD 0).toNat) (some (m.toNat - (lo.getD 0).toNat)))) s
      | _, _ => False)
    | _, _, _, _ => False
  | .call c => match c.callee, c.args.toList, c.argTypes.toList with
   | .builtin .len, [x], [t] => onV s x fun p => match p, T t with
    | .c (.sl _ _ n _), some { d := .slice _, .. } => k (.c (.int .i64 n)) s
    | .c (.row _ n), some { d := .slice _, .. } => k (.c (.int .i64 n)) s
    | .c .nils, some { d := .slice _, .. } => k (.c (.int .i64 0)) s
    | .c (.str b), some { d := .str, .. } => k (.c (.int .i64 b.size)) s
    | .c (.rs _ _ n), some { d := .slice _, .. } => k (.c (.int .i64 n)) s
    | .c (.rp _ _ n _ _), some { d := .slice _, .. } => k (.c (.int .i64 n)) s
    | .c (.tv q), some { d := .slice _, .. } => k (.c (.int .i64 q.len)) s
    | _, _ => False
   | .builtin .cap, [x], [t] => onC s x fun p => match p, T t with
    | .rp _ _ _ c _, some { d := .slice _, .. } => k (.c (.int .i64 c)) s
    | .sl _ _ _ (some c), some { d := .slice _, .. } => k (.c (.int .i64 c)) s
    | _, _ => False
   | .builtin .copy, [x, y], [t, _] => onC s x fun p => onC s y fun q => match T t, slLen p, slLen q with
    | some { d := .slice e, .. }, some dl, some sl => (match T e with
      | some i => 0 < i.size ∧ rdS s q i.size (min sl dl) fun nw => wrS s p i.size (min sl dl) nw fun s' => k (.c (.int .i64 ((min sl dl : Nat) : Int))) s'
      | none => False)
    | _, _, _ => False
   | .builtin .clear, [x], [t] => onC s x fun p => match T t, slLen p with
    | some { d := .slice e, .. }, some n => (match T e with
      | some i => (0 < i.size ∧ i.zero.length = i.size) ∧ wrS s p i.size n (rep n i.zero) fun s' => k (.t []) s'
      | none => False)
    | _, _ => False
   | .builtin .min, [x, y], _ => onC s x fun a => onC s y fun b => match a, b with
    | .int k1 a, .int k2 b => k1 = k2 ∧ k (.c (.int k1 (min a b))) s
    | _, _ => False
   | .builtin .max, [x, y], _ => onC s x fun a => onC s y fun b => match a, b with
    | .int k1 a, .int k2 b => k1 = k2 ∧ k (.c (.int k1 (max a b))) s
    | _, _ => False
   | .builtin .append, [x, y], [t, t'] => match T t' with
    | some { d := .int _, .. } => onC s x fun p => onC s y fun q => match p, q, T t with
      | .rp id o len c z, .int _ n, some { d := .slice e, .. } => (match T e, lk s.hp id with
        | some i, some (.row _ _ cs) => (s.nx < GB ∧ 0 < i.size ∧ z = i.size ∧ i.zero.length = i.size ∧ 0 < n ∧ c < len + n.toNat ∧ o * z + len * z ≤ cs.length ∧ ((len + n.toNat : Nat) : Int) * i.bytes ≤ 140737488355328 ∧ len + n.toNat ≤ 9223372036854775807) ∧
            s.on fun tm hp nx nt k0 => k (.c (.row nx (len + n.toNat))) ⟨tm, (nx, .row e i.size ((cs.drop (o * z)).take (len * z) ++ rep n.toNat i.zero)) :: hp, nx + 1, nt, k0⟩
        | _, _ => False)
      | _, _, _ => False
    | _ => t = t' ∧ onC s x fun p => onC s y fun q => match T t with
    | some { d := .slice e, .. } => (match T e with
      | some i => (0 < i.size ∧ i.zero.length = i.size) ∧ newsOf s q i.size fun m nw =>
        (match p with
        | .nils => (s.nx < GB ∧ (m : Int) * i.bytes ≤ 140737488355328 ∧ m ≤ 9223372036854775807) ∧ (m = 0 → k (.c .nils) s) ∧ (0 < m → s.on fun tm hp nx nt k0 => k (.c (.row nx m)) ⟨tm, (nx, .row e i.size nw) :: hp, nx + 1, nt, k0⟩)
        | .row id len => (match lk s.hp id with
          | some (.row e' z cs) => (s.nx < GB ∧ e' = e ∧ z = i.size ∧ cs.length = len * z ∧ ((len + m : Nat) : Int) * i.bytes ≤ 140737488355328 ∧ len + m ≤ 9223372036854775807) ∧
              s.on fun tm hp nx nt k0 => k (.c (.row nx (len + m))) ⟨tm, (nx, .row e z (cs ++ nw)) :: del hp id, nx + 1, nt, k0⟩
          | _ => False)
        | .sl id o len (some c) => onCells s id fun _ cs => (s.nx < GB ∧ c < len + m ∧ o + len * i.size ≤ cs.length ∧ ((len + m : Nat) : Int) * i.bytes ≤ 140737488355328 ∧ len + m ≤ 9223372036854775807) ∧
            s.on fun tm hp nx nt k0 => k (.c (.row nx (len + m))) ⟨tm, (nx, .row e i.size ((cs.drop o).take (len * i.size) ++ nw)) :: hp, nx + 1, nt, k0⟩
        | .rp id o len c z => (match lk s.hp id with
          | some (.row e' z' cs) => (e' = e ∧ z' = i.size ∧ z = i.size ∧ o * z + len * z ≤ cs.length) ∧
              (len + m ≤ c → s.on fun tm hp nx nt k0 => k (.c (.rp id o (len + m) c z)) ⟨tm, up hp id (.row e z (cs.take (o * z + len * z) ++ nw ++ cs.drop (o * z + len * z + m * z))), nx, nt, k0⟩) ∧
              (c < len + m → (s.nx < GB ∧ ((len + m : Nat) : Int) * i.bytes ≤ 140737488355328 ∧ len + m ≤ 9223372036854775807) ∧ s.on fun tm hp nx nt k0 => k (.c (.row nx (len + m))) ⟨tm, (nx, .row e i.size ((cs.drop (o * z)).take (len * z) ++ nw)) :: hp, nx + 1, nt, k0⟩)
          | _ => False)
        | _ => False)
      | none => False)
    | _ => False
   | _, _, _ => False
  | _ => False
  where
  fnOps (s : AS) : List Operand → (List Nat → Prop) → Prop
    | [], k => k []
    | x :: r, k => onC s x fun p => match p with
      | .ptr id 0 => fnOps s r fun l => k (id :: l)
      | _ => False
  onO (s : AS) (x : Option Operand) (k : Option Int → Prop) : Prop := match x with
    | none => k none
    | some x => onC s x fun p => match p with
      | .int _ n => k (some n)
      | _ => False
  subS (o len : Nat) (cap : Option Nat) (z : Nat) (lo hi : Option Int) (k : Nat → Nat → Option Nat → Prop) : Prop :=
    (0 ≤ lo.getD 0 ∧ lo.getD 0 ≤ hi.getD len ∧ (hi.getD len ≤ len ∨ ∃ c, cap = some c ∧ hi.getD len ≤ c ∧ 0 < len)) ∧
      k (o + (lo.getD 0).toNat * z) ((hi.getD len).toNat - (lo.getD 0).toNat) (cap.map (· - (lo.getD 0).toNat))
  newsOf (s : AS) (q : AC) (z : Nat) (k : Nat → List AC → Prop) : Prop := match q with
    | .sl id o len _ => onCells s id fun _ cs => o + len * z ≤ cs.length ∧ k len ((cs.drop o).take (len * z))
    | .row id len => (match lk s.hp id with
      | some (.row _ _ cs) => len * z ≤ cs.length ∧ k len (cs.take (len * z))
      | _ => False)
    | .nils => k 0 []
    | .rs id o len => onCells s id fun _ cs => o + len * z ≤ cs.length ∧ k len ((cs.drop o).take (len * z))
    | .rp id o len _ z' => (match lk s.hp id with
      | some (.row _ _ cs) => (z' = z ∧ o * z + len * z ≤ cs.length) ∧ k len ((cs.drop (o * z)).take (len * z))
      | _ => False)
    | .tv t => t.z = z ∧ k t.len t.cs
    | _ => False

end Go.AH

/-
  Flat keys: structs and arrays of numbers and bools, compared and kept in maps.
-/
namespace Go.AH
open Go.RowKit

structure EqLaw (P : Program) (t : TypeId) (z : List AC) : Prop where
  guard : P.eqGuardType P.depth t = false
  key : WideMaps.KeyLaw P t
  wide : (match P.underlying t with | some (.array _ _) | some (.struct _) => true | _ => false) = true
  equal : ∀ (w : World) {x y : Value} {lx ly : Lit}, keyOf P t x = some lx → keyOf P t y = some ly → ∃ r : Bool, (Op.equal t x y).run P w = .ok r w ∧ (r = true ↔ lx = ly)
  lits : ∀ (xs : List AC) (vs : Array Value) (R : Ren), okL xs z → vs.size = xs.length → conL R xs vs 0 → ∃ l, keyOf P t (.agg vs) = some l

theorem okL_get : ∀ {xs zs : List AC}, okL xs zs → xs.length = zs.length ∧ ∀ (i : Nat) (x : AC), xs[i]? = some x → ∃ z, zs[i]? = some z ∧ okC x z
  | [], [], _ => ⟨rfl, fun i x h => by simp at h⟩
  | x :: xs, z :: zs, h => by
    obtain ⟨h1, h2⟩ := okL_get h.2
    refine ⟨by simp [h1], fun i y hi => ?_⟩
    cases i with
    | zero => simp at hi; subst hi; exact ⟨z, rfl, h.1⟩
    | succ i => simp at hi; obtain ⟨z', a, b⟩ := h2 i y hi; exact ⟨z', by simpa using a, b⟩
  | [], _ :: _, h => h.elim
  | _ :: _, [], h => h.elim
theorem okL_of : ∀ {xs zs : List AC}, xs.length = zs.length → (∀ (i : Nat) (x z : AC), xs[i]? = some x → zs[i]? = some z → okC x z) → okL xs zs
  | [], [], _, _ => trivial
  | x :: xs, z :: zs, h, hh => ⟨hh 0 x z rfl rfl, okL_of (by simpa using h) fun i x z a b => hh (i + 1) x z (by simpa using a) (by simpa using b)⟩
  | [], _ :: _, h, _ => by simp at h
  | _ :: _, [], h, _ => by simp at h
theorem okL_app {a b c d : List AC} (h : okL (a ++ b) (c ++ d)) (hl : a.length = c.length) : okL a c ∧ okL b d := by
  obtain ⟨h1, h2⟩ := okL_get h
  simp at h1
  refine ⟨okL_of hl fun i x z hi hz => ?_, okL_of (by omega) fun i x z hi hz => ?_⟩
  · have hlt := (List.getElem?_eq_some_iff.1 hi).1
    obtain ⟨z', e1, e2⟩ := h2 i x (by rw [List.getElem?_append_left hlt]; exact hi)
    rw [List.getElem?_append_left (by omega), hz] at e1
    injection e1 with e1; exact e1 ▸ e2
  · obtain ⟨z', e1, e2⟩ := h2 (a.length + i) x (by rw [List.getElem?_append_right (by omega)]; simpa using hi)
    rw [List.getElem?_append_right (by omega), show a.length + i - c.length = i by omega, hz] at e1
    injection e1 with e1; exact e1 ▸ e2

theorem okC.val {x z : AC} (h : okC x z) {R R' : Ren} {u v : Value} (hu : conC R x u) (hv : conC R' x v) : u = v := by
  cases x <;> cases z <;> simp only [okC] at h <;> (simp only [conC] at hu hv; rw [hu, hv])
theorem okC.inj {x y z : AC} (hx : okC x z) (hy : okC y z) {R R' : Ren} {u : Value} (hu : conC R x u) (hv : conC R' y u) : x = y := by
  cases x <;> cases z <;> simp only [okC] at hx <;> cases y <;> simp only [okC] at hy <;> (simp only [conC] at hu hv; rw [hu] at hv)
  · injection hv with e1 e2; rw [e1, e2]
  · injection hv with e1; rw [e1]
theorem okL.vals {xs z : List AC} (h : okL xs z) {R R' : Ren} {us vs : Array Value} (h1 : us.size = xs.length) (h2 : vs.size = xs.length) (hu : conL R xs us 0) (hv : conL R' xs vs 0) : us = vs := by
  obtain ⟨_, hg⟩ := okL_get h
  refine Array.ext (by omega) fun i hi hi' => ?_
  have hx : xs[i]? = some xs[i] := List.getElem?_eq_getElem (by omega)
  obtain ⟨z', _, ok⟩ := hg i _ hx
  obtain ⟨u, a, b⟩ := hu i _ hx
  obtain ⟨v, c, d⟩ := hv i _ hx
  rw [Nat.zero_add] at a c
  rw [Array.getElem?_eq_getElem hi] at a
  rw [Array.getElem?_eq_getElem hi'] at c
  injection a with a; injection c with c
  rw [a, c]; exact ok.val b d
theorem okL.inj {xs ys z : List AC} (hx : okL xs z) (hy : okL ys z) {R R' : Ren} {us : Array Value} (hu : conL R xs us 0) (hv : conL R' ys us 0) : xs = ys := by
  obtain ⟨l1, g1⟩ := okL_get hx
  obtain ⟨l2, g2⟩ := okL_get hy
  refine List.ext_getElem? fun i => ?_
  by_cases hi : i < xs.length
  · have e1 : xs[i]? = some xs[i] := List.getElem?_eq_getElem hi
    have e2 : ys[i]? = some (ys[i]'(by omega)) := List.getElem?_eq_getElem (by omega)
    obtain ⟨z1, a1, o1⟩ := g1 i _ e1
    obtain ⟨z2, a2, o2⟩ := g2 i _ e2
    rw [a1] at a2; injection a2 with a2; subst a2
    obtain ⟨u, b1, c1⟩ := hu i _ e1
    obtain ⟨v, b2, c2⟩ := hv i _ e2
    rw [b1] at b2; injection b2 with b2; subst b2
    rw [e1, e2, o1.inj o2 c1 c2]
  · rw [List.getElem?_eq_none (by omega), List.getElem?_eq_none (by omega)]
theorem eqL_ok : ∀ {xs ys z : List AC}, okL xs z → okL ys z → ∃ r, eqL xs ys = some r ∧ (r = true ↔ xs = ys)
  | [], [], [], _, _ => ⟨true, rfl, by simp⟩
  | x :: xs, y :: ys, z :: zs, hx, hy => by
    obtain ⟨r, h1, h2⟩ := eqL_ok hx.2 hy.2
    have hc : ∃ q, eqC x y = some q ∧ (q = true ↔ x = y) := by
      have a := hx.1
      have b := hy.1
      cases x <;> cases z <;> simp only [okC] at a <;> cases y <;> simp only [okC] at b
      · obtain ⟨rfl, _⟩ := a; obtain ⟨rfl, _⟩ := b
        exact ⟨_, by simp [eqC]; rfl, by simp⟩
      · exact ⟨_, rfl, by simp⟩
    obtain ⟨q, h3, h4⟩ := hc
    exact ⟨q && r, by simp [eqL, h1, h3], by simp [h2, h4]⟩
  | [], y :: ys, z, hx, hy => by cases z <;> simp [okL] at hx hy
  | x :: xs, [], z, hx, hy => by cases z <;> simp [okL] at hx hy
  | [], [], z :: zs, hx, _ => hx.elim
  | x :: xs, y :: ys, [], hx, _ => hx.elim

variable {P : Program} {w : World} {t : TypeId} {z : List AC}

theorem EqLaw.run (h : EqLaw P t z) {xs ys : List AC} {vs us : Array Value} {R R' : Ren} {r : Bool} (hr : eqL xs ys = some r) (hx : okL xs z) (hy : okL ys z) (h1 : vs.size = xs.length) (h2 : us.size = ys.length)
    (h3 : conL R xs vs 0) (h4 : conL R' ys us 0) : (Op.equal t (.agg vs) (.agg us)).run P w = .ok r w := by
  obtain ⟨lx, k1⟩ := h.lits xs vs R hx h1 h3
  obtain ⟨ly, k2⟩ := h.lits ys us R' hy h2 h4
  obtain ⟨r', e1, e2⟩ := h.equal w k1 k2
  obtain ⟨r'', e3, e4⟩ := eqL_ok hx hy
  rw [hr] at e3; injection e3 with e3; subst e3
  have : r' = r := by
    rw [Bool.eq_iff_iff, e2, e4]
    constructor
    · rintro rfl
      have := h.key.inj k1 k2
      injection this with this; subst this
      exact hx.inj hy h3 h4
    · rintro rfl
      have := hx.vals h1 h2 h3 h4
      subst this
      rw [k1] at k2; injection k2
  rw [e1, this]

def entOk (R : Ren) (p : List AC × AC) (e : MapEntry) : Prop := (∃ vs : Array Value, e.key = .agg vs ∧ vs.size = p.1.length ∧ conL R p.1 vs 0) ∧ conC R p.2 e.val
theorem findAsking_sound (h : EqLaw P t z) {R : Ren} {ks : List AC} {vs : Array Value} (hk : okL ks z) (h1 : vs.size = ks.length) (h3 : conL R ks vs 0) : ∀ (m : List (List AC × AC)) (es : List MapEntry) (i0 : Nat), es.length = m.length →
    (∀ (i : Nat) (p : List AC × AC) (e : MapEntry), m[i]? = some p → es[i]? = some e → entOk R p e) → (∀ p ∈ m, okL p.1 z) →
    (mget m ks = none ∧ (Instr.findAsking t (.agg vs) es i0).run P w = .ok none w ∧ ∀ u, mset m ks u = m ++ [(ks, u)]) ∨
    ∃ j e v, (Instr.findAsking t (.agg vs) es i0).run P w = .ok (some (i0 + j, e.val)) w ∧ es[j]? = some e ∧ e.key = .agg vs ∧ mget m ks = some v ∧ conC R v e.val ∧ ∀ u, mset m ks u = m.set j (ks, u)
  | [], [], i0, _, _, _ => .inl ⟨rfl, by simp [Instr.findAsking], fun u => rfl⟩
  | (k, v) :: m, e :: es, i0, hl, hh, ho => by
    obtain ⟨⟨us, g1, g2, g3⟩, g4⟩ := hh 0 (k, v) e rfl rfl
    have hok := ho (k, v) (by simp)
    obtain ⟨r, e1, e2⟩ := eqL_ok hk hok
    have hrun := h.run (w := w) e1 hk hok h1 g2 h3 g3
    rw [← g1] at hrun
    cases r with
    | true =>
      have ek : ks = k := e2.1 rfl
      subst ek
      refine .inr ⟨0, e, v, by simp [Instr.findAsking, hrun], rfl, ?_, by simp [mget, e1], g4, fun u => by simp [mset, e1]⟩
      rw [g1, hk.vals g2 h1 g3 h3]
    | false =>
      rcases findAsking_sound h hk h1 h3 m es (i0 + 1) (by simpa using hl) (fun i p e a b => hh (i + 1) p e (by simpa using a) (by simpa using b)) (fun p hp => ho p (by simp [hp])) with ⟨a1, a2, a3⟩ | ⟨j, e', v', a1, a2, a3, a4, a5, a6⟩
      · exact .inl ⟨by simp [mget, e1, a1], by simp [Instr.findAsking, hrun, a2], fun u => by simp [mset, e1, a3]⟩
      · exact .inr ⟨j + 1, e', v', by simp [Instr.findAsking, hrun, a1, Nat.add_assoc, Nat.add_comm 1 j], by simpa using a2, a3, by simp [mget, e1, a4], a5, fun u => by simp [mset, e1, a6]⟩
  | [], e :: es, _, hl, _, _ => by simp at hl
  | p :: m, [], _, hl, _, _ => by simp at hl

/-! ### The law, held against the program by the kernel -/
def kindsF (P : Program) (k : TypeId → Option (List AC)) : Nat → List Field → Option (List AC)
  | _, [] => some []
  | off, f :: r => if f.offset = off ∧ (f.name != "_") = true then match k f.type with
    | some z => if z.length = P.cellsOf f.type then (kindsF P k (off + z.length) r).map (z ++ ·) else none
    | none => none
    else none
def kindsAt (P : Program) : Nat → TypeId → Option (List AC)
  | 0, _ => none
  | d + 1, t => match P.underlying t with
    | some .bool => some [.bool false]
    | some (.int q) => some [.int q 0]
    | some (.array n e) => (match kindsAt P d e with
      | some z => if z.length = P.cellsOf e ∧ n * z.length = P.cellsOf t then some (rep n z) else none
      | none => none)
    | some (.struct fs) => (match kindsF P (kindsAt P d) 0 fs.toList with
      | some z => if z.length = P.cellsOf t ∧ fs.all (·.name != "_") = true then some z else none
      | none => none)
    | _ => none

theorem lits_of_con {P : Program} : ∀ (D : Nat) (t : TypeId) (zs xs : List AC) (cs : List Value) (R : Ren), kindsAt P D t = some zs → okL xs zs → cs.length = xs.length →
    (∀ (i : Nat) (x : AC), xs[i]? = some x → ∃ v, cs[i]? = some v ∧ conC R x v) → ∃ L, P.keyLits D t cs = some L
  | 0, _, _, _, _, _, h, _, _, _ => by simp [kindsAt] at h
  | D + 1, t, zs, xs, cs, R, h, ho, hl, hc => by
    unfold kindsAt at h
    unfold Program.keyLits
    split at h <;> first | (cases h; done) | skip
    · rename_i hu
      injection h with h; subst h
      rcases xs with _ | ⟨x, _ | ⟨y, xs⟩⟩ <;> simp only [okL, and_true, and_false] at ho
      cases x <;> simp only [okC] at ho
      rcases cs with _ | ⟨v, _ | ⟨v2, cs⟩⟩ <;> simp at hl
      obtain ⟨u, h1, h2⟩ := hc 0 _ rfl
      simp at h1; subst h1
      simp only [conC] at h2; subst h2
      exact ⟨[.bool _], by simp only [hu]; rfl⟩
    · rename_i q hu
      injection h with h; subst h
      rcases xs with _ | ⟨x, _ | ⟨y, xs⟩⟩ <;> simp only [okL, and_true, and_false] at ho
      cases x <;> simp only [okC] at ho
      rcases cs with _ | ⟨v, _ | ⟨v2, cs⟩⟩ <;> simp at hl
      obtain ⟨u, h1, h2⟩ := hc 0 _ rfl
      simp at h1; subst h1
      simp only [conC] at h2; subst h2
      obtain ⟨rfl, h3, h4⟩ := ho
      exact ⟨[.int _ _], by simp only [hu]; exact if_pos ⟨trivial, by simp [Lit.wf, h3, h4]⟩⟩
    · rename_i n e hu
      split at h <;> first | (cases h; done) | skip
      rename_i z hz
      split at h <;> first | (cases h; done) | skip
      rename_i hh
      obtain ⟨hz1, hz2⟩ := hh
      injection h with h; subst h
      have hlen := (okL_get ho).1
      have hrl : ∀ n, (rep n z).length = n * z.length := by
        intro n
        induction n with
        | zero => simp [rep]
        | succ n ih => simp [rep, ih, Nat.succ_mul, Nat.add_comm]
      have hrl := hrl n
      simp only [hu]
      rw [if_pos (by omega)]
      have key : ∀ (n : Nat) (k0 : Nat) (xs : List AC) (cs : List Value), okL xs (rep n z) → cs.length = xs.length → (∀ (i : Nat) (x : AC), xs[i]? = some x → ∃ v, cs[i]? = some v ∧ conC R x v) →
          ∃ L, ((List.range' k0 n).mapM fun i => P.keyLits D e ((cs.drop ((i - k0) * P.cellsOf e)).take (P.cellsOf e))) = some L := by
        intro n
        induction n with
        | zero => intro k0 xs cs _ _ _; exact ⟨[], by simp⟩
        | succ n ih =>
          intro k0 xs cs ho hl hc
          have hlen := (okL_get ho).1
          simp only [rep, List.length_append] at hlen
          have hsplit : xs = xs.take z.length ++ xs.drop z.length := (List.take_append_drop _ _).symm
          obtain ⟨o1, o2⟩ := okL_app (a := xs.take z.length) (b := xs.drop z.length) (c := z) (d := rep n z) (by rw [← hsplit]; exact ho) (by simp; omega)
          obtain ⟨L1, hL1⟩ := lits_of_con D e z (xs.take z.length) (cs.take z.length) R hz o1 (by simp; omega) (fun i x hi => by
            rw [List.getElem?_take] at hi
            split at hi
            · rename_i hlt
              obtain ⟨v, a, b⟩ := hc i x hi
              exact ⟨v, by rw [List.getElem?_take, if_pos hlt]; exact a, b⟩
            · cases hi)
          obtain ⟨L2, hL2⟩ := ih (k0 + 1) (xs.drop z.length) (cs.drop z.length) o2 (by simp; omega) (fun i x hi => by
            rw [List.getElem?_drop] at hi
            obtain ⟨v, a, b⟩ := hc _ x hi
            exact ⟨v, by rw [List.getElem?_drop]; exact a, b⟩)
          refine ⟨L1 :: L2, ?_⟩
          rw [List.range'_succ, List.mapM_cons]
          have e2 : ((List.range' (k0 + 1) n).mapM fun i => P.keyLits D e ((cs.drop ((i - k0) * P.cellsOf e)).take (P.cellsOf e))) = some L2 := by
            rw [← hL2]
            have cong : ∀ (l : List Nat) (f g : Nat → Option (List Lit)), (∀ i ∈ l, f i = g i) → l.mapM f = l.mapM g := by
              intro l f g
              induction l with
              | nil => intro _; rfl
              | cons a l ih => intro h; rw [List.mapM_cons, List.mapM_cons, h a (by simp), ih fun i hi => h i (by simp [hi])]
            refine cong _ _ _ fun i hi => ?_
            have hi' := (List.mem_range'_1.1 hi).1
            rw [List.drop_drop, hz1]
            congr 3
            rw [show i - k0 = (i - (k0 + 1)) + 1 by omega, Nat.succ_mul]; omega
          simp only [Nat.sub_self, Nat.zero_mul, List.drop_zero]
          rw [e2, ← hz1, hL1]; rfl
      obtain ⟨L, hL⟩ := key n 0 xs cs ho hl hc
      rw [List.range_eq_range']
      simp only [Nat.sub_zero] at hL
      exact ⟨_, by rw [hL]; rfl⟩
    · rename_i fs hu
      split at h <;> first | (cases h; done) | skip
      rename_i z hz
      split at h <;> first | (cases h; done) | skip
      rename_i hh
      obtain ⟨hz1, hz2⟩ := hh
      injection h with h; subst h
      have hlen := (okL_get ho).1
      simp only [hu]
      rw [if_pos ⟨by omega, hz2⟩]
      have key : ∀ (l : List Field) (off : Nat) (zs xs : List AC), kindsF P (kindsAt P D) off l = some zs → okL xs zs → (∀ (i : Nat) (x : AC), xs[i]? = some x → ∃ v, cs[off + i]? = some v ∧ conC R x v) →
          ∃ L, (l.mapM fun f => P.keyLits D f.type ((cs.drop f.offset).take (P.cellsOf f.type))) = some L := by
        intro l
        induction l with
        | nil => intro off zs xs _ _ _; exact ⟨[], by simp⟩
        | cons f r ih =>
          intro off zs xs hk ho hc
          simp only [kindsF] at hk
          split at hk <;> first | (cases hk; done) | skip
          rename_i h1
          split at hk <;> first | (cases hk; done) | skip
          rename_i z hz
          split at hk <;> first | (cases hk; done) | skip
          rename_i h2
          simp only [Option.map_eq_some_iff] at hk
          obtain ⟨zr, h3, rfl⟩ := hk
          have hlen := (okL_get ho).1
          simp only [List.length_append] at hlen
          have hsplit : xs = xs.take z.length ++ xs.drop z.length := (List.take_append_drop _ _).symm
          obtain ⟨o1, o2⟩ := okL_app (a := xs.take z.length) (b := xs.drop z.length) (c := z) (d := zr) (by rw [← hsplit]; exact ho) (by simp; omega)
          have hin : ∀ i, i < xs.length → off + i < cs.length := fun i hi => by
            obtain ⟨v, a, _⟩ := hc i _ (List.getElem?_eq_getElem hi)
            exact (List.getElem?_eq_some_iff.1 a).1
          have hlt : z.length ≤ cs.length - off := by
            by_cases h0 : z.length = 0
            · omega
            · have := hin (z.length - 1) (by omega); omega
          obtain ⟨L1, hL1⟩ := lits_of_con D f.type z (xs.take z.length) ((cs.drop off).take z.length) R hz o1 (by simp; omega) (fun i x hi => by
            rw [List.getElem?_take] at hi
            split at hi
            · rename_i hlt
              obtain ⟨v, a, b⟩ := hc i x hi
              exact ⟨v, by rw [List.getElem?_take, if_pos hlt, List.getElem?_drop]; exact a, b⟩
            · cases hi)
          obtain ⟨L2, hL2⟩ := ih (off + z.length) zr (xs.drop z.length) h3 o2 (fun i x hi => by
            rw [List.getElem?_drop] at hi
            obtain ⟨v, a, b⟩ := hc _ x hi
            exact ⟨v, by rw [Nat.add_assoc]; exact a, b⟩)
          refine ⟨L1 :: L2, ?_⟩
          rw [List.mapM_cons, hL2, h1.1, ← h2, hL1]; rfl
      obtain ⟨L, hL⟩ := key fs.toList 0 _ xs hz ho (fun i x hi => by rw [Nat.zero_add]; exact hc i x hi)
      exact ⟨_, by rw [hL]; rfl⟩

def acK : AC → AC → Bool
  | .int k _, .int k' _ => k == k'
  | .bool _, .bool _ => true
  | _, _ => false
def acsK : List AC → List AC → Bool
  | [], [] => true
  | x :: xs, y :: ys => acK x y && acsK xs ys
  | _, _ => false
theorem acsK_ok : ∀ {zs ys xs : List AC}, acsK zs ys = true → okL xs zs → okL xs ys
  | [], [], xs, _, h => h
  | z :: zs, y :: ys, [], _, h => h.elim
  | z :: zs, y :: ys, x :: xs, hk, h => by
    simp only [acsK, Bool.and_eq_true] at hk
    refine ⟨?_, acsK_ok hk.2 h.2⟩
    have a := hk.1
    have b := h.1
    cases z <;> cases y <;> simp only [acK, beq_iff_eq] at a <;> first | (cases a; done) | skip
    · subst a; cases x <;> simp only [okC] at b ⊢ <;> exact b
    · cases x <;> simp only [okC] at b ⊢
  | [], _ :: _, _, h, _ => by cases h
  | _ :: _, [], _, h, _ => by cases h

def keyB (P : Program) (t : TypeId) (z : List AC) : Bool :=
  P.keyTypeAt 9 t && P.keyType t && P.tiled 9 t && (match P.underlying t with | some (.array _ _) | some (.struct _) => true | _ => false) && !P.eqGuardType P.depth t && P.cellsOf t == z.length && (match kindsAt P (P.types.size + 1) t with
    | some y => acsK z y
    | none => false)
theorem eqLaw_of {P : Program} {t : TypeId} {z : List AC} (h : keyB P t z = true) : EqLaw P t z := by
  unfold keyB at h
  simp only [Bool.and_eq_true, Bool.not_eq_true', beq_iff_eq] at h
  obtain ⟨⟨⟨⟨⟨⟨h1, h2⟩, h3⟩, h4⟩, h5⟩, h6⟩, h7⟩ := h
  refine ⟨h5, deep_law (by decide) h1 h3 h4, h4, fun w => run_equal_deep w (by decide) h1 h4, fun xs vs R ho hs hc => ?_⟩
  split at h7 <;> first | (cases h7; done) | skip
  rename_i y hy
  have hlen := (okL_get ho).1
  obtain ⟨L, hL⟩ := lits_of_con (P := P) (P.types.size + 1) t y xs vs.toList R hy (acsK_ok h7 ho) (by simpa using hs) (fun i x hi => by
    obtain ⟨v, a, b⟩ := hc i x hi
    exact ⟨v, by rw [Nat.zero_add] at a; simpa using a, b⟩)
  unfold keyOf
  have hf : (Value.agg vs).formed P t = true := by
    unfold Value.formed
    split at h4 <;> first | (cases h4; done) | skip
    · rename_i e; simp only [e, beq_iff_eq]; omega
    · rename_i e; simp only [e, beq_iff_eq]; omega
  have hcl : (Value.agg vs).cells.toList = vs.toList := rfl
  split at h4 <;> first | (cases h4; done) | skip
  · rename_i e; simp only [e, h2, hf, hcl, hL]; exact ⟨_, rfl⟩
  · rename_i e; simp only [e, h2, hf, hcl, hL]; exact ⟨_, rfl⟩

end Go.AH

/-
  The table of types, and reading and writing of memory: what the steps of A3 rest on.
-/
namespace Go.AH
open Go.RowKit

def TD.fits (P : Program) (t : TypeId) : TD → Prop
  | .int k => P.underlying t = some (.int k)
  | .bool => P.underlying t = some .bool
  | .str => P.underlying t = some .string
  | .ptr => ∃ e, P.underlying t = some (.pointer e)
  | .slice e => P.underlying t = some (.slice e)
  | .arr n e => P.underlying t = some (.array n e)
  | .struct fs => ∃ fields, P.underlying t = some (.struct fields) ∧ fields.toList.map (fun f => (f.offset, f.type)) = fs ∧ ∀ p ∈ fs, (P.info? p.2).isSome = true
  | .map k e => P.underlying t = some (.map k e)
  | .func => ∃ a b c, P.underlying t = some (.func a b c)
  | .other => False

structure TIok (P : Program) (t : TypeId) (i : TI) : Prop where
  d : i.d.fits P t
  eq : i.cmp = true → EqLaw P t i.zero
  one : i.agg = false → ∀ x z, P.info? t = some x → x.zero = some z → z.cells = #[z]
  inf : ∃ x z, P.info? t = some x ∧ x.size = i.size ∧ x.bytes = i.bytes ∧ x.zero = some z ∧ z.cells.size = i.zero.length ∧ (∀ R, conL R i.zero z.cells 0) ∧ (i.agg = true → z = .agg z.cells) ∧ (∀ y ∈ i.zero, y.lt 0)

def TOk (P : Program) (T : Nat → Option TI) : Prop := ∀ t i, T t = some i → TIok P t i

variable {P : Program} {T : Nat → Option TI} {w w' : World} {t : TypeId} {i : TI}

theorem TIok.size (h : TIok P t i) (w : World) : (sizeOf t).run P w = .ok i.size w := by
  obtain ⟨x, z, h1, h2, _⟩ := h.inf
  simp [sizeOf, typeInfo, h1, h2]
theorem TIok.aggR (h : TIok P t i) (w : World) : (isAgg t).run P w = .ok i.agg w := by
  have hd := h.d
  unfold TI.agg
  cases hq : i.d <;> rw [hq] at hd <;> simp only [TD.fits] at hd
  case ptr => obtain ⟨e, hd⟩ := hd; simp [isAgg, run_underlying hd]
  case struct => obtain ⟨e, hd, _, _⟩ := hd; simp [isAgg, run_underlying hd]
  case func => obtain ⟨e, _, _, hd⟩ := hd; simp [isAgg, run_underlying hd]
  all_goals simp [isAgg, run_underlying hd]
theorem TIok.zeroR (h : TIok P t i) (w : World) : ∃ z, (zeroValue t).run P w = .ok z w ∧ z.cells.size = i.zero.length ∧ (∀ R, conL R i.zero z.cells 0) ∧ (i.agg = true → z = .agg z.cells) := by
  obtain ⟨x, z, h1, h2, h3, h4, h5, h6, h7, _⟩ := h.inf
  exact ⟨z, by simp [zeroValue, typeInfo, h1, h4], h5, h6, h7⟩
theorem TIok.zlt (h : TIok P t i) (n : Nat) : LL n i.zero := by
  obtain ⟨x, z, h1, h2, h3, h4, h5, h6, h7, h8⟩ := h.inf
  exact fun y hy => (h8 y hy).mono (Nat.zero_le n)

theorem adr_add (R : Ren) (id o n : Nat) : (R.adr id o).add n = R.adr id (o + n) := by
  unfold Addr.add Ren.adr
  split
  · subst_vars; rfl
  · simp [Nat.add_assoc]

theorem BRel.cell {R : Ren} {id : Nat} {b : ABlk} {cs : List AC} (h : BRel R id w b) (hb : b.cells = some cs) :
    ∃ c t z, w.heap[R.ρ id]? = some (.cells c t z) ∧ conL R cs c (R.δ id) ∧ R.δ id + cs.length ≤ c.size + (if cs.length = 0 then R.δ id else 0) := by
  have key : ∀ (c : Array Value) (d : Nat), conL R cs c d → d + cs.length ≤ c.size + (if cs.length = 0 then d else 0) := by
    intro c d hc
    by_cases h0 : cs.length = 0
    · simp [h0]
    · obtain ⟨v, hv, _⟩ := hc (cs.length - 1) _ (List.getElem?_eq_getElem (by omega))
      have := (Array.getElem?_eq_some_iff.1 hv).1
      rw [if_neg h0]; omega
  cases b with
  | ro cs' => simp only [ABlk.cells, Option.some.injEq] at hb; subst hb; obtain ⟨c, t, z, h1, h2⟩ := h; exact ⟨c, t, z, h1, h2, key c _ h2⟩
  | own cs' => simp only [ABlk.cells, Option.some.injEq] at hb; subst hb; obtain ⟨c, t, h1, h2, h3, h4⟩ := h; rw [h2]; exact ⟨c, t, _, h1, h4, key c _ h4⟩
  | row e z cs' => simp only [ABlk.cells, Option.some.injEq] at hb; subst hb; obtain ⟨c, h1, h2, h3, h4, h5, h6⟩ := h; rw [h2]; exact ⟨c, e, _, h1, h6, key c _ h6⟩
  | mp m => cases hb
  | mi I => cases hb
  | si s p => cases hb
  | li I => cases hb

theorem run_cells {R : Ren} {id : Nat} {b : ABlk} {cs : List AC} (h : BRel R id w b) (hb : b.cells = some cs) (o n : Nat) (hn : o + n ≤ cs.length) :
    ∃ vs : List Value, vs.length = n ∧ (loadCells (R.adr id o) n).run P w = .ok vs.toArray w ∧ (∀ j u, vs[j]? = some u → w.cell? ((R.adr id o).add j) = some u) ∧
      conL R ((cs.drop o).take n) vs.toArray 0 ∧ ∀ u ∈ vs, u.oneCell' = true := by
  obtain ⟨c, t, z, hh, hc, hsz⟩ := h.cell hb
  by_cases h0 : n = 0
  · subst h0
    exact ⟨[], rfl, by simp [loadCells, loadCellsFrom], by simp, by simp [conL], by simp⟩
  have hpos : ¬ cs.length = 0 := by omega
  rw [if_neg hpos] at hsz
  refine ⟨((c.toList.drop (R.δ id + o)).take n), by simp; omega, ?_, ?_, ?_, ?_⟩
  · have := run_loadCells_list (P := P) w (R.adr id o) ((c.toList.drop (R.δ id + o)).take n) ?_
    · rwa [show ((c.toList.drop (R.δ id + o)).take n).length = n by simp; omega] at this
    · intro j v hj
      rw [adr_add]
      simp only [List.getElem?_take, List.getElem?_drop] at hj
      split at hj
      · simp only [World.cell?, Ren.adr, hh]
        simpa [Nat.add_assoc] using hj
      · cases hj
  · intro j v hj
    rw [adr_add]
    simp only [List.getElem?_take, List.getElem?_drop] at hj
    split at hj
    · simp only [World.cell?, Ren.adr, hh]
      simpa [Nat.add_assoc] using hj
    · cases hj
  · intro j x hj
    simp only [List.getElem?_take, List.getElem?_drop] at hj
    split at hj
    · rename_i hjn
      obtain ⟨v, hv, hcv⟩ := hc (o + j) x hj
      refine ⟨v, ?_, hcv⟩
      simp only [Nat.zero_add, List.getElem?_toArray, List.getElem?_take, List.getElem?_drop, hjn, if_true]
      rw [← Array.getElem?_toList] at hv
      rwa [Nat.add_assoc]
    · cases hj
  · intro u hu
    obtain ⟨j, hj⟩ := List.mem_iff_getElem?.1 hu
    simp only [List.getElem?_take, List.getElem?_drop] at hj
    split at hj
    · rename_i hjn
      obtain ⟨v, hv, hcv⟩ := hc (o + j) cs[o + j] (List.getElem?_eq_getElem (by omega))
      rw [← Array.getElem?_toList, ← Nat.add_assoc, hj] at hv
      injection hv with hv
      exact hv ▸ hcv.one
    · cases hj

theorem run_cell {R : Ren} {id : Nat} {b : ABlk} {cs : List AC} (h : BRel R id w b) (hb : b.cells = some cs) (o : Nat) (hn : o + 1 ≤ cs.length) (z : AC) :
    ∃ v, w.cell? (R.adr id o) = some v ∧ conC R (cs.getD o z) v := by
  obtain ⟨c, t, z', hh, hc, _⟩ := h.cell hb
  obtain ⟨v, hv, hcv⟩ := hc o cs[o] (List.getElem?_eq_getElem (by omega))
  refine ⟨v, ?_, ?_⟩
  · simp [World.cell?, Ren.adr, hh, hv]
  · simpa [List.getD, List.getElem?_eq_getElem (show o < cs.length by omega)] using hcv

theorem rdn_eq (cs : List AC) : ∀ (zs : List AC) (o : Nat), o + zs.length ≤ cs.length → rdn cs o zs = (cs.drop o).take zs.length
  | [], o, _ => by simp [rdn]
  | z :: r, o, h => by
    simp only [List.length_cons] at h
    have ih := rdn_eq cs r (o + 1) (by omega)
    have hlt : o < cs.length := by omega
    rw [rdn, ih, List.drop_eq_getElem_cons hlt, List.length_cons, List.take_succ_cons]
    simp [List.getD, List.getElem?_eq_getElem hlt]

theorem wrn_eq : ∀ (vs cs : List AC) (o : Nat), o + vs.length ≤ cs.length → wrn cs o vs = cs.take o ++ vs ++ cs.drop (o + vs.length)
  | [], cs, o, _ => by simp [wrn]
  | v :: r, cs, o, h => by
    simp only [List.length_cons] at h
    have hlt : o < cs.length := by omega
    rw [wrn, wrn_eq r (cs.set o v) (o + 1) (by simp; omega)]
    have h1 : (cs.set o v).take (o + 1) = cs.take o ++ [v] := by
      rw [List.take_set, List.take_succ_eq_append_getElem hlt, List.set_append_right _ _ (by simp; omega)]
      simp [Nat.min_eq_left (Nat.le_of_lt hlt)]
    have h2 : (cs.set o v).drop (o + 1 + r.length) = cs.drop (o + (r.length + 1)) := by
      rw [List.drop_set_of_lt (by omega)]; congr 1; omega
    rw [h1, h2]; simp
theorem set_eq (v : AC) (cs : List AC) (o : Nat) (h : o + 1 ≤ cs.length) : cs.set o v = cs.take o ++ [v] ++ cs.drop (o + 1) := by
  have := wrn_eq [v] cs o (by simpa using h)
  simpa [wrn] using this

theorem LL.drop {n : Nat} {cs : List AC} (h : LL n cs) (o : Nat) : LL n (cs.drop o) := fun x hx => h x (List.mem_of_mem_drop hx)
theorem LL.take {n : Nat} {cs : List AC} (h : LL n cs) (o : Nat) : LL n (cs.take o) := fun x hx => h x (List.mem_of_mem_take hx)
theorem LL.app {n : Nat} {cs ds : List AC} (h : LL n cs) (k : LL n ds) : LL n (cs ++ ds) := fun x hx => by
  rcases List.mem_append.1 hx with h1 | h1
  · exact h x h1
  · exact k x h1
theorem LL.getD {n : Nat} {cs : List AC} (h : LL n cs) (o : Nat) (z : AC) (ho : o + 1 ≤ cs.length) : (cs.getD o z).lt n := by
  rw [show cs.getD o z = cs[o] by simp [List.getD, List.getElem?_eq_getElem (show o < cs.length by omega)]]
  exact h _ (List.getElem_mem _)
theorem LL.one {n : Nat} {x : AC} (h : x.lt n) : LL n [x] := fun y hy => by simp at hy; exact hy ▸ h

theorem ABlk.lt_cells {n : Nat} {b : ABlk} {cs : List AC} (h : b.lt n) (hb : b.cells = some cs) : LL n cs := by
  cases b <;> simp only [ABlk.cells, Option.some.injEq] at hb
  · exact hb ▸ h
  · exact hb ▸ h
  · exact hb ▸ h
  · cases hb
  · cases hb
  · cases hb
  · cases hb
theorem ABlk.with_lt {n : Nat} {b : ABlk} {cs ds : List AC} (hb : b.cells = some cs) (h : LL n ds) : (b.with ds).lt n := by
  cases b <;> simp only [ABlk.cells] at hb <;> first | exact h | cases hb
theorem ABlk.with_wr {b : ABlk} (ds : List AC) : (b.with ds).wr = b.wr := by cases b <;> rfl

theorem BRel.splice {R : Ren} {id : Nat} {b : ABlk} {cs : List AC} (h : BRel R id w b) (hb : b.cells = some cs) (hw : b.wr = true) (o : Nat) (gs : List AC) (vs : List Value)
    (hl : vs.length = gs.length) (hc : conL R gs vs.toArray 0) (hn : o + gs.length ≤ cs.length) :
    ∃ c t, w.heap[R.ρ id]? = some (.cells c t (0, 0)) ∧ o + vs.length ≤ c.size ∧ R.δ id = 0 ∧
      BRel R id (w.setRow (R.ρ id) (c.toList.take o ++ vs ++ c.toList.drop (o + vs.length)).toArray) (b.with (cs.take o ++ gs ++ cs.drop (o + gs.length))) := by
  have key : ∀ c : Array Value, cs.length ≤ c.size → conL R cs c 0 → conL R (cs.take o ++ gs ++ cs.drop (o + gs.length)) (c.toList.take o ++ vs ++ c.toList.drop (o + vs.length)).toArray 0 := by
    intro c hsz hcc j x hj
    simp only [Nat.zero_add, List.getElem?_toArray]
    rw [List.append_assoc, List.getElem?_append] at hj ⊢
    simp only [List.length_take, List.getElem?_append, List.getElem?_drop, hl, Array.length_toList] at hj ⊢
    have e1 : min o cs.length = o := by omega
    have e2 : min o c.size = o := by omega
    rw [e1] at hj; rw [e2]
    by_cases h1 : j < o
    · simp only [h1, if_true, List.getElem?_take] at hj ⊢
      obtain ⟨v, hv, hcv⟩ := hcc j x hj
      exact ⟨v, by rw [Nat.zero_add] at hv; simpa using hv, hcv⟩
    · simp only [h1, if_false] at hj ⊢
      by_cases h2 : j - o < gs.length
      · simp only [h2, if_true] at hj ⊢
        obtain ⟨v, hv, hcv⟩ := hc (j - o) x hj
        exact ⟨v, by simpa using hv, hcv⟩
      · simp only [h2, if_false] at hj ⊢
        obtain ⟨v, hv, hcv⟩ := hcc _ x hj
        exact ⟨v, by rw [Nat.zero_add] at hv; simpa using hv, hcv⟩
  cases b with
  | ro cs' => cases hw
  | mp m => cases hb
  | mi I => cases hb
  | si s p => cases hb
  | li I => cases hb
  | own cs' =>
    simp only [ABlk.cells, Option.some.injEq] at hb; subst hb
    obtain ⟨c, t, h1, h2, h3, h4⟩ := h
    refine ⟨c, t, h1, by omega, h2, _, t, setRow_heap _ _ _ _ _ _ h1, h2, ?_, key c (by omega) h4⟩
    simp; omega
  | row e z cs' =>
    simp only [ABlk.cells, Option.some.injEq] at hb; subst hb
    obtain ⟨c, h1, h2, h3, h4, h5, h6⟩ := h
    refine ⟨c, e, h1, by omega, h2, _, setRow_heap _ _ _ _ _ _ h1, h2, h3, ?_, ?_, key c (by omega) h6⟩
    · simp; omega
    · simp; omega

theorem grownBy_setRow (w : World) (g : Nat) (cs : Array Value) : w.grownBy (w.setRow g cs) (some g) :=
  ⟨rfl, rfl, rfl, by simp, fun k _ hk => setRow_other w g k cs (fun e => hk (by rw [e]))⟩

/-! ### Frozen slices -/
theorem RT.cs_lt {t : RT} {n : Nat} : LL n t.cs := fun x hx => by
  cases t with
  | leaf z m xs => simp only [RT.cs, List.mem_map] at hx; obtain ⟨_, _, rfl⟩ := hx; trivial
  | node ks => simp only [RT.cs, List.mem_map] at hx; obtain ⟨_, _, rfl⟩ := hx; trivial
theorem con_cs {R R1 : Ren} (hz : R1.z = R.z) {t : RT} {x : AC} {v : Value} (hx : x ∈ t.cs) (h : conC R1 x v) : conC R x v := by
  cases t with
  | leaf z m xs => simp only [RT.cs, List.mem_map] at hx; obtain ⟨_, _, rfl⟩ := hx; exact h
  | node ks => simp only [RT.cs, List.mem_map] at hx; obtain ⟨_, _, rfl⟩ := hx; simp only [conC] at h ⊢; rw [← hz]; exact h
theorem KR.cs_len {Z : Nat → Option (Array Value)} {t : RT} {v : Value} (h : KR Z t v) : t.cs.length = t.len * t.z := by
  cases t with
  | leaf z m xs => rw [KR] at h; simp [RT.cs, RT.len, RT.z, h.1]
  | node ks => simp [RT.cs, RT.len, RT.z]
theorem KR.zero {Z : Nat → Option (Array Value)} {t : RT} {v : Value} (h : KR Z t v) (h0 : t.len = 0) : v = .slice none 0 0 ∨ ∃ a cp, v = .slice (some a) 0 cp := by
  cases t with
  | leaf z m xs =>
    rw [KR] at h
    simp only [RT.len] at h0; subst h0
    rcases h.2 with ⟨b, o, cp, c, rfl, _⟩ | ⟨_, rfl | ⟨a, cp, rfl⟩⟩
    · exact .inr ⟨_, _, rfl⟩
    · exact .inl rfl
    · exact .inr ⟨_, _, rfl⟩
  | node ks =>
    rw [KR] at h
    simp only [RT.len] at h0
    rcases h with ⟨b, o, cp, c, rfl, _⟩ | ⟨_, rfl | ⟨a, cp, rfl⟩⟩
    · exact .inr ⟨_, _, by rw [h0]⟩
    · exact .inl rfl
    · exact .inr ⟨_, _, rfl⟩
theorem KR.blk {R : Ren} {w : World} (hz : Zok R.z w) {t : RT} {v : Value} (h : KR R.z t v) (h0 : 0 < t.len) :
    ∃ b o cp, v = .slice (some ⟨b, o, none⟩) t.len cp ∧ t.len ≤ cp ∧ ∀ (R1 : Ren) (i : Nat), R1.ρ i = b → R1.δ i = o → R1.z = R.z → BRel R1 i w (.ro t.cs) := by
  cases t with
  | leaf z m xs =>
    rw [KR] at h
    simp only [RT.len] at h0
    rcases h.2 with ⟨b, o, cp, c, rfl, h1, h2, h3⟩ | ⟨h1, _⟩
    · refine ⟨b, o, cp, rfl, h1, fun R1 i e1 e2 e3 => ?_⟩
      obtain ⟨tt, vv, hh⟩ := hz b c h2
      refine ⟨c, tt, vv, by rw [e1]; exact hh, fun j x hj => ?_⟩
      simp only [RT.cs, List.getElem?_map] at hj
      cases e : xs[j]? with
      | none => rw [e] at hj; cases hj
      | some n =>
        rw [e] at hj; injection hj with hj; subst hj
        exact ⟨_, by rw [e2]; exact h3 j n e, rfl⟩
    · omega
  | node ks =>
    rw [KR] at h
    simp only [RT.len] at h0
    rcases h with ⟨b, o, cp, c, rfl, h1, h2, h3⟩ | ⟨h1, _⟩
    · refine ⟨b, o, cp, rfl, h1, fun R1 i e1 e2 e3 => ?_⟩
      obtain ⟨tt, vv, hh⟩ := hz b c h2
      refine ⟨c, tt, vv, by rw [e1]; exact hh, fun j x hj => ?_⟩
      simp only [RT.cs, List.getElem?_map] at hj
      cases e : ks[j]? with
      | none => rw [e] at hj; cases hj
      | some n =>
        rw [e] at hj; injection hj with hj; subst hj
        obtain ⟨u, hu, hk⟩ := KRs_get h3 e
        exact ⟨u, by rw [e2]; exact hu, by simp only [conC]; rw [e3]; exact hk⟩
    · omega
theorem KP.blk {R : Ren} {w : World} (hz : Zok R.z w) {t : RT} {q : Nat} {v : Value} (h : KP R.z t q v) :
    ∃ b o, v = .pointer (some ⟨b, o + q, none⟩) ∧ ∀ (R1 : Ren) (i : Nat), R1.ρ i = b → R1.δ i = o → R1.z = R.z → BRel R1 i w (.ro t.cs) := by
  obtain ⟨b, o, c, rfl, h2, h3⟩ := h
  obtain ⟨tt, vv, hh⟩ := hz b c h2
  refine ⟨b, o, rfl, fun R1 i e1 e2 e3 => ⟨c, tt, vv, by rw [e1]; exact hh, fun j x hj => ?_⟩⟩
  cases t with
  | leaf z m xs =>
    simp only [RT.cs, List.getElem?_map] at hj
    cases e : xs[j]? with
    | none => rw [e] at hj; cases hj
    | some n =>
      rw [e] at hj; injection hj with hj; subst hj
      exact ⟨_, by rw [e2]; exact h3 j n e, rfl⟩
  | node ks =>
    simp only [RT.cs, List.getElem?_map] at hj
    cases e : ks[j]? with
    | none => rw [e] at hj; cases hj
    | some n =>
      rw [e] at hj; injection hj with hj; subst hj
      obtain ⟨u, hu, hk⟩ := KRs_get h3 e
      exact ⟨u, by rw [e2]; exact hu, by simp only [conC]; rw [e3]; exact hk⟩
theorem KR.ptr {R : Ren} {t : RT} {v : Value} (h : KR R.z t v) (h0 : 0 < t.len) : ∃ b o cp, v = .slice (some ⟨b, o, none⟩) t.len cp ∧ ∀ q, KP R.z t q (.pointer (some ⟨b, o + q, none⟩)) := by
  cases t with
  | leaf z m xs =>
    rw [KR] at h
    simp only [RT.len] at h0
    rcases h.2 with ⟨b, o, cp, c, rfl, h1, h2, h3⟩ | ⟨h1, _⟩
    · exact ⟨b, o, cp, rfl, fun q => ⟨b, o, c, rfl, h2, h3⟩⟩
    · omega
  | node ks =>
    rw [KR] at h
    simp only [RT.len] at h0
    rcases h with ⟨b, o, cp, c, rfl, h1, h2, h3⟩ | ⟨h1, _⟩
    · exact ⟨b, o, cp, rfl, fun q => ⟨b, o, c, rfl, h2, h3⟩⟩
    · omega
end Go.AH

/-
  The steps of A3 are what the machine does.
-/
namespace Go.AH
open Go.RowKit

variable {P : Program} {T : Nat → Option TI} {md : Bool} {E : Env} {R : Ren} {s : AS} {a : Act} {w : World}

theorem kv_sound {x : Value} {v : AV} (h : kv x = some v) (R : Ren) (n : Nat) : conV R v x ∧ v.lt n := by
  unfold kv at h
  split at h <;> first | (cases h; done) | (injection h with h; subst h; simp [conV, conC, AV.lt, AC.lt])

theorem ev_sound {x : Operand} {v : AV} (F : Fit E R s a w) (h : ev s x = some v) : conV R v (a.eval x) ∧ v.lt s.nx := by
  cases x with
  | tmp t =>
    obtain ⟨u, hu, hc⟩ := F.tm t v h
    refine ⟨?_, F.wf.tm t v h⟩
    rw [show a.eval (.tmp t) = u by simp [Act.eval, Array.getD_eq_getD_getElem?, hu]]; exact hc
  | const x => exact kv_sound h R _
  | global g =>
    simp only [ev, Option.some.injEq] at h; subst h
    refine ⟨?_, .inr (Nat.le_add_right _ _)⟩
    simp [conV, conC, Ren.adr, F.ok.g, F.ok.d, Act.eval]
  | func f =>
    simp only [ev, Option.some.injEq] at h; subst h
    exact ⟨by simp [conV, conC, Act.eval], by simp [AV.lt, AC.lt]⟩

theorem onV_sound {x : Operand} {k : AV → Prop} (F : Fit E R s a w) (h : onV s x k) : ∃ v, k v ∧ conV R v (a.eval x) ∧ v.lt s.nx := by
  unfold onV at h
  split at h
  · rename_i v hv; exact ⟨v, h, ev_sound F hv⟩
  · exact h.elim
theorem onC_sound {x : Operand} {k : AC → Prop} (F : Fit E R s a w) (h : onC s x k) : ∃ v, k v ∧ conC R v (a.eval x) ∧ v.lt s.nx := by
  unfold onC at h
  split at h
  · rename_i v hv; exact ⟨v, h, ev_sound F hv⟩
  · exact h.elim

def Out (P : Program) (E : Env) (a : Act) (w : World) (o : Oper) (k : AV → AS → Prop) : Prop :=
  ∃ nx w' u R' s' v, (execOp a.eval o).run P w = .ok nx w' ∧ (nx = .value u ∨ nx = .skip ∧ u = undef) ∧ k v s' ∧ Fit E R' s' a w' ∧ conV R' v u ∧ v.lt s'.nx

theorem Out.mk {o : Oper} {k : AV → AS → Prop} {u : Value} {v : AV} (h : (execOp a.eval o).run P w = .ok (.value u) w) (hk : k v s) (F : Fit E R s a w) (hc : conV R v u) (hl : v.lt s.nx) : Out P E a w o k :=
  ⟨_, w, u, R, s, v, h, .inl rfl, hk, F, hc, hl⟩

theorem Fit.new (F : Fit E R s a w) (hG : s.nx < GB) {cs : List AC} {vs : Array Value} (hs : vs.size = cs.length) (hc : conL R cs vs 0) (hl : LL s.nx cs) (t : TypeId) :
    Fit E (R.set s.nx w.heap.size 0 0) { s with hp := (s.nx, .own cs) :: s.hp, nx := s.nx + 1 } a (w.alloc (.cells vs t)) := by
  have hag := Ren.set_agree R s.nx w.heap.size 0 0 hG
  have hf : lk s.hp s.nx = none := by
    cases hq : lk s.hp s.nx with
    | none => rfl
    | some b => have := F.nx _ _ hq; omega
  have F1 := (F.keep0 (w.grownBy_alloc (.cells vs t) none)).ren hag (Ren.set_ok _ _ _ _ hG F.ok) (Nat.le_succ s.nx) (show s.nx + 1 ≤ GB by omega)
  refine F1.add hf ?_ (fun _ => .inr ?_) ?_ (.inl (Nat.lt_succ_self _)) (LL.mono hl (Nat.le_succ _)) (fun _ => by rw [Ren.set_ρ]; exact F.hp.zw.lt (Nat.le_refl _))
  · refine ⟨vs, t, ?_, by simp, hs, hc.agree hag hl⟩
    rw [Ren.set_ρ]; exact World.alloc_heap_new w _
  · rw [Ren.set_ρ]; exact F.fr.size
  · intro j c hj _
    rw [Ren.set_ρ, (hag j (F.wf.hp j c hj).1).1]
    exact fun e => absurd (F.hp.blk j c hj).lt (by omega)

theorem Fit.wrote {w' : World} {id : Nat} {b b' : ABlk} (F : Fit E R s a w) (hid : lk s.hp id = some b) (hw : b.wr = true) (hg : w.grownBy w' (some (R.ρ id)))
    (hndf : ∀ ds, w.heap[R.ρ id]? ≠ some (.deferred ds)) (hb : BRel R id w' b') (hw' : b'.wr = true) (hl : b'.lt s.nx) : Fit E R { s with hp := up s.hp id b' } a w' := by
  have F1 := F.keep hid hw hg hndf
  have F2 : Fit E R { s with hp := (id, b') :: del s.hp id } a w' := by
    refine F1.add (by simp [lk_del]) hb (fun _ => F.wr id b hid hw) ?_ (F.wf.hp id b hid).1 hl (fun _ => F.hp.zn id b hid hw)
    intro j c hj _
    simp only [lk_del] at hj
    split at hj
    · cases hj
    · rename_i hne; exact F.hp.inj id j b c hid hj hne hw
  refine F2.hp_congr fun i => ?_
  simp only [lk_up, lk, lk_del]
  split <;> rfl

theorem onCells_sound {id : Nat} {k : ABlk → List AC → Prop} (F : Fit E R s a w) (h : onCells s id k) :
    ∃ b cs, k b cs ∧ lk s.hp id = some b ∧ b.cells = some cs ∧ BRel R id w b ∧ b.lt s.nx := by
  unfold onCells at h
  split at h
  · rename_i cs hq; exact ⟨_, cs, h, hq, rfl, F.hp.blk _ _ hq, (F.wf.hp _ _ hq).2⟩
  · rename_i cs hq; exact ⟨_, cs, h, hq, rfl, F.hp.blk _ _ hq, (F.wf.hp _ _ hq).2⟩
  · rename_i e z cs hq; exact ⟨_, cs, h, hq, rfl, F.hp.blk _ _ hq, (F.wf.hp _ _ hq).2⟩
  · exact h.elim

theorem cells_notdf {b : ABlk} {cs : List AC} {id : Nat} (h : BRel R id w b) (hb : b.cells = some cs) : ∀ ds, w.heap[R.ρ id]? ≠ some (.deferred ds) := by
  obtain ⟨c, t, z, hh, _⟩ := h.cell hb
  intro ds; rw [hh]; simp

section steps
variable {o : Oper} {k : AV → AS → Prop}

theorem s_move {x : Operand} (ho : o.op = .move x ∨ o.op = .assign x) (F : Fit E R s a w) (h : onV s x fun v => k v s) : Out P E a w o k := by
  obtain ⟨v, hk, hc, hl⟩ := onV_sound F h
  refine Out.mk (u := a.eval x) ?_ hk F hc hl
  rcases ho with ho | ho <;> simp [execOp, ho]

theorem s_pick {c x y : Operand} (ho : o.op = .pick c x y) (F : Fit E R s a w) (h : stepA T md s (.pick c x y) k) : Out P E a w o k := by
  simp only [stepA, AS.on_eq] at h
  obtain ⟨q, hk, hc, hq0⟩ := onC_sound F h
  split at hk <;> try exact hk.elim
  rename_i q
  simp only [conC] at hc
  obtain ⟨va, hk, hca, hla⟩ := onV_sound F hk
  obtain ⟨vb, hk, hcb, hlb⟩ := onV_sound F hk
  have hr : (execOp a.eval o).run P w = .ok (.value (if q then a.eval x else a.eval y)) w := by
    simp [execOp, ho, hc, asBool]
  split at hk
  · rename_i p r
    simp only [conV, conC] at hca hcb
    refine Out.mk hr hk F ?_ trivial
    rw [hca, hcb]
    cases q <;> rfl
  · cases q with
    | true => exact Out.mk hr (hk.1 rfl) F hca hla
    | false => exact Out.mk hr (hk.2 rfl) F hcb hlb

theorem s_alloc (hT : TOk P T) {e : Nat} (ho : o.op = .alloc e) (F : Fit E R s a w) (h : stepA T md s (.alloc e) k) : Out P E a w o k := by
  simp only [stepA, AS.on_eq] at h
  split at h
  · rename_i d' sz' by' zz' cmp' hi
    replace h := lit_iff.1 h
    rw [decide_eq_true_eq] at h
    obtain ⟨z, hz, hs, hc, _⟩ := (hT e _ hi).zeroR w
    refine ⟨.value (.pointer (some ⟨w.heap.size, 0, none⟩)), w.alloc (.cells z.cells e), _, R.set s.nx w.heap.size 0 0, _, _, ?_, .inl rfl, h.2, F.new h.1 hs (hc R) ((hT e _ hi).zlt _) e, ?_, .inl (Nat.lt_succ_self _)⟩
    · simp [execOp, ho, Instr.alloc, hz, newVar, newRow]
    · simp [conV, conC, Ren.adr, Ren.set]
  · exact h.elim

theorem cellsOfV_sound {v : AV} {u : Value} {cs : List AC} (h : cellsOfV v = some cs) (hc : conV R v u) : u.cells.size = cs.length ∧ conL R cs u.cells 0 ∧ ∀ x ∈ u.cells, x.oneCell' = true := by
  cases v with
  | c x =>
    simp only [cellsOfV, Option.some.injEq] at h; subst h
    rw [conC.cells hc]
    refine ⟨rfl, ?_, by simp; exact conC.one hc⟩
    intro i y hi
    cases i with
    | zero => simp only [List.getElem?_cons_zero, Option.some.injEq] at hi; subst hi; exact ⟨u, rfl, hc⟩
    | succ i => simp at hi
  | g cs' =>
    simp only [cellsOfV, Option.some.injEq] at h; subst h
    obtain ⟨vs, rfl, h1, h2⟩ := hc
    refine ⟨h1, h2, ?_⟩
    intro x hx
    obtain ⟨j, hj⟩ := Array.mem_iff_getElem?.1 hx
    have hlt : j < cs'.length := by have := (Array.getElem?_eq_some_iff.1 hj).1; simp [Value.cells] at this; omega
    obtain ⟨v, hv, hcv⟩ := h2 j _ (List.getElem?_eq_getElem hlt)
    rw [Nat.zero_add] at hv
    simp only [Value.cells] at hj
    rw [hv] at hj; injection hj with hj; exact hj ▸ hcv.one
  | t es => cases h
theorem cellsOfV_lt {v : AV} {cs : List AC} {n : Nat} (h : cellsOfV v = some cs) (hl : v.lt n) : LL n cs := by
  cases v with
  | c x => simp only [cellsOfV, Option.some.injEq] at h; subst h; exact LL.one hl
  | g cs' => simp only [cellsOfV, Option.some.injEq] at h; subst h; exact hl
  | t es => cases h

theorem s_box {e : Nat} {x : Operand} (ho : o.op = .box e x) (F : Fit E R s a w) (h : stepA T md s (.box e x) k) : Out P E a w o k := by
  simp only [stepA, AS.on_eq] at h
  obtain ⟨v, hk, hc, hl⟩ := onV_sound F h
  split at hk
  · rename_i cs hcs
    replace hk := lit_iff.1 hk
    rw [decide_eq_true_eq] at hk
    obtain ⟨h1, h2, _⟩ := cellsOfV_sound hcs hc
    refine ⟨.value (.pointer (some ⟨w.heap.size, 0, none⟩)), w.alloc (.cells (a.eval x).cells e), _, R.set s.nx w.heap.size 0 0, _, _, ?_, .inl rfl, hk.2, F.new hk.1 h1 h2 (cellsOfV_lt hcs hl) e, ?_, .inl (Nat.lt_succ_self _)⟩
    · simp [execOp, ho, Instr.box, newVar, newRow]
    · simp [conV, conC, Ren.adr, Ren.set]
  · exact hk.elim

theorem load_sound (hT : TOk P T) {t : Nat} {x : Operand} (F : Fit E R s a w) (h : stepA T md s (.load t x) k) :
    ∃ u v ad, a.eval x = .pointer (some ad) ∧ (loadVar t ad).run P w = .ok u w ∧ k v s ∧ conV R v u ∧ v.lt s.nx := by
  simp only [stepA, AS.on_eq] at h
  obtain ⟨p, hk, hc, hp0⟩ := onC_sound F h
  split at hk <;> try exact hk.elim
  rotate_left
  · rename_i q off
    obtain ⟨b, o0, hv, hB⟩ := KP.blk F.hp.zw (show KP R.z q off _ from hc)
    have hB1 := hB (R.set 0 b o0 0) 0 (Ren.set_ρ ..) (Ren.set_δ ..) rfl
    have hag : Agree 0 (R.set 0 b o0 0) R := ⟨fun i hi => by
      have : i ≠ 0 := by unfold idOk GB at hi; omega
      simp [Ren.set, this], Zle.refl _⟩
    have hadr : (R.set 0 b o0 0).adr 0 off = ⟨b, o0 + off, none⟩ := by simp [Ren.adr]
    split at hk <;> try exact hk.elim
    rename_i i hi
    have hI := hT t i hi
    split at hk
    · rename_i hag2
      split at hk <;> try exact hk.elim
      rename_i z hz
      obtain ⟨v, hv2, hcv⟩ := run_cell hB1 rfl off hk.1 z
      rw [hadr] at hv2
      have hlt : (q.cs.getD off z).lt 0 := (RT.cs_lt (n := 0)).getD off z hk.1
      refine ⟨v, _, _, hv, ?_, hk.2, conC.agree hag hlt hcv, (RT.cs_lt (n := s.nx)).getD off z hk.1⟩
      simp [loadVar, hI.aggR, hag2, hv2]
    · rename_i hag2
      obtain ⟨vs, hv1, hv2, _, hv3, _⟩ := run_cells (P := P) hB1 rfl off i.size hk.1
      rw [hadr] at hv2
      refine ⟨.agg vs.toArray, _, _, hv, ?_, hk.2, ⟨_, rfl, ?_, conL.agree hag (((RT.cs_lt (n := 0)).drop off).take _) hv3⟩, (((RT.cs_lt (n := s.nx)).drop off).take _)⟩
      · simp [loadVar, hI.aggR, hag2, hI.size, hv2]
      · simp [hv1]; omega
  rename_i id off
  simp only [conC] at hc
  obtain ⟨b, cs, hk, hid, hb, hB, hbl⟩ := onCells_sound F hk
  split at hk <;> try exact hk.elim
  rename_i i hi
  have hI := hT t i hi
  have hcl := ABlk.lt_cells hbl hb
  have agg : i.agg = true → ∀ n, n = i.size → off + n ≤ cs.length → ∃ u, (loadVar t (R.adr id off)).run P w = .ok u w ∧ conV R (.g ((cs.drop off).take n)) u := by
    intro hag n hn hle
    obtain ⟨vs, hv1, hv2, _, hv3, _⟩ := run_cells (P := P) hB hb off n hle
    refine ⟨.agg vs.toArray, ?_, ⟨_, rfl, ?_, hv3⟩⟩
    · simp [loadVar, hI.aggR, hag, hI.size, ← hn, hv2]
    · simp [hv1]; omega
  split at hk
  · rename_i hag
    split at hk <;> try exact hk.elim
    rename_i z hz
    obtain ⟨v, hv, hcv⟩ := run_cell hB hb off hk.1 z
    refine ⟨v, _, _, hc, ?_, hk.2, hcv, hcl.getD off z hk.1⟩
    simp [loadVar, hI.aggR, hag, hv]
  · rename_i hag
    split at hk
    · rename_i h6
      obtain ⟨⟨h1, h2⟩, hk⟩ := hk
      obtain ⟨u, hu, hcu⟩ := agg hag i.size rfl h1
      rw [rdn_eq cs i.zero off (by omega), h2] at hk
      exact ⟨u, _, _, hc, hu, hk, hcu, ((hcl.drop off).take _)⟩
    · split at hk
      · obtain ⟨h1, hk⟩ := hk
        obtain ⟨u, hu, hcu⟩ := agg hag i.size rfl (by omega)
        rw [List.drop_zero, List.take_of_length_le (by omega)] at hcu
        exact ⟨u, _, _, hc, hu, hk, hcu, hcl⟩
      · rename_i off'
        obtain ⟨u, hu, hcu⟩ := agg hag i.size rfl hk.1
        exact ⟨u, _, _, hc, hu, hk.2, hcu, ((hcl.drop _).take _)⟩

theorem s_load (hT : TOk P T) {t : Nat} {x : Operand} (ho : o.op = .load t x) (F : Fit E R s a w) (h : stepA T md s (.load t x) k) : Out P E a w o k := by
  obtain ⟨u, v, ad, h1, h2, h3, h4, h5⟩ := load_sound (P := P) hT F h
  exact Out.mk (u := u) (by simp [execOp, ho, h1, Instr.loadAt, Instr.sureAddr, h2]) h3 F h4 h5

theorem store_ok (hT : TOk P T) {t id off : Nat} {x y : Operand} {i : TI} (ho : o.op = .store t x y) (F : Fit E R s a w) (hx : a.eval x = .pointer (some (R.adr id off))) {b : ABlk} {cs gs : List AC} {v : AV}
    (hid : lk s.hp id = some b) (hb : b.cells = some cs) (hw : b.wr = true) (hi : T t = some i) (hv : cellsOfV v = some gs) (hc : conV R v (a.eval y)) (hl : v.lt s.nx) (hsz : gs.length = i.size) (hn : off + gs.length ≤ cs.length)
    (hk : k (.t []) { s with hp := up s.hp id (b.with (cs.take off ++ gs ++ cs.drop (off + gs.length))) }) : Out P E a w o k := by
  obtain ⟨h1, h2, h3⟩ := cellsOfV_sound hv hc
  have hB := F.hp.blk _ _ hid
  obtain ⟨c, ty, hh, hle, hd, hB'⟩ := hB.splice hb hw off gs (a.eval y).cells.toList (by simpa using h1) (by simpa using h2) hn
  have hst := run_storeCells_at P (R.ρ id) off ty (a.eval y).cells.toList 0 c w hh (by simpa using hle) (fun v hv => h3 v (by simpa using hv))
  refine ⟨.skip, _, undef, R, _, _, ?_, .inr ⟨rfl, rfl⟩, hk, F.wrote hid hw (grownBy_setRow w (R.ρ id) _) (cells_notdf hB hb) hB' (by rw [ABlk.with_wr, hw]) ?_, ?_, ?_⟩
  · have : R.adr id off = ⟨R.ρ id, off, none⟩ := by simp [Ren.adr, hd]
    simp only [Nat.add_zero] at hst
    simp [execOp, ho, hx, Instr.storeAt, Instr.sureAddr, storeVar, (hT t i hi).size, h1, hsz, this, hst]
  · refine ABlk.with_lt hb ?_
    have hcl := ABlk.lt_cells (F.wf.hp _ _ hid).2 hb
    exact ((hcl.take _).app (cellsOfV_lt hv hl)).app (hcl.drop _)
  · exact ⟨#[], rfl, rfl, by simp⟩
  · intro e he; cases he

theorem s_store (hT : TOk P T) {t : Nat} {x y : Operand} (ho : o.op = .store t x y) (F : Fit E R s a w) (h : stepA T md s (.store t x y) k) : Out P E a w o k := by
  simp only [stepA, AS.on_eq] at h
  obtain ⟨p, hk, hcx, hp0⟩ := onC_sound F h
  obtain ⟨v, hk, hc, hl⟩ := onV_sound F hk
  split at hk <;> try exact hk.elim
  rename_i id off hx0
  simp only [conC] at hcx
  obtain ⟨b, cs, hk, hid, hb, hB, hbl⟩ := onCells_sound F hk
  obtain ⟨hw, hk⟩ := hk
  split at hk <;> try exact hk.elim
  rename_i i hi
  split at hk <;> try exact hk.elim
  · rename_i c hx1
    obtain ⟨⟨h1, h2⟩, hk⟩ := hk
    rw [set_eq c cs off h2] at hk
    exact store_ok hT ho F hcx hid hb hw hi (gs := [c]) rfl hc hl (by simp [h1]) (by simpa using h2) (by simpa using hk)
  · rename_i gs hx1
    split at hk
    · obtain ⟨⟨h1, h2⟩, hk⟩ := hk
      rw [wrn_eq gs cs off (by omega)] at hk
      exact store_ok hT ho F hcx hid hb hw hi (gs := gs) rfl hc hl h1 (by omega) hk
    · split at hk
      · obtain ⟨⟨h1, h2⟩, hk⟩ := hk
        refine store_ok hT ho F hcx hid hb hw hi (gs := gs) rfl hc hl h1 (by omega) ?_
        rw [List.drop_of_length_le (by omega)]
        simpa using hk
      · obtain ⟨⟨h1, h2⟩, hk⟩ := hk
        refine store_ok hT ho F hcx hid hb hw hi (gs := gs) rfl hc hl h1 (by omega) ?_
        rw [h1]; exact hk

end steps
end Go.AH
