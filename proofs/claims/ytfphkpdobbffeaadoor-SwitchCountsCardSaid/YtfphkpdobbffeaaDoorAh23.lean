/-
  Flat keys: structs and arrays of numbers and bools, compared and kept in maps.
-/
import Derived.Test.YtfphkpdobbffeaaDoorAh3
import Derived.DeepKeys3
set_option linter.unusedSimpArgs false
set_option linter.unusedVariables false
namespace Go.AH
open Go.RowKit

structure EqLaw (P : Program) (t : TypeId) (z : List AC) : Prop where
  guard : P.eqGuardType P.depth t = false
  key : WideMaps.KeyLaw P t
  wide : (match P.underlying t with | some (.array _ _) | some (.struct _) => true | _ => false) = true
  equal : ∀ (w : World) {x y : Value} {lx ly : Lit}, keyOf P t x = some lx → keyOf P t y = some ly → ∃ r : Bool, (Op.equal t x y).run P w = .ok r w ∧ (r = true ↔ lx = ly)
  lits : ∀ (xs : List AC) (vs : Array Value) (R : Ren), okL xs z → vs.size = xs.length → conL R xs vs 0 → ∃ l, keyOf P t (.agg vs) = some l

theorem okL_get : ∀ {xs zs : List AC}, okL xs zs → xs.length = zs.length ∧ ∀ (i : Nat) (x : AC), xs[i]? = some x → ∃ z, zs[i]? = some z ∧ okC x z
  | [], [], _ => ⟨rfl, fun i x h => by simp at h⟩
  | x :: xs, z :: zs, h => by
    obtain ⟨h1, h2⟩ := okL_get h.2
    refine ⟨by simp [h1], fun i y hi => ?_⟩
    cases i with
    | zero => simp at hi; subst hi; exact ⟨z, rfl, h.1⟩
    | succ i => simp at hi; obtain ⟨z', a, b⟩ := h2 i y hi; exact ⟨z', by simpa using a, b⟩
  | [], _ :: _, h => h.elim
  | _ :: _, [], h => h.elim
theorem okL_of : ∀ {xs zs : List AC}, xs.length = zs.length → (∀ (i : Nat) (x z : AC), xs[i]? = some x → zs[i]? = some z → okC x z) → okL xs zs
  | [], [], _, _ => trivial
  | x :: xs, z :: zs, h, hh => ⟨hh 0 x z rfl rfl, okL_of (by simpa using h) fun i x z a b => hh (i + 1) x z (by simpa using a) (by simpa using b)⟩
  | [], _ :: _, h, _ => by simp at h
  | _ :: _, [], h, _ => by simp at h
theorem okL_app {a b c d : List AC} (h : okL (a ++ b) (c ++ d)) (hl : a.length = c.length) : okL a c ∧ okL b d := by
  obtain ⟨h1, h2⟩ := okL_get h
  simp at h1
  refine ⟨okL_of hl fun i x z hi hz => ?_, okL_of (by omega) fun i x z hi hz => ?_⟩
  · have hlt := (List.getElem?_eq_some_iff.1 hi).1
    obtain ⟨z', e1, e2⟩ := h2 i x (by rw [List.getElem?_append_left hlt]; exact hi)
    rw [List.getElem?_append_left (by omega), hz] at e1
    injection e1 with e1; exact e1 ▸ e2
  · obtain ⟨z', e1, e2⟩ := h2 (a.length + i) x (by rw [List.getElem?_append_right (by omega)]; simpa using hi)
    rw [List.getElem?_append_right (by omega), show a.length + i - c.length = i by omega, hz] at e1
    injection e1 with e1; exact e1 ▸ e2

/-- A number or a bool is one value. -/
theorem okC.val {x z : AC} (h : okC x z) {R R' : Ren} {u v : Value} (hu : conC R x u) (hv : conC R' x v) : u = v := by
  cases x <;> cases z <;> simp only [okC] at h <;> (simp only [conC] at hu hv; rw [hu, hv])
theorem okC.inj {x y z : AC} (hx : okC x z) (hy : okC y z) {R R' : Ren} {u : Value} (hu : conC R x u) (hv : conC R' y u) : x = y := by
  cases x <;> cases z <;> simp only [okC] at hx <;> cases y <;> simp only [okC] at hy <;> (simp only [conC] at hu hv; rw [hu] at hv)
  · injection hv with e1 e2; rw [e1, e2]
  · injection hv with e1; rw [e1]
theorem okL.vals {xs z : List AC} (h : okL xs z) {R R' : Ren} {us vs : Array Value} (h1 : us.size = xs.length) (h2 : vs.size = xs.length) (hu : conL R xs us 0) (hv : conL R' xs vs 0) : us = vs := by
  obtain ⟨_, hg⟩ := okL_get h
  refine Array.ext (by omega) fun i hi hi' => ?_
  have hx : xs[i]? = some xs[i] := List.getElem?_eq_getElem (by omega)
  obtain ⟨z', _, ok⟩ := hg i _ hx
  obtain ⟨u, a, b⟩ := hu i _ hx
  obtain ⟨v, c, d⟩ := hv i _ hx
  rw [Nat.zero_add] at a c
  rw [Array.getElem?_eq_getElem hi] at a
  rw [Array.getElem?_eq_getElem hi'] at c
  injection a with a; injection c with c
  rw [a, c]; exact ok.val b d
theorem okL.inj {xs ys z : List AC} (hx : okL xs z) (hy : okL ys z) {R R' : Ren} {us : Array Value} (hu : conL R xs us 0) (hv : conL R' ys us 0) : xs = ys := by
  obtain ⟨l1, g1⟩ := okL_get hx
  obtain ⟨l2, g2⟩ := okL_get hy
  refine List.ext_getElem? fun i => ?_
  by_cases hi : i < xs.length
  · have e1 : xs[i]? = some xs[i] := List.getElem?_eq_getElem hi
    have e2 : ys[i]? = some (ys[i]'(by omega)) := List.getElem?_eq_getElem (by omega)
    obtain ⟨z1, a1, o1⟩ := g1 i _ e1
    obtain ⟨z2, a2, o2⟩ := g2 i _ e2
    rw [a1] at a2; injection a2 with a2; subst a2
    obtain ⟨u, b1, c1⟩ := hu i _ e1
    obtain ⟨v, b2, c2⟩ := hv i _ e2
    rw [b1] at b2; injection b2 with b2; subst b2
    rw [e1, e2, o1.inj o2 c1 c2]
  · rw [List.getElem?_eq_none (by omega), List.getElem?_eq_none (by omega)]
theorem eqL_ok : ∀ {xs ys z : List AC}, okL xs z → okL ys z → ∃ r, eqL xs ys = some r ∧ (r = true ↔ xs = ys)
  | [], [], [], _, _ => ⟨true, rfl, by simp⟩
  | x :: xs, y :: ys, z :: zs, hx, hy => by
    obtain ⟨r, h1, h2⟩ := eqL_ok hx.2 hy.2
    have hc : ∃ q, eqC x y = some q ∧ (q = true ↔ x = y) := by
      have a := hx.1
      have b := hy.1
      cases x <;> cases z <;> simp only [okC] at a <;> cases y <;> simp only [okC] at b
      · obtain ⟨rfl, _⟩ := a; obtain ⟨rfl, _⟩ := b
        exact ⟨_, by simp [eqC]; rfl, by simp⟩
      · exact ⟨_, rfl, by simp⟩
    obtain ⟨q, h3, h4⟩ := hc
    exact ⟨q && r, by simp [eqL, h1, h3], by simp [h2, h4]⟩
  | [], y :: ys, z, hx, hy => by cases z <;> simp [okL] at hx hy
  | x :: xs, [], z, hx, hy => by cases z <;> simp [okL] at hx hy
  | [], [], z :: zs, hx, _ => hx.elim
  | x :: xs, y :: ys, [], hx, _ => hx.elim

variable {P : Program} {w : World} {t : TypeId} {z : List AC}

theorem EqLaw.run (h : EqLaw P t z) {xs ys : List AC} {vs us : Array Value} {R R' : Ren} {r : Bool} (hr : eqL xs ys = some r) (hx : okL xs z) (hy : okL ys z) (h1 : vs.size = xs.length) (h2 : us.size = ys.length)
    (h3 : conL R xs vs 0) (h4 : conL R' ys us 0) : (Op.equal t (.agg vs) (.agg us)).run P w = .ok r w := by
  obtain ⟨lx, k1⟩ := h.lits xs vs R hx h1 h3
  obtain ⟨ly, k2⟩ := h.lits ys us R' hy h2 h4
  obtain ⟨r', e1, e2⟩ := h.equal w k1 k2
  obtain ⟨r'', e3, e4⟩ := eqL_ok hx hy
  rw [hr] at e3; injection e3 with e3; subst e3
  have : r' = r := by
    rw [Bool.eq_iff_iff, e2, e4]
    constructor
    · rintro rfl
      have := h.key.inj k1 k2
      injection this with this; subst this
      exact hx.inj hy h3 h4
    · rintro rfl
      have := hx.vals h1 h2 h3 h4
      subst this
      rw [k1] at k2; injection k2
  rw [e1, this]

/-- Entries, one by one. -/
def entOk (R : Ren) (p : List AC × AC) (e : MapEntry) : Prop := (∃ vs : Array Value, e.key = .agg vs ∧ vs.size = p.1.length ∧ conL R p.1 vs 0) ∧ conC R p.2 e.val
theorem findAsking_sound (h : EqLaw P t z) {R : Ren} {ks : List AC} {vs : Array Value} (hk : okL ks z) (h1 : vs.size = ks.length) (h3 : conL R ks vs 0) : ∀ (m : List (List AC × AC)) (es : List MapEntry) (i0 : Nat), es.length = m.length →
    (∀ (i : Nat) (p : List AC × AC) (e : MapEntry), m[i]? = some p → es[i]? = some e → entOk R p e) → (∀ p ∈ m, okL p.1 z) →
    (mget m ks = none ∧ (Instr.findAsking t (.agg vs) es i0).run P w = .ok none w ∧ ∀ u, mset m ks u = m ++ [(ks, u)]) ∨
    ∃ j e v, (Instr.findAsking t (.agg vs) es i0).run P w = .ok (some (i0 + j, e.val)) w ∧ es[j]? = some e ∧ e.key = .agg vs ∧ mget m ks = some v ∧ conC R v e.val ∧ ∀ u, mset m ks u = m.set j (ks, u)
  | [], [], i0, _, _, _ => .inl ⟨rfl, by simp [Instr.findAsking], fun u => rfl⟩
  | (k, v) :: m, e :: es, i0, hl, hh, ho => by
    obtain ⟨⟨us, g1, g2, g3⟩, g4⟩ := hh 0 (k, v) e rfl rfl
    have hok := ho (k, v) (by simp)
    obtain ⟨r, e1, e2⟩ := eqL_ok hk hok
    have hrun := h.run (w := w) e1 hk hok h1 g2 h3 g3
    rw [← g1] at hrun
    cases r with
    | true =>
      have ek : ks = k := e2.1 rfl
      subst ek
      refine .inr ⟨0, e, v, by simp [Instr.findAsking, hrun], rfl, ?_, by simp [mget, e1], g4, fun u => by simp [mset, e1]⟩
      rw [g1, hk.vals g2 h1 g3 h3]
    | false =>
      rcases findAsking_sound h hk h1 h3 m es (i0 + 1) (by simpa using hl) (fun i p e a b => hh (i + 1) p e (by simpa using a) (by simpa using b)) (fun p hp => ho p (by simp [hp])) with ⟨a1, a2, a3⟩ | ⟨j, e', v', a1, a2, a3, a4, a5, a6⟩
      · exact .inl ⟨by simp [mget, e1, a1], by simp [Instr.findAsking, hrun, a2], fun u => by simp [mset, e1, a3]⟩
      · exact .inr ⟨j + 1, e', v', by simp [Instr.findAsking, hrun, a1, Nat.add_assoc, Nat.add_comm 1 j], by simpa using a2, a3, by simp [mget, e1, a4], a5, fun u => by simp [mset, e1, a6]⟩
  | [], e :: es, _, hl, _, _ => by simp at hl
  | p :: m, [], _, hl, _, _ => by simp at hl

theorem mset_ok {m : List (List AC × AC)} {ks : List AC} {u : AC} (h : mOk m ks z) : ∀ p ∈ mset m ks u, okL p.1 z := by
  obtain ⟨hk, h⟩ := h
  induction m with
  | nil => intro p hp; simp [mset] at hp; subst hp; exact hk
  | cons q m ih =>
    obtain ⟨k, v⟩ := q
    intro p hp
    simp only [mset] at hp
    split at hp
    · rcases List.mem_cons.1 hp with e | e
      · subst e; exact h (k, v) (by simp)
      · exact h p (by simp [e])
    · rcases List.mem_cons.1 hp with e | e
      · subst e; exact h (k, v) (by simp)
      · exact ih (fun p hp => h p (by simp [hp])) p e

/-! ### The law, held against the program by the kernel -/
def kindsF (P : Program) (k : TypeId → Option (List AC)) : Nat → List Field → Option (List AC)
  | _, [] => some []
  | off, f :: r => if f.offset = off ∧ (f.name != "_") = true then match k f.type with
    | some z => if z.length = P.cellsOf f.type then (kindsF P k (off + z.length) r).map (z ++ ·) else none
    | none => none
    else none
def kindsAt (P : Program) : Nat → TypeId → Option (List AC)
  | 0, _ => none
  | d + 1, t => match P.underlying t with
    | some .bool => some [.bool false]
    | some (.int q) => some [.int q 0]
    | some (.array n e) => (match kindsAt P d e with
      | some z => if z.length = P.cellsOf e ∧ n * z.length = P.cellsOf t then some (rep n z) else none
      | none => none)
    | some (.struct fs) => (match kindsF P (kindsAt P d) 0 fs.toList with
      | some z => if z.length = P.cellsOf t ∧ fs.all (·.name != "_") = true then some z else none
      | none => none)
    | _ => none

def litC : AC → Lit
  | .int k n => .int k n
  | .bool b => .bool b
  | _ => .nil
theorem lits_of_con {P : Program} : ∀ (D : Nat) (t : TypeId) (zs xs : List AC) (cs : List Value) (R : Ren), kindsAt P D t = some zs → okL xs zs → cs.length = xs.length →
    (∀ (i : Nat) (x : AC), xs[i]? = some x → ∃ v, cs[i]? = some v ∧ conC R x v) → ∃ L, P.keyLits D t cs = some L
  | 0, _, _, _, _, _, h, _, _, _ => by simp [kindsAt] at h
  | D + 1, t, zs, xs, cs, R, h, ho, hl, hc => by
    unfold kindsAt at h
    unfold Program.keyLits
    split at h <;> first | (cases h; done) | skip
    · rename_i hu
      injection h with h; subst h
      rcases xs with _ | ⟨x, _ | ⟨y, xs⟩⟩ <;> simp only [okL, and_true, and_false] at ho
      cases x <;> simp only [okC] at ho
      rcases cs with _ | ⟨v, _ | ⟨v2, cs⟩⟩ <;> simp at hl
      obtain ⟨u, h1, h2⟩ := hc 0 _ rfl
      simp at h1; subst h1
      simp only [conC] at h2; subst h2
      exact ⟨[.bool _], by simp only [hu]; rfl⟩
    · rename_i q hu
      injection h with h; subst h
      rcases xs with _ | ⟨x, _ | ⟨y, xs⟩⟩ <;> simp only [okL, and_true, and_false] at ho
      cases x <;> simp only [okC] at ho
      rcases cs with _ | ⟨v, _ | ⟨v2, cs⟩⟩ <;> simp at hl
      obtain ⟨u, h1, h2⟩ := hc 0 _ rfl
      simp at h1; subst h1
      simp only [conC] at h2; subst h2
      obtain ⟨rfl, h3, h4⟩ := ho
      exact ⟨[.int _ _], by simp only [hu]; exact if_pos ⟨trivial, by simp [Lit.wf, h3, h4]⟩⟩
    · rename_i n e hu
      split at h <;> first | (cases h; done) | skip
      rename_i z hz
      split at h <;> first | (cases h; done) | skip
      rename_i hh
      obtain ⟨hz1, hz2⟩ := hh
      injection h with h; subst h
      have hlen := (okL_get ho).1
      have hrl : ∀ n, (rep n z).length = n * z.length := by
        intro n
        induction n with
        | zero => simp [rep]
        | succ n ih => simp [rep, ih, Nat.succ_mul, Nat.add_comm]
      have hrl := hrl n
      simp only [hu]
      rw [if_pos (by omega)]
      have key : ∀ (n : Nat) (k0 : Nat) (xs : List AC) (cs : List Value), okL xs (rep n z) → cs.length = xs.length → (∀ (i : Nat) (x : AC), xs[i]? = some x → ∃ v, cs[i]? = some v ∧ conC R x v) →
          ∃ L, ((List.range' k0 n).mapM fun i => P.keyLits D e ((cs.drop ((i - k0) * P.cellsOf e)).take (P.cellsOf e))) = some L := by
        intro n
        induction n with
        | zero => intro k0 xs cs _ _ _; exact ⟨[], by simp⟩
        | succ n ih =>
          intro k0 xs cs ho hl hc
          have hlen := (okL_get ho).1
          simp only [rep, List.length_append] at hlen
          have hsplit : xs = xs.take z.length ++ xs.drop z.length := (List.take_append_drop _ _).symm
          obtain ⟨o1, o2⟩ := okL_app (a := xs.take z.length) (b := xs.drop z.length) (c := z) (d := rep n z) (by rw [← hsplit]; exact ho) (by simp; omega)
          obtain ⟨L1, hL1⟩ := lits_of_con D e z (xs.take z.length) (cs.take z.length) R hz o1 (by simp; omega) (fun i x hi => by
            rw [List.getElem?_take] at hi
            split at hi
            · rename_i hlt
              obtain ⟨v, a, b⟩ := hc i x hi
              exact ⟨v, by rw [List.getElem?_take, if_pos hlt]; exact a, b⟩
            · cases hi)
          obtain ⟨L2, hL2⟩ := ih (k0 + 1) (xs.drop z.length) (cs.drop z.length) o2 (by simp; omega) (fun i x hi => by
            rw [List.getElem?_drop] at hi
            obtain ⟨v, a, b⟩ := hc _ x hi
            exact ⟨v, by rw [List.getElem?_drop]; exact a, b⟩)
          refine ⟨L1 :: L2, ?_⟩
          rw [List.range'_succ, List.mapM_cons]
          have e2 : ((List.range' (k0 + 1) n).mapM fun i => P.keyLits D e ((cs.drop ((i - k0) * P.cellsOf e)).take (P.cellsOf e))) = some L2 := by
            rw [← hL2]
            have cong : ∀ (l : List Nat) (f g : Nat → Option (List Lit)), (∀ i ∈ l, f i = g i) → l.mapM f = l.mapM g := by
              intro l f g
              induction l with
              | nil => intro _; rfl
              | cons a l ih => intro h; rw [List.mapM_cons, List.mapM_cons, h a (by simp), ih fun i hi => h i (by simp [hi])]
            refine cong _ _ _ fun i hi => ?_
            have hi' := (List.mem_range'_1.1 hi).1
            rw [List.drop_drop, hz1]
            congr 3
            rw [show i - k0 = (i - (k0 + 1)) + 1 by omega, Nat.succ_mul]; omega
          simp only [Nat.sub_self, Nat.zero_mul, List.drop_zero]
          rw [e2, ← hz1, hL1]; rfl
      obtain ⟨L, hL⟩ := key n 0 xs cs ho hl hc
      rw [List.range_eq_range']
      simp only [Nat.sub_zero] at hL
      exact ⟨_, by rw [hL]; rfl⟩
    · rename_i fs hu
      split at h <;> first | (cases h; done) | skip
      rename_i z hz
      split at h <;> first | (cases h; done) | skip
      rename_i hh
      obtain ⟨hz1, hz2⟩ := hh
      injection h with h; subst h
      have hlen := (okL_get ho).1
      simp only [hu]
      rw [if_pos ⟨by omega, hz2⟩]
      have key : ∀ (l : List Field) (off : Nat) (zs xs : List AC), kindsF P (kindsAt P D) off l = some zs → okL xs zs → (∀ (i : Nat) (x : AC), xs[i]? = some x → ∃ v, cs[off + i]? = some v ∧ conC R x v) →
          ∃ L, (l.mapM fun f => P.keyLits D f.type ((cs.drop f.offset).take (P.cellsOf f.type))) = some L := by
        intro l
        induction l with
        | nil => intro off zs xs _ _ _; exact ⟨[], by simp⟩
        | cons f r ih =>
          intro off zs xs hk ho hc
          simp only [kindsF] at hk
          split at hk <;> first | (cases hk; done) | skip
          rename_i h1
          split at hk <;> first | (cases hk; done) | skip
          rename_i z hz
          split at hk <;> first | (cases hk; done) | skip
          rename_i h2
          simp only [Option.map_eq_some_iff] at hk
          obtain ⟨zr, h3, rfl⟩ := hk
          have hlen := (okL_get ho).1
          simp only [List.length_append] at hlen
          have hsplit : xs = xs.take z.length ++ xs.drop z.length := (List.take_append_drop _ _).symm
          obtain ⟨o1, o2⟩ := okL_app (a := xs.take z.length) (b := xs.drop z.length) (c := z) (d := zr) (by rw [← hsplit]; exact ho) (by simp; omega)
          have hin : ∀ i, i < xs.length → off + i < cs.length := fun i hi => by
            obtain ⟨v, a, _⟩ := hc i _ (List.getElem?_eq_getElem hi)
            exact (List.getElem?_eq_some_iff.1 a).1
          have hlt : z.length ≤ cs.length - off := by
            by_cases h0 : z.length = 0
            · omega
            · have := hin (z.length - 1) (by omega); omega
          obtain ⟨L1, hL1⟩ := lits_of_con D f.type z (xs.take z.length) ((cs.drop off).take z.length) R hz o1 (by simp; omega) (fun i x hi => by
            rw [List.getElem?_take] at hi
            split at hi
            · rename_i hlt
              obtain ⟨v, a, b⟩ := hc i x hi
              exact ⟨v, by rw [List.getElem?_take, if_pos hlt, List.getElem?_drop]; exact a, b⟩
            · cases hi)
          obtain ⟨L2, hL2⟩ := ih (off + z.length) zr (xs.drop z.length) h3 o2 (fun i x hi => by
            rw [List.getElem?_drop] at hi
            obtain ⟨v, a, b⟩ := hc _ x hi
            exact ⟨v, by rw [Nat.add_assoc]; exact a, b⟩)
          refine ⟨L1 :: L2, ?_⟩
          rw [List.mapM_cons, hL2, h1.1, ← h2, hL1]; rfl
      obtain ⟨L, hL⟩ := key fs.toList 0 _ xs hz ho (fun i x hi => by rw [Nat.zero_add]; exact hc i x hi)
      exact ⟨_, by rw [hL]; rfl⟩

def acK : AC → AC → Bool
  | .int k _, .int k' _ => k == k'
  | .bool _, .bool _ => true
  | _, _ => false
def acsK : List AC → List AC → Bool
  | [], [] => true
  | x :: xs, y :: ys => acK x y && acsK xs ys
  | _, _ => false
theorem acsK_ok : ∀ {zs ys xs : List AC}, acsK zs ys = true → okL xs zs → okL xs ys
  | [], [], xs, _, h => h
  | z :: zs, y :: ys, [], _, h => h.elim
  | z :: zs, y :: ys, x :: xs, hk, h => by
    simp only [acsK, Bool.and_eq_true] at hk
    refine ⟨?_, acsK_ok hk.2 h.2⟩
    have a := hk.1
    have b := h.1
    cases z <;> cases y <;> simp only [acK, beq_iff_eq] at a <;> first | (cases a; done) | skip
    · subst a; cases x <;> simp only [okC] at b ⊢ <;> exact b
    · cases x <;> simp only [okC] at b ⊢
  | [], _ :: _, _, h, _ => by cases h
  | _ :: _, [], _, h, _ => by cases h

def keyB (P : Program) (t : TypeId) (z : List AC) : Bool :=
  P.keyTypeAt 9 t && P.keyType t && P.tiled 9 t && (match P.underlying t with | some (.array _ _) | some (.struct _) => true | _ => false) && !P.eqGuardType P.depth t && P.cellsOf t == z.length && (match kindsAt P (P.types.size + 1) t with
    | some y => acsK z y
    | none => false)
theorem eqLaw_of {P : Program} {t : TypeId} {z : List AC} (h : keyB P t z = true) : EqLaw P t z := by
  unfold keyB at h
  simp only [Bool.and_eq_true, Bool.not_eq_true', beq_iff_eq] at h
  obtain ⟨⟨⟨⟨⟨⟨h1, h2⟩, h3⟩, h4⟩, h5⟩, h6⟩, h7⟩ := h
  refine ⟨h5, deep_law (by decide) h1 h3 h4, h4, fun w => run_equal_deep w (by decide) h1 h4, fun xs vs R ho hs hc => ?_⟩
  split at h7 <;> first | (cases h7; done) | skip
  rename_i y hy
  have hlen := (okL_get ho).1
  obtain ⟨L, hL⟩ := lits_of_con (P := P) (P.types.size + 1) t y xs vs.toList R hy (acsK_ok h7 ho) (by simpa using hs) (fun i x hi => by
    obtain ⟨v, a, b⟩ := hc i x hi
    exact ⟨v, by rw [Nat.zero_add] at a; simpa using a, b⟩)
  unfold keyOf
  have hf : (Value.agg vs).formed P t = true := by
    unfold Value.formed
    split at h4 <;> first | (cases h4; done) | skip
    · rename_i e; simp only [e, beq_iff_eq]; omega
    · rename_i e; simp only [e, beq_iff_eq]; omega
  have hcl : (Value.agg vs).cells.toList = vs.toList := rfl
  split at h4 <;> first | (cases h4; done) | skip
  · rename_i e; simp only [e, h2, hf, hcl, hL]; exact ⟨_, rfl⟩
  · rename_i e; simp only [e, h2, hf, hcl, hL]; exact ⟨_, rfl⟩

end Go.AH
