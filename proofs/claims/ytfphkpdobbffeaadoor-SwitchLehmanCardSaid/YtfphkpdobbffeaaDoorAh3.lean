/-
  Calls by contract, regions, and code over abstract states.
-/
import Derived.Test.YtfphkpdobbffeaaDoorAh2
import Derived.Shelf.Abstract
set_option linter.unusedSimpArgs false
set_option linter.unusedVariables false
namespace Go.AH
open Go.RowKit

/-! ### Other numbers for the same blocks -/
def AC.ren (q : Nat → Nat) : AC → AC
  | .ptr id o => .ptr (q id) o
  | .sl id o n c => .sl (q id) o n c
  | .row id n => .row (q id) n
  | .rs id o n => .rs (q id) o n
  | .map id => .map (q id)
  | .fn f a b => .fn f (a.map q) (b.map q)
  | .int k n => .int k n
  | .bool b => .bool b
  | .str s => .str s
  | .nilp => .nilp
  | .nils => .nils
  | .nilfn => .nilfn
  | .nilm => .nilm
  | .yv l => .yv l
  | .rp id o n c z => .rp (q id) o n c z
def AE.ren (q : Nat → Nat) : AE → AE
  | .c x => .c (x.ren q)
  | .g cs => .g (cs.map (AC.ren q))
def AV.ren (q : Nat → Nat) : AV → AV
  | .c x => .c (x.ren q)
  | .g cs => .g (cs.map (AC.ren q))
  | .t es => .t (es.map (AE.ren q))
def ABlk.ren (q : Nat → Nat) : ABlk → ABlk
  | .ro cs => .ro (cs.map (AC.ren q))
  | .own cs => .own (cs.map (AC.ren q))
  | .row e z cs => .row e z (cs.map (AC.ren q))
  | .mp m => .mp (m.map fun p => (p.1.map (AC.ren q), p.2.ren q))
  | .mi I => .mi I
  | .si s p => .si s p
  | .li I => .li I

def Ren.comp (R : Ren) (q : Nat → Nat) : Ren := ⟨fun i => R.ρ (q i), fun i => R.δ (q i), fun i => R.κ (q i)⟩

theorem comp_adr (R : Ren) (q : Nat → Nat) (i o : Nat) : (R.comp q).adr i o = R.adr (q i) o := rfl
theorem conC_ren {R : Ren} {q : Nat → Nat} {x : AC} {v : Value} : conC R (x.ren q) v ↔ conC (R.comp q) x v := by
  cases x <;> simp only [conC, AC.ren, Ren.comp] <;> try rfl
  simp only [List.map_map]
  rfl
theorem conL_ren {R : Ren} {q : Nat → Nat} {cs : List AC} {vs : Array Value} {o : Nat} : conL R (cs.map (AC.ren q)) vs o ↔ conL (R.comp q) cs vs o := by
  constructor
  · intro h i x hi
    obtain ⟨v, hv, hc⟩ := h i (x.ren q) (by simp [hi])
    exact ⟨v, hv, conC_ren.1 hc⟩
  · intro h i x hi
    rw [List.getElem?_map] at hi
    cases hq : cs[i]? with
    | none => simp [hq] at hi
    | some y =>
      simp [hq] at hi
      obtain ⟨v, hv, hc⟩ := h i y hq
      exact ⟨v, hv, hi ▸ conC_ren.2 hc⟩
theorem conE_ren {R : Ren} {q : Nat → Nat} {x : AE} {v : Value} : conE R (x.ren q) v ↔ conE (R.comp q) x v := by
  cases x <;> simp only [conE, AE.ren, conC_ren, conL_ren, List.length_map]
theorem conV_ren {R : Ren} {q : Nat → Nat} {x : AV} {v : Value} : conV R (x.ren q) v ↔ conV (R.comp q) x v := by
  cases x with
  | c x => simp only [conV, AV.ren, conC_ren]
  | g cs => simp only [conV, AV.ren, conL_ren, List.length_map]
  | t es =>
    simp only [conV, AV.ren, List.length_map, List.getElem?_map]
    constructor
    · rintro ⟨vs, a, b, c⟩
      refine ⟨vs, a, b, fun i e hi => ?_⟩
      obtain ⟨u, hu, hc⟩ := c i (e.ren q) (by simp [hi])
      exact ⟨u, hu, conE_ren.1 hc⟩
    · rintro ⟨vs, a, b, c⟩
      refine ⟨vs, a, b, fun i e hi => ?_⟩
      cases hq : es[i]? with
      | none => simp [hq] at hi
      | some y =>
        simp [hq] at hi
        obtain ⟨u, hu, hc⟩ := c i y hq
        exact ⟨u, hu, hi ▸ conE_ren.2 hc⟩
theorem BRel_ren {R : Ren} {q : Nat → Nat} {id : Nat} {w : World} {b : ABlk} : BRel R (q id) w (b.ren q) ↔ BRel (R.comp q) id w b := by
  cases b with
  | ro cs => simp only [BRel, ABlk.ren, conL_ren]; rfl
  | own cs => simp only [BRel, ABlk.ren, conL_ren, List.length_map]; rfl
  | row e z cs => simp only [BRel, ABlk.ren, conL_ren, List.length_map]; rfl
  | mp m =>
    simp only [BRel, ABlk.ren, List.length_map, List.getElem?_map]
    constructor
    · rintro ⟨es, cl, a, b, c⟩
      refine ⟨es, cl, a, b, fun i k v hi => ?_⟩
      obtain ⟨e, he, ⟨vs, h1, h2, h3⟩, h4⟩ := c i (k.map (AC.ren q)) (v.ren q) (by simp [hi])
      exact ⟨e, he, ⟨vs, h1, by simpa using h2, conL_ren.1 h3⟩, conC_ren.1 h4⟩
    · rintro ⟨es, cl, a, b, c⟩
      refine ⟨es, cl, a, b, fun i k v hi => ?_⟩
      cases hq : m[i]? with
      | none => simp [hq] at hi
      | some p =>
        obtain ⟨k', v'⟩ := p
        simp [hq] at hi
        obtain ⟨rfl, rfl⟩ := hi
        obtain ⟨e, he, ⟨vs, h1, h2, h3⟩, h4⟩ := c i k' v' hq
        exact ⟨e, he, ⟨vs, h1, by simpa using h2, conL_ren.2 h3⟩, conC_ren.2 h4⟩
  | mi I =>
    constructor
    · intro h
      obtain ⟨m, ⟨hI, hp⟩, hm⟩ := BRel.mi_iff.1 h
      exact BRel.mi_iff.2 ⟨m, ⟨hI, hp⟩, BRel.mp_prim (R := R) (R' := R.comp q) (id := q id) (id' := id) hp rfl hm⟩
    · intro h
      obtain ⟨m, ⟨hI, hp⟩, hm⟩ := BRel.mi_iff.1 h
      exact BRel.mi_iff.2 ⟨m, ⟨hI, hp⟩, BRel.mp_prim (R := R.comp q) (R' := R) (id := id) (id' := q id) hp rfl hm⟩
  | si s p => exact Iff.rfl
  | li I =>
    constructor
    · rintro ⟨cs, ⟨hI, hp⟩, c, t, a, d, e, b⟩
      exact ⟨cs, ⟨hI, hp⟩, c, t, a, d, e, conL_prim hp b⟩
    · rintro ⟨cs, ⟨hI, hp⟩, c, t, a, d, e, b⟩
      exact ⟨cs, ⟨hI, hp⟩, c, t, a, d, e, conL_prim hp b⟩
theorem ABlk.ren_wr (q : Nat → Nat) (b : ABlk) : (b.ren q).wr = b.wr := by cases b <;> rfl

theorem AC.ren_lt {q : Nat → Nat} {n m : Nat} {x : AC} (h : x.lt n) (hq : ∀ i, idOk n i → idOk m (q i)) : (x.ren q).lt m := by
  cases x <;> simp only [AC.lt, AC.ren] at h ⊢ <;> first | exact hq _ h | skip
  refine ⟨fun i hi => ?_, fun i hi => ?_⟩
  · obtain ⟨j, hj, rfl⟩ := List.mem_map.1 hi; exact hq _ (h.1 j hj)
  · obtain ⟨j, hj, rfl⟩ := List.mem_map.1 hi; exact hq _ (h.2 j hj)
theorem LL.ren {q : Nat → Nat} {n m : Nat} {cs : List AC} (h : LL n cs) (hq : ∀ i, idOk n i → idOk m (q i)) : LL m (cs.map (AC.ren q)) := fun x hx => by
  obtain ⟨y, hy, rfl⟩ := List.mem_map.1 hx; exact AC.ren_lt (h y hy) hq
theorem AE.ren_lt {q : Nat → Nat} {n m : Nat} {x : AE} (h : x.lt n) (hq : ∀ i, idOk n i → idOk m (q i)) : (x.ren q).lt m := by
  cases x
  · exact AC.ren_lt h hq
  · exact LL.ren h hq
theorem AV.ren_lt {q : Nat → Nat} {n m : Nat} {x : AV} (h : x.lt n) (hq : ∀ i, idOk n i → idOk m (q i)) : (x.ren q).lt m := by
  cases x
  · exact AC.ren_lt h hq
  · exact LL.ren h hq
  · intro e he; obtain ⟨y, hy, rfl⟩ := List.mem_map.1 he; exact AE.ren_lt (h y hy) hq
theorem ABlk.ren_lt {q : Nat → Nat} {n m : Nat} {b : ABlk} (h : b.lt n) (hq : ∀ i, idOk n i → idOk m (q i)) : (b.ren q).lt m := by
  cases b
  · exact LL.ren h hq
  · exact LL.ren h hq
  · exact LL.ren h hq
  · intro p hp; obtain ⟨y, hy, rfl⟩ := List.mem_map.1 hp; exact ⟨LL.ren (h y hy).1 hq, AC.ren_lt (h y hy).2 hq⟩
  · trivial
  · trivial
  · trivial

/-! ### A function's contract -/
/-- Called with values that fit args, in a memory that fits hp (numbers below k), f returns: a value, a memory and a next number of which Post holds. -/
structure FSpec (P : Program) (f : FuncId) (args : List AV) (hp : List (Nat × ABlk)) (k : Nat) (Post : AV → List (Nat × ABlk) → Nat → Prop) : Prop where
  call : ∀ (vs : Array Value) (w : World), (callFunc f vs).run P w = .ok (.enter f vs) w
  run : ∀ (w : World) (R : Ren) (vs : Array Value), R.ok → vs.size = args.length → (∀ (i : Nat) (v : AV), args[i]? = some v → ∃ u : Value, vs[i]? = some u ∧ conV R v u) → HRel R hp w →
    Calls P f vs w fun e w' => ∃ u r hp' k' R', e = .returned u ∧ Post r hp' k' ∧ R'.ok ∧ Agree k R R' ∧ k ≤ k' ∧ conV R' r u ∧ r.lt k' ∧ HRel R' hp' w' ∧ (hp'.map Prod.fst).Nodup ∧
      (∀ i b, lk hp' i = some b → (i < k' ∨ GB ≤ i) ∧ b.lt k') ∧
      (∀ i b, lk hp' i = some b → b.wr = true → (∃ i0 b0, lk hp i0 = some b0 ∧ b0.wr = true ∧ R.ρ i0 = R'.ρ i) ∨ w.heap.size ≤ R'.ρ i) ∧
      Fr (fun j => ∃ i b, lk hp i = some b ∧ b.wr = true ∧ R.ρ i = j) w w'

/-- The caller's number of a callee's number: l of what was handed over, new ones from n on. -/
def qq (l : List Nat) (n : Nat) (i : Nat) : Nat := if GB ≤ i then i else match l[i]? with | some j => j | none => n + (i - l.length)

/-- What the caller's memory is behind the call. -/
def behind (l : List Nat) (n : Nat) (hp0 : List (Nat × ABlk)) : List (Nat × ABlk) → List (Nat × ABlk) → List (Nat × ABlk)
  | [], H => H
  | (i, b) :: r, H => match lk hp0 i with
    | some (.ro _) => behind l n hp0 r H
    | _ => if b.wr then up (behind l n hp0 r H) (qq l n i) (b.ren (qq l n)) else behind l n hp0 r H
def gone (l : List Nat) (n : Nat) : List (Nat × ABlk) → List (Nat × ABlk) → List (Nat × ABlk)
  | [], H => H
  | (i, b) :: r, H => if b.wr then del (gone l n r H) (qq l n i) else gone l n r H

/-- A block that is known serves as one that is read. -/
def Gives (b' b : ABlk) : Prop := b' = b ∨ ∃ cs cs', b = .ro cs ∧ b'.cells = some cs' ∧ (cs = cs' ∨ cs = [])
theorem Gives.eq {b' b : ABlk} (h : Gives b' b) (hw : b.wr = true) : b' = b := by
  rcases h with h | ⟨cs, _, h, _⟩
  · exact h
  · subst h; cases hw
theorem Gives.rel {R : Ren} {id : Nat} {w : World} {b' b : ABlk} (h : Gives b' b) (hb : BRel R id w b') : BRel R id w b := by
  rcases h with h | ⟨cs, cs', h, hc, he⟩
  · exact h ▸ hb
  · subst h
    obtain ⟨c, t, z, h1, h2, _⟩ := hb.cell hc
    rcases he with rfl | rfl
    · exact ⟨c, t, z, h1, h2⟩
    · exact ⟨c, t, z, h1, fun i x hi => by simp at hi⟩

/-- A call by contract. -/
structure CallOk (P : Program) (f : FuncId) (vs : List AV) (s : AS) (kk : AV → AS → Prop) (args : List AV) (hp0 : List (Nat × ABlk)) (l : List Nat) (Post : AV → List (Nat × ABlk) → Nat → Prop) : Prop where
  spec : FSpec P f args hp0 l.length Post
  old : ∀ i ∈ l, idOk s.nx i
  args : args.map (AV.ren (qq l s.nx)) = vs
  heap : ∀ i b, lk hp0 i = some b → (i < l.length ∨ GB ≤ i) ∧ ∃ b', lk s.hp (qq l s.nx i) = some b' ∧ Gives b' (b.ren (qq l s.nx))
  inj : ∀ i j b c, lk hp0 i = some b → lk hp0 j = some c → i ≠ j → b.wr = true → qq l s.nx i ≠ qq l s.nx j
  k : ∀ r hp' k', Post r hp' k' → s.nx + (k' - l.length) ≤ GB ∧ kk (r.ren (qq l s.nx)) { s with hp := behind l s.nx hp0 hp' (gone l s.nx hp0 s.hp), nx := s.nx + (k' - l.length) }

/-- A call of a function that the model itself answers, and that changes nothing. -/
def CallE (P : Program) (f : FuncId) (vs : List AV) (s : AS) (kk : AV → AS → Prop) : Prop :=
  ∃ v, kk v s ∧ ∀ (E : Env) (R : Ren) (a : Act) (w : World) (us : Array Value), Fit E R s a w → us.size = vs.length → (∀ (i : Nat) (x : AV), vs[i]? = some x → ∃ u : Value, us[i]? = some u ∧ conV R x u) →
    ∃ u, (callFunc f us).run P w = .ok (.value u) w ∧ conV R v u ∧ v.lt s.nx
def CallA (P : Program) (f : FuncId) (vs : List AV) (s : AS) (kk : AV → AS → Prop) : Prop :=
  (∃ args hp0 l Post, CallOk P f vs s kk args hp0 l Post) ∨ CallE P f vs s kk

theorem lk_none_of_nodup {β : Type} {i : Nat} {b : β} {r : List (Nat × β)} (h : (((i, b) :: r).map Prod.fst).Nodup) : lk r i = none := by
  have h1 : i ∉ r.map Prod.fst := by simpa using (List.nodup_cons.1 h).1
  clear h
  induction r with
  | nil => rfl
  | cons p r ih =>
    obtain ⟨j, c⟩ := p
    simp only [List.map_cons, List.mem_cons, not_or] at h1
    simp only [lk]
    rw [if_neg (fun e => h1.1 e.symm)]
    exact ih h1.2

theorem lk_behind {l : List Nat} {n : Nat} {hp0 : List (Nat × ABlk)} : ∀ (hp' H : List (Nat × ABlk)) (j : Nat) (c : ABlk), (hp'.map Prod.fst).Nodup → lk (behind l n hp0 hp' H) j = some c →
    (∃ i b, lk hp' i = some b ∧ (∀ cs, lk hp0 i ≠ some (.ro cs)) ∧ b.wr = true ∧ qq l n i = j ∧ c = b.ren (qq l n)) ∨ lk H j = some c
  | [], H, j, c, _, h => .inr h
  | (i, b) :: r, H, j, c, hnd, h => by
    have hn := lk_none_of_nodup hnd
    have ih := lk_behind (l := l) (n := n) (hp0 := hp0) r H j c (by simpa using (List.nodup_cons.1 hnd).2)
    have up' : lk (behind l n hp0 r H) j = some c → (∃ i' b', lk ((i, b) :: r) i' = some b' ∧ (∀ cs, lk hp0 i' ≠ some (.ro cs)) ∧ b'.wr = true ∧ qq l n i' = j ∧ c = b'.ren (qq l n)) ∨ lk H j = some c := by
      intro h
      rcases ih h with ⟨i', b', h1, h2⟩ | h1
      · refine .inl ⟨i', b', ?_, h2⟩
        simp only [lk]
        rw [if_neg]
        · exact h1
        · intro e; subst e; rw [hn] at h1; cases h1
      · exact .inr h1
    simp only [behind] at h
    split at h
    · exact up' h
    · rename_i hx
      split at h
      · rename_i hw
        rw [lk_up] at h
        split at h
        · rename_i e
          injection h with h
          exact .inl ⟨i, b, by simp [lk], fun cs e => hx cs e, hw, e, h.symm⟩
        · exact up' h
      · exact up' h

theorem lk_gone {l : List Nat} {n : Nat} : ∀ (hp0 H : List (Nat × ABlk)) (j : Nat) (c : ABlk), lk (gone l n hp0 H) j = some c → lk H j = some c ∧ ∀ i b, lk hp0 i = some b → b.wr = true → qq l n i ≠ j
  | [], H, j, c, h => ⟨h, by intro i b hb; cases hb⟩
  | (i, b) :: r, H, j, c, h => by
    simp only [gone] at h
    have ih := lk_gone (l := l) (n := n) r H j c
    split at h
    · rename_i hw
      rw [lk_del] at h
      split at h
      · cases h
      · rename_i hne
        obtain ⟨h1, h2⟩ := ih h
        refine ⟨h1, fun i' b' hb hw' => ?_⟩
        simp only [lk] at hb
        split at hb
        · rename_i e; subst e; exact hne
        · exact h2 i' b' hb hw'
    · rename_i hw
      obtain ⟨h1, h2⟩ := ih h
      refine ⟨h1, fun i' b' hb hw' => ?_⟩
      simp only [lk] at hb
      split at hb
      · injection hb with hb; subst hb; exact absurd hw' hw
      · exact h2 i' b' hb hw'

variable {P : Program} {T : Nat → Option TI} {md : Bool} {E : Env} {R R' : Ren} {s : AS} {a : Act} {w w' : World}

/-- A callee has been at work on blocks that the activation may write. -/
theorem Fit.worked {M : Nat → Prop} {hp' : List (Nat × ABlk)} (F : Fit E R s a w) (hfr : Fr M w w') (hM : ∀ j, M j → ∃ i b, lk s.hp i = some b ∧ b.wr = true ∧ R.ρ i = j)
    (hsub : ∀ i b, lk hp' i = some b → lk s.hp i = some b ∧ ¬ M (R.ρ i)) : Fit E R { s with hp := hp' } a w' := by
  have hME : ∀ j, M j → E.M j ∨ E.W.heap.size ≤ j := fun j hj => by
    obtain ⟨i, b, h1, h2, h3⟩ := hM j hj; exact h3 ▸ F.wr i b h1 h2
  exact {
    ok := F.ok
    nt := F.nt
    tm := F.tm
    hp := ⟨fun id b hb => (F.hp.blk id b (hsub id b hb).1).of_block (hfr.block _ (F.hp.blk id b (hsub id b hb).1).lt (hsub id b hb).2), fun i j b c hi hj => F.hp.inj i j b c (hsub i b hi).1 (hsub j c hj).1⟩
    old := F.old
    wr := fun id b hb => F.wr id b (hsub id b hb).1
    nx := fun id b hb => F.nx id b (hsub id b hb).1
    nk := F.nk
    kk := F.kk
    fr := F.fr.trans hfr hME
    df := by
      obtain ⟨ds, h1, hnd, h2⟩ := F.df
      refine ⟨ds, h1, hnd, fun d hd => ⟨(h2 d hd).1, (hfr.block d (Array.getElem?_eq_some_iff.1 (h2 d hd).2).1 ?_).trans (h2 d hd).2⟩⟩
      intro hm
      obtain ⟨i, b, e1, e2, e3⟩ := hM d hm
      have hB := F.hp.blk i b e1
      have h3 := (h2 d hd).2
      rw [← e3] at h3
      cases b <;> simp only [BRel] at hB <;> simp_all
    wf := ⟨F.wf.tm, fun i b hb => F.wf.hp i b (hsub i b hb).1⟩ }

theorem Fit.adds {hp' : List (Nat × ABlk)} (F : Fit E R s a w) (h : ∀ j c, lk hp' j = some c → BRel R j w c ∧ (c.wr = true → E.M (R.ρ j) ∨ E.W.heap.size ≤ R.ρ j) ∧ idOk s.nx j ∧ c.lt s.nx)
    (hi : ∀ i j b c, lk hp' i = some b → lk hp' j = some c → i ≠ j → b.wr = true → R.ρ i ≠ R.ρ j) : Fit E R { s with hp := hp' } a w where
  ok := F.ok
  nt := F.nt
  tm := F.tm
  hp := ⟨fun id b hb => (h id b hb).1, hi⟩
  old := F.old
  wr := fun id b hb => (h id b hb).2.1
  nx := fun id b hb => (h id b hb).2.2.1
  nk := F.nk
  kk := F.kk
  fr := F.fr
  df := F.df
  wf := ⟨F.wf.tm, fun i b hb => (h i b hb).2.2⟩

theorem callOk_sound {f : FuncId} {vs : List AV} {kk : AV → AS → Prop} {args : List AV} {hp0 : List (Nat × ABlk)} {l : List Nat} {Post : AV → List (Nat × ABlk) → Nat → Prop} (C : CallOk P f vs s kk args hp0 l Post) (F : Fit E R s a w)
    {us : Array Value} (hus : us.size = vs.length) (hu : ∀ (i : Nat) (v : AV), vs[i]? = some v → ∃ u : Value, us[i]? = some u ∧ conV R v u) :
    Calls P f us w fun e w' => ∃ u v s' R', e = .returned u ∧ kk v s' ∧ Fit E R' s' a w' ∧ conV R' v u ∧ v.lt s'.nx := by
  obtain ⟨q, hq⟩ : ∃ q, q = qq l s.nx := ⟨_, rfl⟩
  have qG : ∀ i, q (GB + i) = GB + i := fun i => by rw [hq]; simp [qq, GB]
  have hgv : ∀ i b, lk hp0 i = some b → b.wr = true → lk s.hp (q i) = some (b.ren q) := fun i b hb hw => by
    obtain ⟨_, b', h1, h2⟩ := C.heap i b hb
    rw [hq]; rw [h2.eq (by rw [ABlk.ren_wr]; exact hw)] at h1; exact h1
  have hex : ∀ i b, lk hp0 i = some b → ∃ b', lk s.hp (q i) = some b' := fun i b hb => by
    obtain ⟨_, b', h1, h2⟩ := C.heap i b hb
    exact ⟨b', by rw [hq]; exact h1⟩
  have H0 : HRel (R.comp q) hp0 w := ⟨fun i b hb => by
      obtain ⟨_, b', h1, h2⟩ := C.heap i b hb
      rw [← hq] at h1 h2
      exact BRel_ren.1 (h2.rel (F.hp.blk _ _ h1)), fun i j b c hi hj hne hw => by
      obtain ⟨c', h1⟩ := hex j c hj
      exact F.hp.inj (q i) (q j) _ _ (hgv i b hi hw) h1 (by rw [hq]; exact C.inj i j b c hi hj hne hw) (by rw [ABlk.ren_wr]; exact hw)⟩
  refine (C.spec.run w (R.comp q) us ⟨fun i => by simp [Ren.comp, qG, F.ok.g], fun i => by simp [Ren.comp, qG, F.ok.d], fun i => by simp [Ren.comp, qG, F.ok.c]⟩ (by rw [hus, ← C.args]; simp) (fun i v hv => ?_) H0).mono ?_
  · obtain ⟨u, h1, h2⟩ := hu i (v.ren q) (by rw [← C.args, List.getElem?_map, hv, hq]; rfl)
    exact ⟨u, h1, conV_ren.1 h2⟩
  rintro e w' ⟨u, r, hp', k', R0, rfl, hpost, hok, hag, hkk', hr, hrl, hH, hnd, hlt, hwr, hfr⟩
  obtain ⟨hG, hk⟩ := C.k r hp' k' hpost
  rw [← hq] at hk
  let R2 : Ren := ⟨fun i => if i < s.nx ∨ GB ≤ i then R.ρ i else R0.ρ (l.length + (i - s.nx)), fun i => if i < s.nx ∨ GB ≤ i then R.δ i else R0.δ (l.length + (i - s.nx)), fun i => if i < s.nx ∨ GB ≤ i then R.κ i else R0.κ (l.length + (i - s.nx))⟩
  have ag2 : Agree s.nx R R2 := fun i hi => by
    have : i < s.nx ∨ GB ≤ i := hi
    simp [R2, this]
  have ok2 : R2.ok := ⟨fun i => by simp [R2, F.ok.g], fun i => by simp [R2, F.ok.d], fun i => by simp [R2, F.ok.c]⟩
  have hnx := F.nk.2
  have ag3 : Agree k' R0 (R2.comp q) := fun i hi => by
    by_cases h1 : GB ≤ i
    · obtain ⟨j, rfl⟩ := Nat.exists_eq_add_of_le h1
      have hqq := qG j
      refine ⟨?_, ?_, ?_⟩
      · simp [Ren.comp, hqq, R2, F.ok.g, hok.g]
      · simp [Ren.comp, hqq, R2, F.ok.d, hok.d]
      · obtain ⟨_, _, e⟩ := hag (GB + j) (.inr h1)
        simp [Ren.comp, hqq, R2] at e ⊢
        exact e.symm
    · have hi' : i < k' := by rcases hi with h | h; exact h; exact absurd h h1
      by_cases h2 : i < l.length
      · have e1 : q i = l[i] := by rw [hq]; simp [qq, h1, h2]
        have h3 : idOk s.nx l[i] := C.old _ (List.getElem_mem _)
        obtain ⟨a1, a2, a3⟩ := hag i (.inl h2)
        obtain ⟨b1, b2, b3⟩ := ag2 _ h3
        simp only [Ren.comp, e1] at a1 a2 a3 ⊢
        exact ⟨b1.trans a1.symm, b2.trans a2.symm, b3.trans a3.symm⟩
      · have e1 : q i = s.nx + (i - l.length) := by
          rw [hq]; simp [qq, h1, List.getElem?_eq_none (Nat.le_of_not_lt h2)]
        have h4 : ¬ (s.nx + (i - l.length) < s.nx ∨ GB ≤ s.nx + (i - l.length)) := by omega
        have h5 : l.length + (s.nx + (i - l.length) - s.nx) = i := by omega
        simp only [Ren.comp, e1, R2, if_neg h4, h5]
        exact ⟨trivial, trivial, trivial⟩
  have qok : ∀ i, idOk k' i → idOk (s.nx + (k' - l.length)) (q i) := fun i hi => by
    by_cases h1 : GB ≤ i
    · obtain ⟨j, rfl⟩ := Nat.exists_eq_add_of_le h1
      rw [qG]; exact .inr h1
    · have hi' : i < k' := by rcases hi with h | h; exact h; exact absurd h h1
      by_cases h2 : i < l.length
      · have e1 : q i = l[i] := by rw [hq]; simp [qq, h1, h2]
        rw [e1]; exact (C.old _ (List.getElem_mem _)).mono (Nat.le_add_right _ _)
      · have e1 : q i = s.nx + (i - l.length) := by
          rw [hq]; simp [qq, h1, List.getElem?_eq_none (Nat.le_of_not_lt h2)]
        rw [e1]; left; omega
  -- what was the caller's
  have F1 := F.worked (hp' := gone l s.nx hp0 s.hp) hfr (fun j ⟨i, b, h1, h2, h3⟩ => ⟨q i, b.ren q, hgv i b h1 h2, by rw [ABlk.ren_wr]; exact h2, h3⟩)
    (fun i b hb => by
      obtain ⟨h1, h2⟩ := lk_gone _ _ _ _ hb
      refine ⟨h1, ?_⟩
      rintro ⟨i', b', e1, e2, e3⟩
      refine F.hp.inj (q i') i _ b (hgv i' b' e1 e2) h1 (by rw [hq]; exact h2 i' b' e1 e2) (by rw [ABlk.ren_wr]; exact e2) e3)
  have F2 := F1.ren (m := s.nx + (k' - l.length)) ag2 ok2 (Nat.le_add_right _ _) hG
  have hold : ∀ j c, lk (gone l s.nx hp0 s.hp) j = some c → R2.ρ j = R.ρ j ∧ R.ρ j < w.heap.size := fun j c hj => by
    have h1 := (lk_gone _ _ _ _ hj).1
    exact ⟨(ag2 j (F.wf.hp j c h1).1).1, (F.hp.blk j c h1).lt⟩
  have hnew : ∀ i b, lk hp' i = some b → R2.ρ (q i) = R0.ρ i := fun i b hb => (ag3 i (hlt i b hb).1).1
  have F3 := F2.adds (hp' := behind l s.nx hp0 hp' (gone l s.nx hp0 s.hp)) (fun j c hj => by
      rcases lk_behind hp' _ j c hnd hj with ⟨i, b, h1, h2, h3, h4, h5⟩ | h1
      · rw [← hq] at h4 h5
        subst h4; subst h5
        have hid := (hlt i b h1).1
        refine ⟨BRel_ren.2 (BRel.agree ag3 hid (hlt i b h1).2 (hH.blk i b h1)), fun _ => ?_, qok i hid, ABlk.ren_lt (hlt i b h1).2 qok⟩
        rw [hnew i b h1]
        rcases hwr i b h1 h3 with ⟨i0, b0, g1, g2, g3⟩ | g1
        · rw [← g3]
          exact F.wr (q i0) _ (hgv i0 b0 g1 g2) (by rw [ABlk.ren_wr]; exact g2)
        · exact .inr (Nat.le_trans F.fr.size g1)
      · exact ⟨F2.hp.blk j c h1, F2.wr j c h1, F2.wf.hp j c h1⟩)
    (fun i j b c hi hj hne hw => by
      have mix : ∀ (i0 : Nat) (b0 : ABlk) (j0 : Nat) (c0 : ABlk), lk hp' i0 = some b0 → b0.wr = true → lk (gone l s.nx hp0 s.hp) j0 = some c0 → R2.ρ (q i0) ≠ R2.ρ j0 := by
        intro i0 b0 j0 c0 g1 g2 g3
        rw [hnew i0 b0 g1, (hold j0 c0 g3).1]
        rcases hwr i0 b0 g1 g2 with ⟨i1, b1, g4, g5, g8⟩ | g4
        · rw [← g8]
          obtain ⟨g6, g7⟩ := lk_gone _ _ _ _ g3
          exact F.hp.inj (q i1) j0 _ c0 (hgv i1 b1 g4 g5) g6 (by rw [hq]; exact g7 i1 b1 g4 g5) (by rw [ABlk.ren_wr]; exact g5)
        · have := (hold j0 c0 g3).2; omega
      rcases lk_behind hp' _ i b hnd hi with ⟨i0, b0, g1, g2, g3, g4, g5⟩ | g1
      · rw [← hq] at g4 g5
        rcases lk_behind hp' _ j c hnd hj with ⟨j0, c0, k1, k2, k3, k4, k5⟩ | k1
        · rw [← hq] at k4 k5
          subst g4; subst k4
          rw [hnew i0 b0 g1, hnew j0 c0 k1]
          exact hH.inj i0 j0 b0 c0 g1 k1 (fun e => hne (by rw [e])) g3
        · subst g4; exact mix i0 b0 j c g1 g3 k1
      · rcases lk_behind hp' _ j c hnd hj with ⟨j0, c0, k1, k2, k3, k4, k5⟩ | k1
        · rw [← hq] at k4 k5
          subst k4; exact fun e => mix j0 c0 i b k1 k3 g1 e.symm
        · exact F2.hp.inj i j b c g1 k1 hne hw)
  exact ⟨u, _, _, R2, rfl, hk, F3, conV_ren.2 (hr.agree ag3 hrl), AV.ren_lt hrl qok⟩

theorem callA_intro {f : FuncId} {vs : List AV} {s : AS} {kk : AV → AS → Prop} {args : List AV} {hp0 : List (Nat × ABlk)} {l : List Nat} {Post : AV → List (Nat × ABlk) → Nat → Prop} (C : CallOk P f vs s kk args hp0 l Post) : CallA P f vs s kk := .inl ⟨_, _, _, _, C⟩
theorem callA_ext {f : FuncId} {vs : List AV} {s : AS} {kk : AV → AS → Prop} (C : CallE P f vs s kk) : CallA P f vs s kk := .inr C
theorem callA_elim {f : FuncId} {vs : List AV} {s : AS} {kk : AV → AS → Prop} (h : CallA P f vs s kk) : (∃ args hp0 l Post, CallOk P f vs s kk args hp0 l Post) ∨ CallE P f vs s kk := h
attribute [irreducible] CallA
end Go.AH

/-
  Regions and code over abstract states; a function's contract out of its body.
-/
namespace Go.AH
open Go.RowKit

/-- No fence but the round's. -/
def FW (r : Option Nat) : Fence := { Fence.wide with round := r }

variable {P : Program} {T : Nat → Option TI} {md : Bool} {E : Env} {R R' : Ren} {s : AS} {a : Act} {w w' : World} {n : Nat} {r : Option Nat}

theorem callsFW {f : FuncId} {args : Array Value} {X : Ending → World → Prop} (h : Calls P f args w X) : CallsIn (FW r) n P f args w X := by
  have h2 : CallsIn Fence.wide n P f args w X := callsIn_wide.2 h
  exact ⟨trivial, fun cs hr => h2.2 cs (room_wide _)⟩

def AV.p (i : Nat) : AV := .c (.ptr i 0)

def argsA (s : AS) : List Operand → (List AV → Prop) → Prop
  | [], k => k []
  | x :: r, k => onV s x fun v => argsA s r fun vs => k (v :: vs)

/-- One operation. -/
def opA (P : Program) (T : Nat → Option TI) (md : Bool) (s : AS) (o : Op) (k : AV → AS → Prop) : Prop :=
  match o with
  | .call c => match c.callee with
    | .value x => onC s x fun p => match p with
      | .fn f fs cs => argsA s c.args.toList fun vs => CallA P f (fs.map AV.p ++ vs ++ cs.map AV.p) s k
      | _ => False
    | _ => stepA T md s (.call c) k
  | o => stepA T md s o k

def putA (d : Option Tmp) (v : AV) (s : AS) (k : AS → Prop) : Prop := match d with
  | none => k s
  | some d => s.on fun tm hp nx nt k0 => lit (decide (d < nt)) (k ⟨(d, v) :: tm, hp, nx, nt, k0⟩)

def opsW (P : Program) (T : Nat → Option TI) (md : Bool) (all : List Oper) : List Oper → AS → (AS → Prop) → Prop
  | [], s, K => K s
  | o :: r, s, K => match o.guard with
    | none => opA P T md s o.op fun v s' => putA o.dst v s' fun s'' => opsW P T md all r s'' K
    | some (j, want) => match (all[j]?).bind (·.dst) with
      | some d => match lk s.tm d with
        | some (.c (.bool b)) =>
          (b = want → s.on fun tm hp nx nt k0 => opA P T md ⟨(d, .c (.bool want)) :: tm, hp, nx, nt, k0⟩ o.op fun v s' => putA o.dst v s' fun s'' => opsW P T md all r s'' K) ∧
          (b = (!want) → s.on fun tm hp nx nt k0 => putA o.dst (.t []) ⟨(d, .c (.bool (!want))) :: tm, hp, nx, nt, k0⟩ fun s'' => opsW P T md all r s'' K)
        | some (.t []) => putA o.dst (.t []) s fun s'' => opsW P T md all r s'' K
        | _ => False
      | none => False

/-- No loop over a function within. -/
def flatC : Code → Bool
  | .seq x y => flatC x && flatC y
  | .cond _ x y => flatC x && flatC y
  | .block _ c => flatC c
  | .loop c => flatC c
  | .scope c => flatC c
  | .rangeFunc .. => false
  | _ => true
/-- Where loops over functions may stand: outside their rounds. -/
def Top (c : Code) (n : Nat) (r : Option Nat) : Prop := (r = none ∧ 3 ≤ n) ∨ flatC c = true

/-- What code does, from any world that fits. -/
def Tr (P : Program) (c : Code) (s : AS) (Q : Exit → AS → Prop) : Prop :=
  ∀ (E : Env) (R : Ren) (a : Act) (w : World) (n : Nat) (r : Option Nat), Fit E R s a w → Top c n r → c.wpIn (FW r) n P (fun e a' w' => ∃ R' s', Q e s' ∧ Fit E R' s' a' w') a w

def thenA (k : AS → Prop) (Q : Exit → AS → Prop) : Exit → AS → Prop
  | .normal, s => k s
  | e, s => Q e s
def blockA (id : Nat) (Q : Exit → AS → Prop) : Exit → AS → Prop
  | .exit i, s => if i = id then Q .normal s else Q (.exit i) s
  | e, s => Q e s
def noGotoA (Q : Exit → AS → Prop) : Exit → AS → Prop
  | .goto _, _ => False
  | e, s => Q e s

def wpC (P : Program) (T : Nat → Option TI) (md : Bool) : Code → AS → (Exit → AS → Prop) → Prop
  | .skip, s, Q => Q .normal s
  | .region _ ops false, s, Q => opsW P T md ops.toList ops.toList s (Q .normal)
  | .region i ops true, s, Q => Tr P (.region i ops true) s Q
  | .seq x y, s, Q => wpC P T md x s (thenA (fun s' => wpC P T md y s' Q) Q)
  | .cond c x y, s, Q => onC s c fun q => match q with
    | .bool b => (b = true → wpC P T md x s Q) ∧ (b = false → wpC P T md y s Q)
    | _ => False
  | .block i c, s, Q => wpC P T md c s (blockA i Q)
  | .loop c, s, Q => Tr P (.loop c) s Q
  | .rangeFunc f ps x c, s, Q => Tr P (.rangeFunc f ps x c) s Q
  | .exit i, s, Q => Q (.exit i) s
  | .scope c, s, Q => wpC P T md c s (noGotoA Q)
  | .label _, s, Q => Q .normal s
  | .goto _, _, _ => False
  | .ret, s, Q => Q .ret s
  | .refuse _, _, _ => False

/-! ### Soundness -/
theorem argsA_sound : ∀ (l : List Operand) {k : List AV → Prop} (F : Fit E R s a w), argsA s l k → ∃ vs, k vs ∧ vs.length = l.length ∧ ∀ (i : Nat) (v : AV), vs[i]? = some v → ∃ u : Value, (l.map a.eval)[i]? = some u ∧ conV R v u
  | [], k, F, h => ⟨[], h, rfl, by simp⟩
  | x :: r, k, F, h => by
    simp only [argsA] at h
    obtain ⟨v, h, hc, hl⟩ := onV_sound F h
    obtain ⟨vs, h1, h2, h3⟩ := argsA_sound r F h
    refine ⟨v :: vs, h1, by simp [h2], fun i u hi => ?_⟩
    cases i with
    | zero => simp at hi; subst hi; exact ⟨_, rfl, hc⟩
    | succ i => simp at hi ⊢; simpa using h3 i u hi

theorem opA_sound (hT : TOk P T) {o : Oper} {k : AV → AS → Prop} {K : Act → World → Prop} {Q : Exit → Act → World → Prop} (h : opA P T md s o.op k) (F : Fit E R s a w)
    (hK : ∀ u w' s' R' v, k v s' → Fit E R' s' a w' → conV R' v u → v.lt s'.nx → K (a.put o.dst u) w') : o.wpIn (FW r) n P a w K Q := by
  refine ⟨fun f _ => trivial, ?_⟩
  have hnd : ∀ c, o.op ≠ .defer c := by
    intro c e
    rw [e] at h
    exact h
  rw [Oper.semAt_eq _ _ _ hnd]
  have step : stepA T md s o.op k → o.uponIn (FW r) n P a K Q ((execOp a.eval o).run P w) := by
    intro h
    obtain ⟨nx, w', u, R', s', v, h1, h2, h3, h4, h5, h6⟩ := step_sound hT F h
    rw [h1]
    rcases h2 with rfl | ⟨rfl, rfl⟩
    · exact hK u w' s' R' v h3 h4 h5 h6
    · exact hK undef w' s' R' v h3 h4 h5 h6
  unfold opA at h
  split at h
  · rename_i c ho
    split at h
    · rename_i x hcal
      obtain ⟨p, hk, hc, hp0⟩ := onC_sound F h
      split at hk <;> try exact hk.elim
      rename_i f fs cs
      obtain ⟨vs, hk, hlen, hvs⟩ := argsA_sound _ F hk
      have hcall := callA_elim hk
      simp only [conC] at hc
      have hcp : ∀ i, conV R (AV.p i) (R.p0 i) := fun i => rfl
      have husz : ((fs.map R.p0).toArray ++ c.args.map a.eval ++ (cs.map R.p0).toArray).size = (fs.map AV.p ++ vs ++ cs.map AV.p).length := by simp [hlen]
      have hus : ∀ (i : Nat) (v : AV), (fs.map AV.p ++ vs ++ cs.map AV.p)[i]? = some v → ∃ u : Value, ((fs.map R.p0).toArray ++ c.args.map a.eval ++ (cs.map R.p0).toArray)[i]? = some u ∧ conV R v u := fun i v hi => by
        have e1 : ((fs.map R.p0).toArray ++ c.args.map a.eval ++ (cs.map R.p0).toArray)[i]? = (fs.map R.p0 ++ c.args.toList.map a.eval ++ cs.map R.p0)[i]? := by
          rw [← Array.getElem?_toList]; simp
        rw [e1]
        rw [List.append_assoc, List.getElem?_append, List.getElem?_append] at hi
        rw [List.append_assoc, List.getElem?_append, List.getElem?_append]
        simp only [List.length_map, hlen] at hi ⊢
        split at hi
        · rename_i q; rw [if_pos q]
          rw [List.getElem?_map] at hi ⊢
          cases hq : fs[i]? with
          | none => simp [hq] at hi
          | some j => simp [hq] at hi; subst hi; exact ⟨_, rfl, hcp j⟩
        · rename_i q; rw [if_neg q]
          split at hi
          · rename_i q2; rw [if_pos q2]; exact hvs _ v hi
          · rename_i q2; rw [if_neg q2]
            rw [List.getElem?_map] at hi ⊢
            cases hq : cs[i - fs.length - c.args.toList.length]? with
            | none => rw [hq] at hi; cases hi
            | some j => rw [hq] at hi; injection hi with hi; subst hi; exact ⟨_, rfl, hcp j⟩
      rcases hcall with ⟨args, hp, l, Post, C⟩ | ⟨v, hkv, hx⟩
      rotate_left
      · obtain ⟨u, hu1, hu2, hu3⟩ := hx E R a w _ F husz hus
        have hrun : (execOp a.eval o).run P w = .ok (.value u) w := by
          simp [execOp, ho, resolve, hcal, hc, Deferred.ofValue, invoke]
          simpa using hu1
        rw [hrun]
        exact hK u w s R v hkv F hu2 hu3
      have hcalls := callOk_sound C F husz hus
      have hrun : (execOp a.eval o).run P w = .ok (.enter f ((fs.map R.p0).toArray ++ c.args.map a.eval ++ (cs.map R.p0).toArray)) w := by
        have h2 := C.spec.call ((fs.map R.p0).toArray ++ c.args.map a.eval ++ (cs.map R.p0).toArray) w
        simp [execOp, ho, resolve, hcal, hc, Deferred.ofValue, invoke]
        simpa using h2
      rw [hrun]
      refine ⟨fun h => by simp [FW, Fence.wide] at h, callsFW (hcalls.mono ?_)⟩
      rintro e w' ⟨u, v, s', R', rfl, hk, F', hc', hl'⟩
      exact hK u w' s' R' v hk F' hc' hl'
    · exact step (by rw [ho]; exact h)
  · exact step h

theorem putA_sound {d : Option Tmp} {v : AV} {k : AS → Prop} {u : Value} (F : Fit E R s a w) (h : putA d v s k) (hc : conV R v u) (hl : v.lt s.nx) : ∃ s', k s' ∧ Fit E R s' (a.put d u) w := by
  cases d with
  | none => exact ⟨s, h, F⟩
  | some d =>
    obtain ⟨h1, h2⟩ := lit_iff.1 h
    rw [decide_eq_true_eq] at h1
    exact ⟨_, h2, F.put h1 hc hl⟩

theorem conV_undef (R : Ren) : conV R (.t []) undef := ⟨#[], rfl, rfl, by simp⟩

theorem Fit.tm_again {d : Nat} {v : AV} (F : Fit E R s a w) (h : lk s.tm d = some v) : Fit E R { s with tm := (d, v) :: s.tm } a w :=
  F.tm_sub fun i b hb => by
    simp only [lk] at hb
    split at hb
    · rename_i e; subst e; rw [h]; exact hb
    · exact hb

theorem opsW_sound (hT : TOk P T) {ops : Array Oper} {K : AS → Prop} {Q : Exit → Act → World → Prop} (hQ : ∀ s' R' a' w', K s' → Fit E R' s' a' w' → Q .normal a' w') : ∀ (l pre : List Oper) (s : AS) (R : Ren) (a : Act) (w : World), ops.toList = pre ++ l →
    opsW P T md ops.toList l s K → Fit E R s a w → wpOpsIn (FW r) n P ops Q (List.range' pre.length l.length) a w
  | [], pre, s, R, a, w, _, h, F => by
    simp only [List.length_nil, List.range'_zero, wpOpsIn]
    exact hQ s R a w h F
  | o :: l, pre, s, R, a, w, hops, h, F => by
    have ih : ∀ (s : AS) (R : Ren) (a : Act) (w : World), opsW P T md ops.toList l s K → Fit E R s a w → wpOpsIn (FW r) n P ops Q (List.range' (pre ++ [o]).length l.length) a w := fun s R a w => opsW_sound hT hQ l (pre ++ [o]) s R a w (by simp [hops])
    have hlen : (pre ++ [o]).length = pre.length + 1 := by simp
    rw [hlen] at ih
    have ho : ops[pre.length]? = some o := by
      rw [← Array.getElem?_toList, hops]; simp
    simp only [List.length_cons, List.range'_succ, wpOpsIn, ho]
    simp only [opsW, AS.on_eq] at h
    have run : ∀ s, Fit E R s a w → (opA P T md s o.op fun v s' => putA o.dst v s' fun s'' => opsW P T md ops.toList l s'' K) → o.wpIn (FW r) n P a w (wpOpsIn (FW r) n P ops Q (List.range' (pre.length + 1) l.length)) Q := by
      intro s F h
      refine opA_sound hT h F ?_
      intro u w' s' R' v hk F' hc hl
      obtain ⟨s'', hk, F''⟩ := putA_sound F' hk hc hl
      exact ih s'' R' _ w' hk F''
    have skip : ∀ s, Fit E R s a w → (putA o.dst (.t []) s fun s'' => opsW P T md ops.toList l s'' K) → wpOpsIn (FW r) n P ops Q (List.range' (pre.length + 1) l.length) (a.put o.dst undef) w := by
      intro s F h
      obtain ⟨s'', hk, F''⟩ := putA_sound F h (conV_undef R) (fun e he => by cases he)
      exact ih s'' R _ w hk F''
    split at h
    · rename_i hg
      rw [if_pos (by simp [Region.wanted, hg])]
      exact run s F h
    · rename_i j want hg
      split at h <;> try exact h.elim
      rename_i d hd
      have hy : yielded ops a.tmps j = match a.tmps[d]? with | some (.bool b) => some b | _ => none := by
        have : (ops[j]?).bind (·.dst) = some d := by rw [← Array.getElem?_toList]; exact hd
        simp only [yielded, this, Option.bind_some]
        cases a.tmps[d]? with
        | none => rfl
        | some v => cases v <;> rfl
      split at h <;> try exact h.elim
      · rename_i b hb
        obtain ⟨u, hu, hc⟩ := F.tm d _ hb
        simp only [conV, conC] at hc
        subst hc
        have hy2 : yielded ops a.tmps j = some b := by rw [hy, hu]
        by_cases hbw : b = want
        · rw [if_pos (by simp [Region.wanted, hg, hy2, hbw])]
          exact run _ (F.tm_again (by rw [← hbw]; exact hb)) (h.1 hbw)
        · rw [if_neg (by simp [Region.wanted, hg, hy2, hbw])]
          have hb2 : b = !want := by cases b <;> cases want <;> simp_all
          exact ⟨fun f _ => trivial, skip _ (F.tm_again (by rw [← hb2]; exact hb)) (h.2 hb2)⟩
      · rename_i hb
        obtain ⟨u, hu, hc⟩ := F.tm d _ hb
        obtain ⟨vs, rfl, _, _⟩ := hc
        have hy2 : yielded ops a.tmps j = none := by rw [hy, hu]
        rw [if_neg (by simp [Region.wanted, hg, hy2])]
        exact ⟨fun f _ => trivial, skip s F h⟩

theorem stepR_scope {b : Frame} {k : List Item} {cs : List Frame} {c : Code} : step P (lone (b.atR a (.code (.scope c) :: k)) cs w) = .next (lone (b.atR a (.code c :: .inScope c :: k)) cs w) :=
  step_lone_go (by simp [stepG, stepG.exec, Frame.atR])
theorem stepR_inScope {b : Frame} {k : List Item} {cs : List Frame} {c : Code} : step P (lone (b.atR a (.inScope c :: k)) cs w) = .next (lone (b.atR a k) cs w) :=
  step_lone_go (by simp [stepG, stepG.exec, Frame.atR])
def noGotoW (Q : Exit → Act → World → Prop) : Exit → Act → World → Prop
  | .goto _, _, _ => False
  | e, a, w => Q e a w
theorem wpIn_scope {F : Fence} {c : Code} {Q : Exit → Act → World → Prop} (h : c.wpIn F n P (noGotoW Q) a w) : (Code.scope c).wpIn F n P Q a w := by
  intro b k cs hro hb hr
  have h0 : (lone (b.atR a (.code (.scope c) :: k)) cs w).fenced P F := fenced_calm hb hr rfl
  obtain ⟨e, a₁, w₁, hq, harr⟩ := h b (.inScope c :: k) cs hro hb hr
  cases e with
  | normal => exact ⟨.normal, a₁, w₁, hq, .head h0 stepR_scope (StepsIn.trans harr (.one (fenced_calm hb hr rfl) stepR_inScope))⟩
  | exit id => exact ⟨.exit id, a₁, w₁, hq, fun k' hk => .head h0 stepR_scope (harr.1 k' (by simp [exitTo, hk])), fun hr' hk => let ⟨k₁, h1, h2⟩ := harr.2 hr' (by simp [exitTo, hk]); ⟨k₁, h1, .head h0 stepR_scope h2⟩⟩
  | goto l => exact hq.elim
  | ret => exact ⟨_, a₁, w₁, hq, .of_steps (.one h0 stepR_scope) harr⟩
  | panic ch => exact ⟨_, a₁, w₁, hq, .of_steps (.one h0 stepR_scope) harr⟩
  | outgrown => exact ⟨_, a₁, w₁, hq, .of_steps (.one h0 stepR_scope) harr⟩

theorem Tr.elim {c : Code} {Q : Exit → AS → Prop} (h : Tr P c s Q) (F : Fit E R s a w) (ht : Top c n r) : c.wpIn (FW r) n P (fun e a' w' => ∃ R' s', Q e s' ∧ Fit E R' s' a' w') a w := h E R a w n r F ht
theorem Tr.intro {c : Code} {Q : Exit → AS → Prop} (h : ∀ (E : Env) (R : Ren) (a : Act) (w : World) (n : Nat) (r : Option Nat), Fit E R s a w → Top c n r → c.wpIn (FW r) n P (fun e a' w' => ∃ R' s', Q e s' ∧ Fit E R' s' a' w') a w) : Tr P c s Q := h

theorem wpC_sound (hT : TOk P T) : ∀ (c : Code) (s : AS) (Q : Exit → AS → Prop), wpC P T md c s Q → Tr P c s Q
  | .skip, s, Q, h => fun E R a w n r F ht => wpIn_skip ⟨R, s, h, F⟩
  | .region i ops false, s, Q, h => fun E R a w n r F ht => by
    refine wpIn_region ?_
    rw [List.range_eq_range', ← Array.length_toList]
    exact opsW_sound hT (fun s' R' a' w' hk F' => ⟨R', s', hk, F'⟩) ops.toList [] s R a w (by simp) h F
  | .region i ops true, s, Q, h => h
  | .seq x y, s, Q, h => fun E R a w n r F ht => by
    have htx : Top x n r := ht.imp_right fun h => by simp only [flatC, Bool.and_eq_true] at h; exact h.1
    have hty : Top y n r := ht.imp_right fun h => by simp only [flatC, Bool.and_eq_true] at h; exact h.2
    refine wpIn_seq (wpIn_mono (wpC_sound hT x s _ h E R a w n r F htx) ?_)
    rintro e a' w' ⟨R', s', hk, F'⟩
    cases e with
    | normal => exact wpC_sound hT y s' Q hk E R' a' w' n r F' hty
    | _ => exact ⟨R', s', hk, F'⟩
  | .cond c x y, s, Q, h => fun E R a w n r F ht => by
    obtain ⟨q, hk, hc, hp0⟩ := onC_sound F h
    split at hk <;> try exact hk.elim
    rename_i b
    simp only [conC] at hc
    have htx : Top x n r := ht.imp_right fun h => by simp only [flatC, Bool.and_eq_true] at h; exact h.1
    have hty : Top y n r := ht.imp_right fun h => by simp only [flatC, Bool.and_eq_true] at h; exact h.2
    cases b with
    | true => exact wpIn_cond_true hc (wpC_sound hT x s Q (hk.1 rfl) E R a w n r F htx)
    | false => exact wpIn_cond_false hc (wpC_sound hT y s Q (hk.2 rfl) E R a w n r F hty)
  | .block i c, s, Q, h => fun E R a w n r F ht => by
    refine wpIn_block (wpIn_mono (wpC_sound hT c s _ h E R a w n r F ht) ?_)
    rintro e a' w' ⟨R', s', hk, F'⟩
    cases e with
    | exit j =>
      simp only [Exit.inBlock]
      simp only [blockA] at hk
      split at hk
      · rename_i e; rw [if_pos e]; exact ⟨R', s', hk, F'⟩
      · rename_i e; rw [if_neg e]; exact ⟨R', s', hk, F'⟩
    | _ => exact ⟨R', s', hk, F'⟩
  | .loop c, s, Q, h => h
  | .rangeFunc f ps x c, s, Q, h => h
  | .exit i, s, Q, h => fun E R a w n r F ht => wpIn_exit ⟨R, s, h, F⟩
  | .scope c, s, Q, h => fun E R a w n r F ht => by
    refine wpIn_scope (wpIn_mono (wpC_sound hT c s _ h E R a w n r F ht) ?_)
    rintro e a' w' ⟨R', s', hk, F'⟩
    cases e with
    | goto l => exact hk.elim
    | _ => exact ⟨R', s', hk, F'⟩
  | .label l, s, Q, h => fun E R a w n r F ht => wpIn_label ⟨R, s, h, F⟩
  | .goto l, s, Q, h => h.elim
  | .ret, s, Q, h => fun E R a w n r F ht => wpIn_ret ⟨R, s, h, F⟩
  | .refuse y, s, Q, h => h.elim

attribute [irreducible] Tr
end Go.AH

/-
  Loops, weakening, and a function's contract out of its body.
-/
namespace Go.AH
open Go.RowKit

variable {P : Program} {T : Nat → Option TI} {md : Bool} {E : Env} {R R' : Ren} {s t : AS} {a : Act} {w w' : World} {n : Nat} {r : Option Nat}

/-- t says no more than s does, its blocks by other numbers: number i of t is number (rn l i) of s. -/
def rn (l : List (Nat × Nat)) (i : Nat) : Nat := (lk l i).getD i

def lkAll (tm : List (Nat × AV)) (q : Nat → Nat) : List (Nat × AV) → Prop
  | [] => True
  | (t, v) :: r => lk tm t = some (v.ren q) ∧ lkAll tm q r
def hpAll (hp : List (Nat × ABlk)) (q : Nat → Nat) : List (Nat × ABlk) → Prop
  | [] => True
  | (i, b) :: r => lk hp (q i) = some (b.ren q) ∧ hpAll hp q r
theorem lkAll_get {tm : List (Nat × AV)} {q : Nat → Nat} : ∀ {l : List (Nat × AV)} {t : Nat} {v : AV}, lkAll tm q l → lk l t = some v → lk tm t = some (v.ren q)
  | (t', v') :: r, t, v, h, hv => by
    simp only [lk] at hv
    split at hv
    · rename_i e; subst e; injection hv with hv; subst hv; exact h.1
    · exact lkAll_get h.2 hv
theorem hpAll_get {hp : List (Nat × ABlk)} {q : Nat → Nat} : ∀ {l : List (Nat × ABlk)} {i : Nat} {b : ABlk}, hpAll hp q l → lk l i = some b → lk hp (q i) = some (b.ren q)
  | (t', v') :: r, t, v, h, hv => by
    simp only [lk] at hv
    split at hv
    · rename_i e; subst e; injection hv with hv; subst hv; exact h.1
    · exact hpAll_get h.2 hv

/-- Numbers named in a state. -/
def tmLt (n : Nat) : List (Nat × AV) → Prop
  | [] => True
  | (_, v) :: r => v.lt n ∧ tmLt n r
def hpLt (n : Nat) : List (Nat × ABlk) → Prop
  | [] => True
  | (i, b) :: r => idOk n i ∧ b.lt n ∧ hpLt n r
theorem tmLt_get {n : Nat} : ∀ {l : List (Nat × AV)} {t : Nat} {v : AV}, tmLt n l → lk l t = some v → v.lt n
  | (t', v') :: r, t, v, h, hv => by
    simp only [lk] at hv
    split at hv
    · injection hv with hv; subst hv; exact h.1
    · exact tmLt_get h.2 hv
theorem hpLt_get {n : Nat} : ∀ {l : List (Nat × ABlk)} {t : Nat} {v : ABlk}, hpLt n l → lk l t = some v → idOk n t ∧ v.lt n
  | (t', v') :: r, t, v, h, hv => by
    simp only [lk] at hv
    split at hv
    · rename_i e; subst e; injection hv with hv; subst hv; exact ⟨h.1, h.2.1⟩
    · exact hpLt_get h.2.2 hv

structure Sub (s t : AS) (l : List (Nat × Nat)) : Prop where
  nt : t.nt = s.nt
  k0 : t.k0 = s.k0
  k : t.k0 ≤ t.nx ∧ t.nx ≤ s.nx
  fix : ∀ p ∈ l, s.k0 ≤ p.1 ∧ p.1 < GB
  tm : lkAll s.tm (rn l) t.tm
  hp : hpAll s.hp (rn l) t.hp
  inj : (t.hp.map fun p => rn l p.1).Nodup
  tlt : tmLt t.nx t.tm
  hlt : hpLt t.nx t.hp

theorem nodup_inj {q : Nat → Nat} : ∀ {l : List (Nat × ABlk)} {i j : Nat} {b c : ABlk}, (l.map fun p => q p.1).Nodup → lk l i = some b → lk l j = some c → i ≠ j → q i ≠ q j
  | (x, y) :: r, i, j, b, c, h, hi, hj, hne => by
    have hm : ∀ {k : Nat} {d : ABlk}, lk r k = some d → q k ∈ r.map fun p => q p.1 := by
      intro k d hk
      have : ∃ d, (k, d) ∈ r := by
        clear h hi hj
        induction r with
        | nil => cases hk
        | cons p r ih =>
          obtain ⟨u, v⟩ := p
          simp only [lk] at hk
          split at hk
          · rename_i e; subst e; exact ⟨v, by simp⟩
          · obtain ⟨d', hd'⟩ := ih hk; exact ⟨d', by simp [hd']⟩
      obtain ⟨d', hd'⟩ := this
      exact List.mem_map.2 ⟨_, hd', rfl⟩
    have h1 := List.nodup_cons.1 (by simpa using h : (q x :: r.map fun p => q p.1).Nodup)
    simp only [lk] at hi hj
    split at hi
    · rename_i e; subst e
      rw [if_neg hne] at hj
      intro e; exact h1.1 (e ▸ hm hj)
    · split at hj
      · rename_i e; subst e
        intro e; exact h1.1 (e ▸ hm hi)
      · exact nodup_inj h1.2 hi hj hne

theorem lk_none_lt {l : List (Nat × Nat)} {i : Nat} (h : ∀ p ∈ l, p.1 ≠ i) : lk l i = none := by
  induction l with
  | nil => rfl
  | cons p r ih =>
    obtain ⟨x, y⟩ := p
    simp only [lk]
    rw [if_neg (h (x, y) (by simp))]
    exact ih fun p hp => h p (by simp [hp])

theorem Sub.fit {l : List (Nat × Nat)} (S : Sub s t l) (F : Fit E R s a w) : Fit E (R.comp (rn l)) t a w where
  ok := by
    have : ∀ i, rn l (GB + i) = GB + i := fun i => by
      unfold rn; rw [lk_none_lt fun p hp => by have := (S.fix p hp).2; omega]; rfl
    exact ⟨fun i => by simp [Ren.comp, this, F.ok.g], fun i => by simp [Ren.comp, this, F.ok.d], fun i => by simp [Ren.comp, this, F.ok.c]⟩
  nt := by rw [S.nt]; exact F.nt
  tm := fun t' v hv => by
    obtain ⟨u, hu, hc⟩ := F.tm t' _ (lkAll_get S.tm hv)
    exact ⟨u, hu, conV_ren.1 hc⟩
  hp := ⟨fun id b hb => BRel_ren.1 (F.hp.blk _ _ (hpAll_get S.hp hb)), fun i j b c hi hj hne hw =>
    F.hp.inj _ _ _ _ (hpAll_get S.hp hi) (hpAll_get S.hp hj) (nodup_inj S.inj hi hj hne) (by rw [ABlk.ren_wr]; exact hw)⟩
  old := fun i hi => by
    have : rn l i = i := by
      unfold rn; rw [lk_none_lt fun p hp => by have := (S.fix p hp).1; have := F.kk; omega]; rfl
    simp only [Ren.comp, this]; exact F.old i hi
  wr := fun id b hb hw => F.wr _ _ (hpAll_get S.hp hb) (by rw [ABlk.ren_wr]; exact hw)
  nx := fun id b hb => (hpLt_get S.hlt hb).1
  nk := ⟨by have := S.k.1; have := F.kk; have := S.k0; omega, Nat.le_trans S.k.2 F.nk.2⟩
  kk := by rw [S.k0]; exact F.kk
  fr := F.fr
  df := F.df
  wf := ⟨fun t' v hv => tmLt_get S.tlt hv, fun i b hb => hpLt_get S.hlt hb⟩

/-- Weakened at an exit. -/
theorem Tr.mono {c : Code} {Q Q' : Exit → AS → Prop} (h : Tr P c s Q) (hq : ∀ e s, Q e s → Q' e s) : Tr P c s Q' := Tr.intro fun E R a w n r F ht =>
  wpIn_mono (h.elim F ht) fun e a' w' ⟨R', s', hk, F'⟩ => ⟨R', s', hq _ _ hk, F'⟩

theorem Tr.sub {c : Code} {Q : Exit → AS → Prop} {l : List (Nat × Nat)} (S : Sub s t l) (h : Tr P c t Q) : Tr P c s Q := Tr.intro fun E R a w n r F ht => h.elim (S.fit F) ht

theorem exists_least {p : Nat → Prop} (h : ∃ n, p n) : ∃ n, p n ∧ ∀ m, p m → n ≤ m := by
  obtain ⟨n, hn⟩ := h
  induction n using Nat.strongRecOn with
  | _ n ih =>
    by_cases hx : ∃ m, m < n ∧ p m
    · obtain ⟨m, h1, h2⟩ := hx; exact ih m h1 h2
    · exact ⟨n, hn, fun m hm => Nat.le_of_not_lt fun hlt => hx ⟨m, hlt, hm⟩⟩

open Classical in
/-- A loop whose measure is that of a ghost. -/
theorem wpIn_loop_ghost {F : Fence} {X : Type} {c : Code} {Q : Exit → Act → World → Prop} (I : X → Act → World → Prop) (μ : X → Nat) (x0 : X) (h0 : I x0 a w)
    (round : ∀ x a w, I x a w → c.wpIn F n P (Exit.then (fun a' w' => ∃ x', I x' a' w' ∧ μ x' < μ x) Q) a w) : (Code.loop c).wpIn F n P Q a w := by
  let p : Act → World → Nat → Prop := fun a w m => ∃ x, I x a w ∧ μ x = m
  let ν : Act → World → Nat := fun a w => if h : ∃ m, p a w m then Classical.choose (exists_least h) else 0
  have hν : ∀ a w, (∃ m, p a w m) → p a w (ν a w) ∧ ∀ m, p a w m → ν a w ≤ m := fun a w h => by
    have := Classical.choose_spec (exists_least h)
    simp only [ν, dif_pos h]; exact this
  refine wpIn_loop (fun a w => ∃ x, I x a w) ν ⟨x0, h0⟩ ?_
  rintro a w ⟨x, hx⟩
  obtain ⟨⟨y, hy, hm⟩, _⟩ := hν a w ⟨μ x, x, hx, rfl⟩
  refine wpIn_mono (round y a w hy) ?_
  intro e a' w' h
  cases e with
  | normal =>
    obtain ⟨x', h1, h2⟩ := h
    refine ⟨⟨x', h1⟩, ?_⟩
    have := (hν a' w' ⟨μ x', x', h1, rfl⟩).2 (μ x') ⟨x', h1, rfl⟩
    omega
  | _ => exact h

/-- At the loop's head once more. -/
def Under (s t : AS) : Prop := ∀ (E : Env) (R : Ren) (a : Act) (w : World), Fit E R s a w → ∃ R', Fit E R' t a w
theorem Sub.under {l : List (Nat × Nat)} (S : Sub s t l) : Under s t := fun E R a w F => ⟨_, S.fit F⟩
def Again {X : Type} (st : X → AS) (inv : X → Prop) (μ : X → Nat) (m : Nat) (s : AS) : Prop := ∃ x', Under s (st x') ∧ inv x' ∧ μ x' < m
theorem Again.mk {X : Type} {st : X → AS} {inv : X → Prop} {μ : X → Nat} {m : Nat} (x' : X) {l' : List (Nat × Nat)} (h : Sub s (st x') l') (hi : inv x') (hm : μ x' < m) : Again st inv μ m s := ⟨x', h.under, hi, hm⟩
theorem Again.under {X : Type} {st : X → AS} {inv : X → Prop} {μ : X → Nat} {m : Nat} (x' : X) (h : Under s (st x')) (hi : inv x') (hm : μ x' < m) : Again st inv μ m s := ⟨x', h, hi, hm⟩
theorem Again.elim {X : Type} {st : X → AS} {inv : X → Prop} {μ : X → Nat} {m : Nat} (h : Again st inv μ m s) : ∃ x', Under s (st x') ∧ inv x' ∧ μ x' < m := h
attribute [irreducible] Again

/-- A loop: the states at its head are st x, x such that inv x; μ goes down. -/
theorem Tr.loopU {X : Type} (st : X → AS) (inv : X → Prop) (μ : X → Nat) (x0 : X) {c : Code} {Q : Exit → AS → Prop} (hT : TOk P T) (h0 : inv x0) (hs : Under s (st x0))
    (round : ∀ x, inv x → wpC P T md c (st x) (thenA (Again st inv μ (μ x)) Q)) : Tr P (.loop c) s Q := Tr.intro fun E R a w n r F ht => by
  refine wpIn_loop_ghost (fun x a w => ∃ R, inv x ∧ Fit E R (st x) a w) μ x0 (by obtain ⟨R', F'⟩ := hs _ _ _ _ F; exact ⟨R', h0, F'⟩) ?_
  rintro x a w ⟨R, hx, F⟩
  refine wpIn_mono ((wpC_sound hT c _ _ (round x hx)).elim F ht) ?_
  rintro e a' w' ⟨R', s', hk, F'⟩
  cases e with
  | normal =>
    obtain ⟨x', h1, h2, h3⟩ := Again.elim hk
    obtain ⟨R2, F2⟩ := h1 _ _ _ _ F'
    exact ⟨x', ⟨R2, h2, F2⟩, h3⟩
  | _ => exact ⟨R', s', hk, F'⟩

theorem Tr.loop {X : Type} (st : X → AS) (inv : X → Prop) (μ : X → Nat) (x0 : X) {c : Code} {Q : Exit → AS → Prop} {l : List (Nat × Nat)} (hT : TOk P T) (h0 : inv x0) (hs : Sub s (st x0) l)
    (round : ∀ x, inv x → wpC P T md c (st x) (thenA (Again st inv μ (μ x)) Q)) : Tr P (.loop c) s Q := Tr.loopU st inv μ x0 hT h0 hs.under round

/-! ### Results -/
def resA (T : Nat → Option TI) (md : Bool) (s : AS) : List ResultVar → (List AE → Prop) → Prop
  | [], k => k []
  | .tmp t :: r, k => onV s (.tmp t) fun v => match v with
    | .c x => resA T md s r fun es => k (.c x :: es)
    | .g cs => resA T md s r fun es => k (.g cs :: es)
    | .t _ => False
  | .cell p t :: r, k => stepA T md s (.load t (.tmp p)) fun v _ => match v with
    | .c x => resA T md s r fun es => k (.c x :: es)
    | .g cs => resA T md s r fun es => k (.g cs :: es)
    | .t _ => False

def tupA : List AE → AV
  | [.c x] => .c x
  | [.g cs] => .g cs
  | es => .t es

/-- Numbers in what is handed back: below k what came in; k + i is number l[i] of the state. -/
def qf (k : Nat) (l : List Nat) (i : Nat) : Nat := if i < k then i else if GB ≤ i then i else (l[i - k]?).getD 0

structure FinOk (s : AS) (r : AV) (Post : AV → List (Nat × ABlk) → Nat → Prop) (l : List Nat) (r0 : AV) (hp' : List (Nat × ABlk)) : Prop where
  post : Post r0 hp' (s.k0 + l.length)
  res : r0.ren (qf s.k0 l) = r
  hp : hpAll s.hp (qf s.k0 l) hp'
  inj : (hp'.map fun p => qf s.k0 l p.1).Nodup
  nd : (hp'.map Prod.fst).Nodup
  rlt : r0.lt (s.k0 + l.length)
  hlt : hpLt (s.k0 + l.length) hp'
  le : s.k0 + l.length ≤ GB

def Fin (s : AS) (r : AV) (Post : AV → List (Nat × ABlk) → Nat → Prop) : Prop := ∃ l r0 hp', FinOk s r Post l r0 hp'

def argTm : Nat → List AV → List (Nat × AV)
  | _, [] => []
  | i, v :: r => (i, v) :: argTm (i + 1) r

def bodyQ (T : Nat → Option TI) (md : Bool) (fn : Func) (Post : AV → List (Nat × ABlk) → Nat → Prop) : Exit → AS → Prop
  | .ret, s => resA T md s fn.results.toList fun es => Fin s (tupA es) Post
  | .normal, s => resA T md s fn.results.toList fun es => Fin s (tupA es) Post
  | _, _ => False

/-! ### A contract out of a body -/
theorem argTm_get : ∀ (l : List AV) (i t : Nat) (v : AV), lk (argTm i l) t = some v → i ≤ t ∧ l[t - i]? = some v
  | x :: r, i, t, v, h => by
    simp only [argTm, lk] at h
    split at h
    · rename_i e; subst e; injection h with h; subst h; exact ⟨Nat.le_refl _, by simp⟩
    · rename_i e
      obtain ⟨h1, h2⟩ := argTm_get r (i + 1) t v h
      refine ⟨by omega, ?_⟩
      rw [show t - i = (t - (i + 1)) + 1 by omega]; simpa using h2

def rdRes (tmps : Array Value) : ResultVar → Sem Value
  | .tmp t => pure (tmps.getD t undef)
  | .cell p t => do loadVar t (← asAddr (tmps.getD p undef))

theorem resA_sound (hT : TOk P T) : ∀ (rs : List ResultVar) {k : List AE → Prop}, Fit E R s a w → resA T md s rs k → ∃ es, k es ∧ ∃ us : List Value, us.length = es.length ∧ us.length = rs.length ∧
      (rs.mapM (rdRes a.tmps)).run P w = .ok us w ∧ (∀ (i : Nat) (e : AE), es[i]? = some e → ∃ u : Value, us[i]? = some u ∧ conE R e u) ∧ ∀ e ∈ es, e.lt s.nx
  | [], k, F, h => ⟨[], h, [], rfl, rfl, rfl, by simp, fun _ h => (List.not_mem_nil h).elim⟩
  | rv :: rs, k, F, h => by
    have join : ∀ (e : AE) (u : Value), conE R e u → e.lt s.nx → (rdRes a.tmps rv).run P w = .ok u w →
        (resA T md s rs fun es => k (e :: es)) → ∃ es, k es ∧ ∃ us : List Value, us.length = es.length ∧ us.length = (rv :: rs).length ∧
      ((rv :: rs).mapM (rdRes a.tmps)).run P w = .ok us w ∧ (∀ (i : Nat) (e : AE), es[i]? = some e → ∃ u : Value, us[i]? = some u ∧ conE R e u) ∧ ∀ e ∈ es, e.lt s.nx := by
      intro e u hc hl hr hk
      obtain ⟨es, h1, us, h2, h3, h4, h5, h6⟩ := resA_sound hT rs F hk
      refine ⟨e :: es, h1, u :: us, by simp [h2], by simp [h3], ?_, ?_, ?_⟩
      · rw [List.mapM_cons]
        simp only [Sem.run_bind]
        rw [hr]
        simp only [Result.andThen_ok, h4, Sem.run_pure]
      · intro i e' hi
        cases i with
        | zero => simp at hi; subst hi; exact ⟨u, rfl, hc⟩
        | succ i => simp at hi ⊢; exact h5 i e' hi
      · intro e' he
        rcases List.mem_cons.1 he with h | h
        · exact h ▸ hl
        · exact h6 e' h
    cases rv with
    | tmp t =>
      simp only [resA] at h
      obtain ⟨v, hk, hc, hl⟩ := onV_sound F h
      have he : a.eval (.tmp t) = a.tmps.getD t undef := rfl
      rw [he] at hc
      split at hk <;> try exact hk.elim
      · exact join (.c _) _ hc hl rfl hk
      · exact join (.g _) _ hc hl rfl hk
    | cell p t =>
      simp only [resA] at h
      obtain ⟨u, v, ad, h1, h2, hk, h4, h5⟩ := load_sound (P := P) hT F h
      have he : a.eval (.tmp p) = a.tmps.getD p undef := rfl
      rw [he] at h1
      have hr : (rdRes a.tmps (.cell p t)).run P w = .ok u w := by
        simp only [rdRes, h1, asAddr, Sem.run_bind, Sem.run_pure, Result.andThen_ok, h2]
      split at hk <;> try exact hk.elim
      · exact join (.c _) _ h4 h5 hr hk
      · exact join (.g _) _ h4 h5 hr hk

theorem run_results {fn : Func} {tmps : Array Value} {us : List Value} (h : (fn.results.toList.mapM (rdRes tmps)).run P w = .ok us w) :
    (results fn tmps).run P w = .ok (if h : us.length = 1 then us[0] else .tuple us.toArray) w := by
  have e : results fn tmps = (do let vs ← fn.results.mapM (rdRes tmps); pure (if h : vs.size = 1 then vs[0] else .tuple vs)) := rfl
  rw [e, Array.mapM_eq_mapM_toList]
  simp only [Sem.run_bind, Sem.run_map, h, Result.andThen_ok, Sem.run_pure]
  simp

theorem tupA_sound {es : List AE} {us : List Value} (hl : us.length = es.length) (hc : ∀ (i : Nat) (e : AE), es[i]? = some e → ∃ u : Value, us[i]? = some u ∧ conE R e u) : conV R (tupA es) (if h : us.length = 1 then us[0] else .tuple us.toArray) := by
  have gen : us.length ≠ 1 → conV R (.t es) (if h : us.length = 1 then us[0] else .tuple us.toArray) := fun hn => by
    rw [dif_neg hn]
    exact ⟨us.toArray, rfl, by simpa using hl, fun i e hi => by simpa using hc i e hi⟩
  cases es with
  | nil => exact gen (by simp [hl])
  | cons e r => cases r with
    | cons e2 r => cases e <;> exact gen (by simp [hl])
    | nil =>
      have h1 : us.length = 1 := by simpa using hl
      obtain ⟨u, hu, hcu⟩ := hc 0 e rfl
      rw [dif_pos h1]
      have : us[0] = u := by
        have := (List.getElem?_eq_some_iff.1 hu).2; exact this
      rw [this]
      cases e <;> exact hcu
theorem tupA_lt {es : List AE} {n : Nat} (h : ∀ e ∈ es, e.lt n) : (tupA es).lt n := by
  cases es with
  | nil => exact h
  | cons e r => cases r with
    | cons e2 r => cases e <;> exact h
    | nil => have := h e (by simp); cases e <;> exact this

/-- The marks of the loops over functions are taken away: nothing that is known turns. -/
theorem leavesM {fn : Func} {tmps : Array Value} {X : Ending → World → Prop} {hp : List (Nat × ABlk)} {M : Nat → Prop} {W0 : World}
    (hX : ∀ w, HRel R hp w → Fr M W0 w → ∃ v, (results fn tmps).run P w = .ok v w ∧ X (.returned v) w) :
    ∀ (ds : List Nat) (w : World), HRel R hp w → Fr M W0 w → ds.Nodup → (∀ d ∈ ds, (M d ∨ W0.heap.size ≤ d) ∧ w.heap[d]? = some (.deferred (some []))) → LeavesInM (FW r) n P fn tmps X (ds.map fun d => { target := .collected d, args := #[] }) .returning w
  | [], w, H, hf, _, hd => hX w H hf
  | d :: ds, w, H, hf, hnd, hd => by
    obtain ⟨h1, h2⟩ := hd d (by simp)
    have hne : ∀ i b, lk hp i = some b → R.ρ i ≠ d := by
      intro i b hb e
      have hB := H.blk i b hb
      rw [← e] at h2
      cases b <;> simp only [BRel] at hB <;> simp_all
    refine ⟨by simp, .inl ⟨d, w.putObj d (.deferred none), rfl, run_takeDeferred h2, ?_⟩⟩
    refine leavesM hX ds _ ⟨fun i b hb => (H.blk i b hb).of_block (World.putObj_heap_other (hne i b hb)), H.inj⟩ ?_ (List.nodup_cons.1 hnd).2 ?_
    · exact ⟨hf.os, hf.tape, hf.output, by rw [World.putObj_size]; exact hf.size, fun k hk hn => (World.putObj_heap_other (by intro e; subst e; exact h1.elim hn (fun h => by omega))).trans (hf.block k hk hn)⟩
    · intro d' hd'
      have hne' : d' ≠ d := fun e => (List.nodup_cons.1 hnd).1 (e ▸ hd')
      exact ⟨(hd d' (by simp [hd'])).1, (World.putObj_heap_other hne').trans (hd d' (by simp [hd'])).2⟩

theorem Fin.mk {Post : AV → List (Nat × ABlk) → Nat → Prop} {r : AV} (l : List Nat) (r0 : AV) (hp' : List (Nat × ABlk)) (h : FinOk s r Post l r0 hp') : Fin s r Post := ⟨l, r0, hp', h⟩

theorem FSpec.of_body {f : FuncId} {fn : Func} {c : Code} (hT : TOk P T) (md : Bool) (hf : P.funcs[f]? = some fn) (hb : fn.body = some c) (hn : (fn.name == "runtime.NumGoroutine") = false) {args : List AV} {hp : List (Nat × ABlk)} {k : Nat}
    {Post : AV → List (Nat × ABlk) → Nat → Prop} (hk : k ≤ GB) (hal : ∀ v ∈ args, v.lt k) (hhl : hpLt k hp) (hnt : args.length ≤ fn.ntmps)
    (h : wpC P T md c ⟨argTm 0 args, hp, k, fn.ntmps, k⟩ (bodyQ T md fn Post)) : FSpec P f args hp k Post where
  call := Go.Proofs.enters_of hf hn hb
  run := fun w R vs hok hvs hcon H => by
    let E : Env := ⟨w, R, k, fun j => ∃ i b, lk hp i = some b ∧ b.wr = true ∧ R.ρ i = j⟩
    have F : Fit E R ⟨argTm 0 args, hp, k, fn.ntmps, k⟩ { tmps := vs ++ Array.replicate (fn.ntmps - vs.size) undef, defers := [] } w := {
      ok := hok
      nt := by simp [hvs]; omega
      tm := fun t v hv => by
        obtain ⟨_, h2⟩ := argTm_get args 0 t v hv
        obtain ⟨u, hu, hc⟩ := hcon t v (by simpa using h2)
        refine ⟨u, ?_, hc⟩
        have := (Array.getElem?_eq_some_iff.1 hu).1
        rw [Array.getElem?_append_left this]; exact hu
      hp := H
      old := fun _ _ => ⟨rfl, rfl, rfl⟩
      wr := fun id b hb hw => .inl ⟨id, b, hb, hw, rfl⟩
      nx := fun id b hb => (hpLt_get hhl hb).1
      nk := ⟨Nat.le_refl _, hk⟩
      kk := rfl
      fr := Fr.refl _ _
      df := ⟨[], rfl, List.nodup_nil, fun d hd => (List.not_mem_nil hd).elim⟩
      wf := ⟨fun t v hv => by
          obtain ⟨_, h2⟩ := argTm_get args 0 t v hv
          exact hal v (List.mem_of_getElem? h2), fun i b hb => hpLt_get hhl hb⟩ }
    have key := (wpC_sound hT c _ _ h).elim (n := 3) (r := none) F (.inl ⟨rfl, Nat.le_refl _⟩)
    refine callsIn_wide.1 (callsIn_of_wp_marks hf hb trivial (wpIn_mono key ?_) rfl)
    rintro e a' w' ⟨R', s', hq, F'⟩
    have fin : (resA T md s' fn.results.toList fun es => Fin s' (tupA es) Post) → LeavesInM (FW none) 3 P fn a'.tmps (fun e w' => ∃ u r hp' k' R', e = .returned u ∧ Post r hp' k' ∧ R'.ok ∧ Agree k R R' ∧ k ≤ k' ∧ conV R' r u ∧ r.lt k' ∧ HRel R' hp' w' ∧ (hp'.map Prod.fst).Nodup ∧
      (∀ i b, lk hp' i = some b → (i < k' ∨ GB ≤ i) ∧ b.lt k') ∧
      (∀ i b, lk hp' i = some b → b.wr = true → (∃ i0 b0, lk hp i0 = some b0 ∧ b0.wr = true ∧ R.ρ i0 = R'.ρ i) ∨ w.heap.size ≤ R'.ρ i) ∧
      Fr (fun j => ∃ i b, lk hp i = some b ∧ b.wr = true ∧ R.ρ i = j) w w') a'.defers .returning w' := by
      intro hq
      obtain ⟨ds, hd1, hd2, hd3⟩ := F'.df
      rw [hd1]
      refine leavesM (R := R') (hp := s'.hp) (M := E.M) (W0 := w) ?_ ds w' F'.hp F'.fr hd2 hd3
      intro w2 H2 Fr2
      have F2 : Fit E R' s' { a' with defers := [] } w2 := { F' with hp := H2, fr := Fr2, df := ⟨[], rfl, List.nodup_nil, fun d hd => (List.not_mem_nil hd).elim⟩ }
      obtain ⟨es, ⟨l, r0, hp', fo⟩, us, h1, h2, h3, h4, h5⟩ := resA_sound (P := P) hT _ F2 hq
      have hk0 : s'.k0 = k := F'.kk
      have ltk : ∀ i, i < k → qf s'.k0 l i = i := fun i hi => by simp [qf, hk0, hi]
      have ltG : ∀ i, qf s'.k0 l (GB + i) = GB + i := fun i => by simp [qf, hk0, show ¬ (GB + i < k) by omega]
      have hold := F2.old
      refine ⟨_, run_results h3, _, r0, hp', s'.k0 + l.length, R'.comp (qf s'.k0 l), rfl, fo.post, ⟨fun i => by simp [Ren.comp, ltG, F2.ok.g], fun i => by simp [Ren.comp, ltG, F2.ok.d], fun i => by simp [Ren.comp, ltG, F2.ok.c]⟩, ?_, by omega, ?_, fo.rlt, ?_, fo.nd, fun i b hb => hpLt_get fo.hlt hb, ?_, Fr2⟩
      · intro i hi
        rcases hi with hi | hi
        · simp only [Ren.comp, ltk i hi]; exact hold i hi
        · obtain ⟨j, rfl⟩ := Nat.exists_eq_add_of_le hi
          simp only [Ren.comp, ltG, F2.ok.g, F2.ok.d, F2.ok.c, hok.g, hok.d, hok.c, and_self]
      · have := tupA_sound (by omega) h4
        rw [← fo.res] at this
        exact conV_ren.1 this
      · exact ⟨fun i b hb => BRel_ren.1 (H2.blk _ _ (hpAll_get fo.hp hb)), fun i j b c hi hj hne hw =>
          H2.inj _ _ _ _ (hpAll_get fo.hp hi) (hpAll_get fo.hp hj) (nodup_inj fo.inj hi hj hne) (by rw [ABlk.ren_wr]; exact hw)⟩
      · intro i b hb hw
        rcases F2.wr _ _ (hpAll_get fo.hp hb) (by rw [ABlk.ren_wr]; exact hw) with ⟨i0, b0, g1, g2, g3⟩ | g
        · exact .inl ⟨i0, b0, g1, g2, g3⟩
        · exact .inr g
    cases e <;> first | exact fin hq | exact hq.elim

attribute [irreducible] Fin
end Go.AH

/-
  A table of types, held against the program by the kernel; lemmas for reckoning.
-/
namespace Go.AH
open Go.RowKit

def acB : AC → Value → Bool
  | .int k n, .int k' n' => k == k' && n == n'
  | .bool b, .bool b' => b == b'
  | .str s, .string s' => s.data.toList == s'.data.toList
  | .nilp, .pointer none => true
  | .nils, .slice none 0 0 => true
  | .nilfn, .nilFunc => true
  | .nilm, .map none => true
  | _, _ => false
def acsB : List AC → List Value → Bool
  | [], [] => true
  | x :: r, v :: q => acB x v && acsB r q
  | _, _ => false
def zeroB (i : TI) (z : Value) : Bool := match z with
  | .agg vs => i.agg && acsB i.zero vs.toList
  | z => !i.agg && acsB i.zero [z]
def tdB (P : Program) (t : TypeId) (d : TD) : Bool := match d, P.underlying t with
  | .int k, some (.int k') => k == k'
  | .bool, some .bool => true
  | .str, some .string => true
  | .ptr, some (.pointer _) => true
  | .slice e, some (.slice e') => e == e'
  | .arr n e, some (.array n' e') => n == n' && e == e'
  | .struct fs, some (.struct fields) => (fields.toList.map fun f => (f.offset, f.type)) == fs && fs.all fun p => (P.info? p.2).isSome
  | .map k e, some (.map k' e') => k == k' && e == e'
  | .func, some (.func _ _ _) => true
  | _, _ => false
def tiB (P : Program) (t : TypeId) (i : TI) : Bool := match P.info? t with
  | some x => x.size == i.size && x.bytes == i.bytes && (match x.zero with | some z => zeroB i z | none => false) && tdB P t i.d
  | none => false

theorem acB_sound {x : AC} {v : Value} (h : acB x v = true) (R : Ren) : conC R x v ∧ x.lt 0 := by
  unfold acB at h
  split at h <;> first | (cases h; done) | skip
  · simp only [Bool.and_eq_true, beq_iff_eq] at h; obtain ⟨rfl, rfl⟩ := h; exact ⟨rfl, trivial⟩
  · simp only [beq_iff_eq] at h; subst h; exact ⟨rfl, trivial⟩
  · rename_i s s'
    simp only [beq_iff_eq] at h
    have : s = s' := by
      obtain ⟨⟨l⟩⟩ := s; obtain ⟨⟨l'⟩⟩ := s'
      simp at h; rw [h]
    subst this; exact ⟨rfl, trivial⟩
  · exact ⟨rfl, trivial⟩
  · exact ⟨rfl, trivial⟩
  · exact ⟨rfl, trivial⟩
  · exact ⟨rfl, trivial⟩
theorem acsB_sound : ∀ {xs : List AC} {vs : List Value}, acsB xs vs = true → vs.length = xs.length ∧ (∀ R, conL R xs vs.toArray 0) ∧ ∀ x ∈ xs, x.lt 0
  | [], [], _ => ⟨rfl, fun R i x hi => by simp at hi, fun x hx => (List.not_mem_nil hx).elim⟩
  | x :: r, v :: q, h => by
    simp only [acsB, Bool.and_eq_true] at h
    obtain ⟨h1, h2, h3⟩ := acsB_sound h.2
    refine ⟨by simp [h1], fun R i y hi => ?_, fun y hy => ?_⟩
    · cases i with
      | zero => simp at hi; subst hi; exact ⟨v, rfl, (acB_sound h.1 R).1⟩
      | succ i =>
        simp at hi
        obtain ⟨u, hu, hc⟩ := h2 R i y hi
        refine ⟨u, ?_, hc⟩
        rw [Nat.zero_add] at hu ⊢
        simpa using hu
    · rcases List.mem_cons.1 hy with e | e
      · exact e ▸ (acB_sound h.1 ⟨id, id, id⟩).2
      · exact h3 y e
  | [], _ :: _, h => by cases h
  | _ :: _, [], h => by cases h

theorem tiok_of {P : Program} {t : TypeId} {i : TI} (h : tiB P t i = true) (he : (!i.cmp || keyB P t i.zero) = true := by rfl) : TIok P t i := by
  unfold tiB at h
  split at h <;> first | (cases h; done) | skip
  rename_i x hx
  simp only [Bool.and_eq_true, beq_iff_eq] at h
  obtain ⟨⟨⟨h1, h2⟩, h3⟩, h4⟩ := h
  split at h3 <;> first | (cases h3; done) | skip
  rename_i z hz
  refine ⟨?_, fun hc => eqLaw_of (by rw [hc] at he; simpa using he), fun hna x' z' hx' hz' => ?_, x, z, hx, h1, h2, hz, ?_⟩
  · unfold tdB at h4
    split at h4 <;> first | (cases h4; done) | skip
    · rename_i e1 e2; simp only [beq_iff_eq] at h4; subst h4; rw [e1]; exact e2
    · rename_i e1 e2; rw [e1]; exact e2
    · rename_i e1 e2; rw [e1]; exact e2
    · rename_i e1 e2; rw [e1]; exact ⟨_, e2⟩
    · rename_i e1 e2; simp only [beq_iff_eq] at h4; subst h4; rw [e1]; exact e2
    · rename_i e1 e2; simp only [beq_iff_eq, Bool.and_eq_true] at h4; obtain ⟨rfl, rfl⟩ := h4; rw [e1]; exact e2
    · rename_i e1 e2; simp only [beq_iff_eq, Bool.and_eq_true, List.all_eq_true] at h4; rw [e1]; exact ⟨_, e2, h4.1, h4.2⟩
    · rename_i e1 e2; simp only [beq_iff_eq, Bool.and_eq_true] at h4; obtain ⟨rfl, rfl⟩ := h4; rw [e1]; exact e2
    · rename_i e1 e2; rw [e1]; exact ⟨_, _, _, e2⟩
  · rw [hx] at hx'; injection hx' with hx'; subst hx'
    rw [hz] at hz'; injection hz' with hz'; subst hz'
    unfold zeroB at h3
    split at h3
    · simp only [hna, Bool.false_and] at h3; cases h3
    · rename_i hnag
      cases z <;> first | rfl | exact absurd rfl (hnag _)
  · unfold zeroB at h3
    split at h3
    · rename_i vs
      simp only [Bool.and_eq_true] at h3
      obtain ⟨g1, g2, g3⟩ := acsB_sound h3.2
      exact ⟨by simpa [Value.cells] using g1, fun R => by simpa [Value.cells] using g2 R, fun _ => rfl, g3⟩
    · rename_i hna
      simp only [Bool.and_eq_true, Bool.not_eq_true'] at h3
      obtain ⟨g1, g2, g3⟩ := acsB_sound h3.2
      have : z.cells = #[z] := by cases z <;> first | rfl | exact absurd rfl (hna _)
      rw [this]
      refine ⟨g1, g2, fun e => ?_, g3⟩
      rw [h3.1] at e; cases e

end Go.AH

/-
  An operation at work on part of a state leaves the rest alone.
-/
namespace Go.AH
open Go.RowKit

def AC.all (p : Nat → Prop) : AC → Prop
  | .ptr id _ => p id
  | .sl id _ _ _ => p id
  | .row id _ => p id
  | .map id => p id
  | .fn _ fs cs => (∀ i ∈ fs, p i) ∧ ∀ i ∈ cs, p i
  | .rs id _ _ => p id
  | .rp id _ _ _ _ => p id
  | _ => True
def LA (p : Nat → Prop) (cs : List AC) : Prop := ∀ x ∈ cs, x.all p
def AE.all (p : Nat → Prop) : AE → Prop
  | .c x => x.all p
  | .g cs => LA p cs
def AV.all (p : Nat → Prop) : AV → Prop
  | .c x => x.all p
  | .g cs => LA p cs
  | .t es => ∀ e ∈ es, AE.all p e
def ABlk.all (p : Nat → Prop) : ABlk → Prop
  | .ro cs => LA p cs
  | .own cs => LA p cs
  | .row _ _ cs => LA p cs
  | .mp m => ∀ q ∈ m, LA p q.1 ∧ q.2.all p
  | .mi _ => True
  | .si .. => True
  | .li _ => True

theorem AC.lt_all {n : Nat} {x : AC} : x.lt n ↔ x.all (idOk n) := by cases x <;> rfl
theorem LL_all {n : Nat} {cs : List AC} : LL n cs ↔ LA (idOk n) cs := by
  unfold LL LA; simp only [AC.lt_all]
theorem AE.lt_all {n : Nat} {x : AE} : x.lt n ↔ x.all (idOk n) := by
  cases x <;> simp only [AE.lt, AE.all, AC.lt_all, LL_all]
theorem AV.lt_all {n : Nat} {x : AV} : x.lt n ↔ x.all (idOk n) := by
  cases x <;> simp only [AV.lt, AV.all, AC.lt_all, LL_all, AE.lt_all]
theorem ABlk.lt_all {n : Nat} {b : ABlk} : b.lt n ↔ b.all (idOk n) := by
  cases b <;> simp only [ABlk.lt, ABlk.all, AC.lt_all, LL_all]

theorem AC.all.mono {p q : Nat → Prop} {x : AC} (h : x.all p) (hm : ∀ i, p i → q i) : x.all q := by
  cases x <;> simp only [AC.all] at h ⊢ <;> first | exact hm _ h | exact ⟨fun i hi => hm _ (h.1 i hi), fun i hi => hm _ (h.2 i hi)⟩
theorem LA.mono {p q : Nat → Prop} {cs : List AC} (h : LA p cs) (hm : ∀ i, p i → q i) : LA q cs := fun x hx => (h x hx).mono hm
theorem AE.all.mono {p q : Nat → Prop} {x : AE} (h : x.all p) (hm : ∀ i, p i → q i) : x.all q := by
  cases x
  · exact AC.all.mono h hm
  · exact LA.mono h hm
theorem AV.all.mono {p q : Nat → Prop} {x : AV} (h : x.all p) (hm : ∀ i, p i → q i) : x.all q := by
  cases x
  · exact AC.all.mono h hm
  · exact LA.mono h hm
  · exact fun e he => (h e he).mono hm
theorem ABlk.all.mono {p q : Nat → Prop} {b : ABlk} (h : b.all p) (hm : ∀ i, p i → q i) : b.all q := by
  cases b
  · exact LA.mono h hm
  · exact LA.mono h hm
  · exact LA.mono h hm
  · exact fun p hp => ⟨(h p hp).1.mono hm, (h p hp).2.mono hm⟩
  · trivial
  · trivial
  · trivial

/-- Two namings agree where p holds. -/
def AgreeOn (p : Nat → Prop) (R R' : Ren) : Prop := ∀ i, p i → R'.ρ i = R.ρ i ∧ R'.δ i = R.δ i ∧ R'.κ i = R.κ i
theorem AgreeOn.adr {p : Nat → Prop} {R R' : Ren} (h : AgreeOn p R R') {i : Nat} (hi : p i) (o : Nat) : R'.adr i o = R.adr i o := by
  obtain ⟨a, b, _⟩ := h i hi; simp [Ren.adr, a, b]

theorem conC.agreeOn {p : Nat → Prop} {R R' : Ren} (h : AgreeOn p R R') {x : AC} {v : Value} (hx : x.all p) (hc : conC R x v) : conC R' x v := by
  cases x with
  | ptr id off => simp only [conC, h.adr hx] at hc ⊢; exact hc
  | sl id off len cap => simp only [conC, h.adr hx] at hc ⊢; exact hc
  | rs id off len => simp only [conC, h.adr hx] at hc ⊢; exact hc
  | row id len => obtain ⟨a, _, c⟩ := h id hx; simp only [conC, a, c] at hc ⊢; exact hc
  | map id => obtain ⟨a, _, _⟩ := h id hx; simp only [conC, a] at hc ⊢; exact hc
  | rp id o len cc z => obtain ⟨a, _, c⟩ := h id hx; simp only [conC, a, c] at hc ⊢; exact hc
  | fn f fs cs =>
    have hp : ∀ i, p i → R'.p0 i = R.p0 i := fun i hi => by simp [Ren.p0, h.adr hi]
    simp only [conC] at hc ⊢
    rw [hc, List.map_congr_left fun i hi => hp i (hx.1 i hi), List.map_congr_left fun i hi => hp i (hx.2 i hi)]
  | _ => exact hc
theorem conL.agreeOn {p : Nat → Prop} {R R' : Ren} (h : AgreeOn p R R') {cs : List AC} {vs : Array Value} {o : Nat} (hx : LA p cs) (hc : conL R cs vs o) : conL R' cs vs o := fun i x hi => by
  obtain ⟨v, hv, hcv⟩ := hc i x hi
  exact ⟨v, hv, hcv.agreeOn h (hx x (List.mem_of_getElem? hi))⟩
theorem conE.agreeOn {p : Nat → Prop} {R R' : Ren} (h : AgreeOn p R R') {x : AE} {v : Value} (hx : x.all p) (hc : conE R x v) : conE R' x v := by
  cases x with
  | c x => exact conC.agreeOn h hx hc
  | g cs => obtain ⟨vs, a, b, c⟩ := hc; exact ⟨vs, a, b, c.agreeOn h hx⟩
theorem conV.agreeOn {p : Nat → Prop} {R R' : Ren} (h : AgreeOn p R R') {x : AV} {v : Value} (hx : x.all p) (hc : conV R x v) : conV R' x v := by
  cases x with
  | c x => exact conC.agreeOn h hx hc
  | g cs => obtain ⟨vs, a, b, c⟩ := hc; exact ⟨vs, a, b, c.agreeOn h hx⟩
  | t es =>
    obtain ⟨vs, a, b, c⟩ := hc
    exact ⟨vs, a, b, fun i e hi => by obtain ⟨u, hu, hc⟩ := c i e hi; exact ⟨u, hu, hc.agreeOn h (hx e (List.mem_of_getElem? hi))⟩⟩
theorem BRel.agreeOn {p : Nat → Prop} {R R' : Ren} (h : AgreeOn p R R') {id : Nat} {w : World} {b : ABlk} (hid : p id) (hx : b.all p) (hc : BRel R id w b) : BRel R' id w b := by
  obtain ⟨h1, h2, h3⟩ := h id hid
  cases b with
  | ro cs => simp only [BRel, h1, h2] at hc ⊢; obtain ⟨c, t, z, a, b⟩ := hc; exact ⟨c, t, z, a, b.agreeOn h hx⟩
  | own cs => simp only [BRel, h1, h2] at hc ⊢; obtain ⟨c, t, a, d, e, b⟩ := hc; exact ⟨c, t, a, d, e, b.agreeOn h hx⟩
  | row e z cs => simp only [BRel, h1, h2, h3] at hc ⊢; obtain ⟨c, a, d, e, f, g, b⟩ := hc; exact ⟨c, a, d, e, f, g, b.agreeOn h hx⟩
  | mp m =>
    simp only [BRel, h1] at hc ⊢
    obtain ⟨es, cl, a, b, c⟩ := hc
    refine ⟨es, cl, a, b, fun i k v hi => ?_⟩
    obtain ⟨e, he, ⟨vs, k1, k2, k3⟩, hv⟩ := c i k v hi
    have := hx (k, v) (List.mem_of_getElem? hi)
    exact ⟨e, he, ⟨vs, k1, k2, k3.agreeOn h this.1⟩, hv.agreeOn h this.2⟩
  | mi I =>
    obtain ⟨m, ⟨hI, hp⟩, hm⟩ := BRel.mi_iff.1 hc
    exact BRel.mi_iff.2 ⟨m, ⟨hI, hp⟩, hm.mp_prim hp h1⟩
  | si s p => simp only [BRel, h1, h2] at hc ⊢; exact hc
  | li I => simp only [BRel, h1, h2] at hc ⊢; obtain ⟨cs, ⟨hI, hp⟩, c, t, a, d, e, b⟩ := hc; exact ⟨cs, ⟨hI, hp⟩, c, t, a, d, e, conL_prim hp b⟩

theorem BRel.not_deferred {R : Ren} {id : Nat} {w : World} {b : ABlk} (h : BRel R id w b) (ds : Option (List Deferred)) : w.heap[R.ρ id]? ≠ some (.deferred ds) := by
  intro e
  cases b <;> simp only [BRel] at h <;> simp_all

theorem lk_append {β : Type} (l r : List (Nat × β)) (i : Nat) : lk (l ++ r) i = (lk l i).or (lk r i) := by
  induction l with
  | nil => simp [lk]
  | cons p l ih =>
    obtain ⟨j, c⟩ := p
    simp only [List.cons_append, lk]
    split
    · simp
    · exact ih

/-- Numbers in [b, c) are R2's, the others R's. -/
def mix (R R2 : Ren) (b c : Nat) : Ren :=
  ⟨fun i => if b ≤ i ∧ i < c then R2.ρ i else R.ρ i, fun i => if b ≤ i ∧ i < c then R2.δ i else R.δ i, fun i => if b ≤ i ∧ i < c then R2.κ i else R.κ i⟩

def outside (b c i : Nat) : Prop := i < b ∨ c ≤ i

variable {P : Program} {T : Nat → Option TI} {md : Bool} {E : Env} {R R2 : Ren} {s : AS} {a : Act} {w w' : World} {n : Nat} {r : Option Nat}

theorem mix_out (b c : Nat) : AgreeOn (outside b c) R (mix R R2 b c) := fun i hi => by
  have : ¬ (b ≤ i ∧ i < c) := by unfold outside at hi; omega
  simp [mix, this]
theorem mix_in (b c : Nat) (hc : c ≤ GB) (h1 : ∀ i, i < b → R2.ρ i = R.ρ i ∧ R2.δ i = R.δ i ∧ R2.κ i = R.κ i) (ok : R.ok) (ok2 : R2.ok) : AgreeOn (idOk c) R2 (mix R R2 b c) := fun i hi => by
  by_cases h : b ≤ i ∧ i < c
  · simp [mix, h]
  · simp only [mix, if_neg h]
    rcases hi with hi | hi
    · obtain ⟨x, y, z⟩ := h1 i (by omega); exact ⟨x.symm, y.symm, z.symm⟩
    · obtain ⟨j, rfl⟩ := Nat.exists_eq_add_of_le hi
      simp [ok.g, ok.d, ok.c, ok2.g, ok2.d, ok2.c]

/-- What an operation on part of a state may turn. -/
def locM (R : Ren) (hp0 : List (Nat × ABlk)) (a : Act) (j : Nat) : Prop :=
  (∃ i c, lk hp0 i = some c ∧ c.wr = true ∧ R.ρ i = j) ∨ ∃ x ∈ a.defers, x.target = .collected j

structure Part (s : AS) (tm0 : List (Nat × AV)) (hp0 : List (Nat × ABlk)) (b : Nat) : Prop where
  tm : ∀ t v, lk tm0 t = some v → lk s.tm t = some v ∧ v.lt b
  hp : ∀ i c, lk hp0 i = some c → lk s.hp i = some c ∧ idOk b i ∧ c.lt b

theorem Fit.part {tm0 : List (Nat × AV)} {hp0 : List (Nat × ABlk)} {b : Nat} (F : Fit E R s a w) (H : Part s tm0 hp0 b) (hb : b ≤ GB) : Fit ⟨w, R, b, locM R hp0 a⟩ R ⟨tm0, hp0, b, s.nt, b⟩ a w where
  ok := F.ok
  nt := F.nt
  tm := fun t v hv => F.tm t v (H.tm t v hv).1
  hp := ⟨fun i c hc => F.hp.blk i c (H.hp i c hc).1, fun i j c d hi hj => F.hp.inj i j c d (H.hp i c hi).1 (H.hp j d hj).1⟩
  old := fun _ _ => ⟨rfl, rfl, rfl⟩
  wr := fun i c hc hw => .inl (.inl ⟨i, c, hc, hw, rfl⟩)
  nx := fun i c hc => (H.hp i c hc).2.1
  nk := ⟨Nat.le_refl _, hb⟩
  kk := rfl
  fr := Fr.refl _ _
  df := by
    obtain ⟨ds, h1, h2, h3⟩ := F.df
    exact ⟨ds, h1, h2, fun d hd => ⟨.inl (.inr ⟨⟨.collected d, #[]⟩, by rw [h1]; exact List.mem_map.2 ⟨d, hd, rfl⟩, rfl⟩), (h3 d hd).2⟩⟩
  wf := ⟨fun t v hv => (H.tm t v hv).2, fun i c hc => (H.hp i c hc).2⟩

/-- A block that comes back is new, or one that was handed over and may be turned. -/
def NbOk (hp0 : List (Nat × ABlk)) (b b' i : Nat) : Prop := (b ≤ i ∧ i < b') ∨ ∃ c0, lk hp0 i = some c0 ∧ c0.wr = true

theorem Fit.framed {tm0 : List (Nat × AV)} {hp0 nb : List (Nat × ABlk)} {b b' : Nat} {v : AV} {u : Value} (F : Fit E R s a w) (H : Part s tm0 hp0 b)
    (hb : E.k ≤ b ∧ b' ≤ s.nx) (F2 : Fit ⟨w, R, b, locM R hp0 a⟩ R2 ⟨tm0, nb ++ hp0, b', s.nt, b⟩ a w') (hc : conV R2 v u) (hl : v.lt b')
    (hnb : ∀ i c, lk nb i = some c → NbOk hp0 b b' i ∧ c.wr = true)
    (otm : ∀ t v, lk s.tm t = some v → v.all (outside b b')) (ohp : ∀ i c, lk s.hp i = some c → outside b b' i ∧ c.all (outside b b')) :
    Fit E (mix R R2 b b') { s with hp := nb ++ s.hp } a w' ∧ conV (mix R R2 b b') v u ∧ v.lt s.nx ∧ ∀ i c, lk nb i = some c → c.lt b' := by
  have hG := F.nk.2
  have hbb : b ≤ b' := F2.nk.1
  have ain : AgreeOn (idOk b') R2 (mix R R2 b b') := mix_in b b' (Nat.le_trans hb.2 hG) F2.old F.ok F2.ok
  have aout : AgreeOn (outside b b') R (mix R R2 b b') := mix_out b b'
  have hGB : b' ≤ GB := Nat.le_trans hb.2 hG
  have nbl : ∀ i c, lk nb i = some c → lk (nb ++ hp0) i = some c := fun i c h => by rw [lk_append, h]; rfl
  have nbid : ∀ i c, lk nb i = some c → idOk b' i := fun i c h => by
    rcases (hnb i c h).1 with h1 | ⟨c0, h1, _⟩
    · exact .inl h1.2
    · exact (H.hp i c0 h1).2.1.mono hbb
  have nbo : ∀ i c, lk nb i = some c → lk s.hp i = none → b ≤ i ∧ i < b' := fun i c h h2 => by
    rcases (hnb i c h).1 with h1 | ⟨c0, h1, _⟩
    · exact h1
    · have := (H.hp i c0 h1).1; rw [h2] at this; cases this
  -- a block that was turned, or is new
  have two : ∀ i c, lk nb i = some c → (b ≤ i ∧ i < b' ∧ lk s.hp i = none) ∨ ∃ c0, lk hp0 i = some c0 ∧ c0.wr = true ∧ lk s.hp i = some c0 := fun i c h => by
    rcases (hnb i c h).1 with h1 | ⟨c0, h1, h2⟩
    · refine .inl ⟨h1.1, h1.2, ?_⟩
      cases hq : lk s.hp i with
      | none => rfl
      | some d => have h2 := (ohp i d hq).1; unfold outside at h2; omega
    · exact .inr ⟨c0, h1, h2, (H.hp i c0 h1).1⟩
  have h0l : ∀ i c, lk hp0 i = some c → lk nb i = none → lk (nb ++ hp0) i = some c := fun i c h hn => by rw [lk_append, hn, h]; rfl
  have h0w : ∀ i c, lk hp0 i = some c → c.wr = true → ∃ d, lk (nb ++ hp0) i = some d ∧ d.wr = true := fun i c h hw => by
    cases hn : lk nb i with
    | none => exact ⟨c, h0l i c h hn, hw⟩
    | some d => exact ⟨d, nbl i d hn, (hnb i d hn).2⟩
  have split : ∀ i c, lk (nb ++ s.hp) i = some c → lk nb i = some c ∨ (lk nb i = none ∧ lk s.hp i = some c) := fun i c h => by
    rw [lk_append] at h
    cases hq : lk nb i with
    | none => rw [hq] at h; exact .inr ⟨rfl, h⟩
    | some d => rw [hq] at h; exact .inl h
  have oldρ : ∀ i c, lk s.hp i = some c → (mix R R2 b b').ρ i = R.ρ i := fun i c h => (aout i (ohp i c h).1).1
  have newρ : ∀ i c, lk nb i = some c → (mix R R2 b b').ρ i = R2.ρ i := fun i c h => (ain i (nbid i c h)).1
  have r2old : ∀ i c, lk hp0 i = some c → R2.ρ i = R.ρ i := fun i c h => by
    rcases (H.hp i c h).2.1 with h1 | h1
    · exact (F2.old i h1).1
    · obtain ⟨j, rfl⟩ := Nat.exists_eq_add_of_le h1
      rw [F2.ok.g, F.ok.g]
  -- new blocks are new
  have fresh : ∀ i c, lk nb i = some c → lk s.hp i = none → w.heap.size ≤ R2.ρ i := fun i c h hno => by
    rcases F2.wr i c (nbl i c h) (hnb i c h).2 with h1 | h1
    · rcases h1 with ⟨i0, c0, e1, e2, e3⟩ | h1
      · exfalso
        obtain ⟨d0, g1, g2⟩ := h0w i0 c0 e1 e2
        refine F2.hp.inj i0 i d0 c g1 (nbl i c h) ?_ g2 (by rw [r2old i0 c0 e1]; exact e3)
        intro e; subst e
        have := (H.hp i0 c0 e1).1
        rw [hno] at this; cases this
      · exfalso
        obtain ⟨x, hx, e⟩ := h1
        obtain ⟨ds2, k1, k2, k3⟩ := F2.df
        rw [k1] at hx
        obtain ⟨d, hd, rfl⟩ := List.mem_map.1 hx
        injection e with e
        exact (F2.hp.blk i c (nbl i c h)).not_deferred _ (e ▸ (k3 d hd).2)
    · exact h1
  -- old blocks that were not handed over stay
  have stays : ∀ i c, lk s.hp i = some c → lk hp0 i = none → w'.heap[R.ρ i]? = w.heap[R.ρ i]? := fun i c h h0 => by
    refine F2.fr.block _ (F.hp.blk i c h).lt ?_
    rintro (⟨i0, c0, e1, e2, e3⟩ | ⟨x, hx, e⟩)
    · refine F.hp.inj i0 i c0 c (H.hp i0 c0 e1).1 h ?_ e2 e3
      intro e; subst e; rw [h0] at e1; cases e1
    · obtain ⟨ds, k1, k2, k3⟩ := F.df
      rw [k1] at hx
      obtain ⟨d, hd, rfl⟩ := List.mem_map.1 hx
      injection e with e
      exact (F.hp.blk i c h).not_deferred _ (e ▸ (k3 d hd).2)
  have blkO : ∀ i c, lk nb i = none → lk s.hp i = some c → BRel (mix R R2 b b') i w' c := fun i c hn h => by
    cases h0 : lk hp0 i with
    | none => exact ((F.hp.blk i c h).of_block (stays i c h h0)).agreeOn aout (ohp i c h).1 (ohp i c h).2
    | some c' =>
      have e : c' = c := by have := (H.hp i c' h0).1; rw [h] at this; injection this with this; exact this.symm
      subst e
      exact (F2.hp.blk i c' (h0l i c' h0 hn)).agreeOn ain ((H.hp i c' h0).2.1.mono hbb) (ABlk.lt_all.1 ((H.hp i c' h0).2.2.mono hbb))
  have blkN : ∀ i c, lk nb i = some c → BRel (mix R R2 b b') i w' c := fun i c h =>
    (F2.hp.blk i c (nbl i c h)).agreeOn ain (nbid i c h) (ABlk.lt_all.1 (F2.wf.hp i c (nbl i c h)).2)
  refine ⟨{
    ok := ⟨fun i => ?_, fun i => ?_, fun i => ?_⟩
    nt := F.nt
    tm := fun t v' h => by
      obtain ⟨u', hu, hc'⟩ := F.tm t v' h
      exact ⟨u', hu, hc'.agreeOn aout (otm t v' h)⟩
    hp := ⟨fun i c h => ?_, fun i j c d hi hj hne hw => ?_⟩
    old := fun i hi => ?_
    wr := fun i c h hw => ?_
    nx := fun i c h => ?_
    nk := F.nk
    kk := F.kk
    fr := F.fr.trans F2.fr ?_
    df := ?_
    wf := ⟨F.wf.tm, fun i c h => ?_⟩ }, ?_, ?_, ?_⟩
  · rw [(aout (GB + i) (.inr (by omega))).1, F.ok.g]
  · rw [(aout (GB + i) (.inr (by omega))).2.1, F.ok.d]
  · rw [(aout (GB + i) (.inr (by omega))).2.2, F.ok.c]
  · rcases split i c h with h | ⟨hn, h⟩
    · exact blkN i c h
    · exact blkO i c hn h
  · rcases split i c hi with hi | ⟨_, hi⟩ <;> rcases split j d hj with hj | ⟨_, hj⟩
    · rw [newρ i c hi, newρ j d hj]; exact F2.hp.inj i j c d (nbl i c hi) (nbl j d hj) hne hw
    · rcases two i c hi with ⟨_, _, h3⟩ | ⟨c0, h1, h2, h3⟩
      · rw [newρ i c hi, oldρ j d hj]; have := fresh i c hi h3; have := (F.hp.blk j d hj).lt; omega
      · rw [oldρ i c0 h3, oldρ j d hj]; exact F.hp.inj i j c0 d h3 hj hne h2
    · rcases two j d hj with ⟨_, _, h3⟩ | ⟨c0, h1, h2, h3⟩
      · rw [oldρ i c hi, newρ j d hj]; have := fresh j d hj h3; have := (F.hp.blk i c hi).lt; omega
      · rw [oldρ i c hi, oldρ j c0 h3]; exact F.hp.inj i j c c0 hi h3 hne hw
    · rw [oldρ i c hi, oldρ j d hj]; exact F.hp.inj i j c d hi hj hne hw
  · obtain ⟨x, y, z⟩ := aout i (.inl (Nat.lt_of_lt_of_le hi hb.1))
    obtain ⟨x', y', z'⟩ := F.old i hi
    exact ⟨x.trans x', y.trans y', z.trans z'⟩
  · rcases split i c h with h | ⟨_, h⟩
    · rcases two i c h with ⟨_, _, h3⟩ | ⟨c0, h1, h2, h3⟩
      · rw [newρ i c h]; exact .inr (Nat.le_trans F.fr.size (fresh i c h h3))
      · rw [oldρ i c0 h3]; exact F.wr i c0 h3 h2
    · rw [oldρ i c h]; exact F.wr i c h hw
  · rcases split i c h with h | ⟨_, h⟩
    · rcases two i c h with ⟨h1, h2, h3⟩ | ⟨c0, h1, h2, h3⟩
      · left; show i < s.nx; omega
      · exact F.nx i c0 h3
    · exact F.nx i c h
  · rintro j (⟨i0, c0, e1, e2, e3⟩ | ⟨x, hx, e⟩)
    · exact e3 ▸ F.wr i0 c0 (H.hp i0 c0 e1).1 e2
    · obtain ⟨ds, k1, k2, k3⟩ := F.df
      rw [k1] at hx
      obtain ⟨d, hd, rfl⟩ := List.mem_map.1 hx
      injection e with e
      exact e ▸ (k3 d hd).1
  · obtain ⟨ds, k1, k2, k3⟩ := F.df
    obtain ⟨ds2, l1, l2, l3⟩ := F2.df
    refine ⟨ds, k1, k2, fun d hd => ⟨(k3 d hd).1, ?_⟩⟩
    have hx : (⟨.collected d, #[]⟩ : Deferred) ∈ a.defers := by rw [k1]; exact List.mem_map.2 ⟨d, hd, rfl⟩
    rw [l1] at hx
    obtain ⟨d2, hd2, e⟩ := List.mem_map.1 hx
    injection e with e _
    injection e with e
    exact e ▸ (l3 d2 hd2).2
  · rcases split i c h with h | ⟨_, h⟩
    · have h1 := F2.wf.hp i c (nbl i c h)
      exact ⟨(nbid i c h).mono hb.2, h1.2.mono hb.2⟩
    · exact F.wf.hp i c h
  · exact hc.agreeOn ain (AV.lt_all.1 hl)
  · exact hl.mono hb.2
  · exact fun i c h => (F2.wf.hp i c (nbl i c h)).2

end Go.AH

/-
  What an operation yields is one thing.
-/
namespace Go.AH
open Go.RowKit

def DetC {α : Type} (f : (α → Prop) → Prop) : Prop := ∀ k, f k → ∃ x, k x ∧ ∀ k' : α → Prop, k' x → f k'
/-- The state stays. -/
def PureC (s : AS) (f : (AV → AS → Prop) → Prop) : Prop := ∀ k, f k → ∃ v, k v s ∧ ∀ k' : AV → AS → Prop, k' v s → f k'
/-- One block is new. -/
def NewC (s : AS) (f : (AV → AS → Prop) → Prop) : Prop := ∀ k, f k → ∃ v c, k v ⟨s.tm, (s.nx, c) :: s.hp, s.nx + 1, s.nt, s.k0⟩ ∧ c.wr = true ∧ ∀ k' : AV → AS → Prop, k' v ⟨s.tm, (s.nx, c) :: s.hp, s.nx + 1, s.nt, s.k0⟩ → f k'

variable {T : Nat → Option TI} {md : Bool} {s : AS}

theorem DetC.pure {α : Type} (x : α) : DetC (fun k => k x) := fun k h => ⟨x, h, fun _ h => h⟩
theorem DetC.none {α : Type} : DetC (fun _ : α → Prop => False) := fun k h => h.elim
theorem DetC.and {α : Type} {c : Prop} {f : (α → Prop) → Prop} (hf : DetC f) : DetC (fun k => c ∧ f k) := fun k ⟨hc, h⟩ => by
  obtain ⟨x, h1, h2⟩ := hf k h; exact ⟨x, h1, fun k' h' => ⟨hc, h2 k' h'⟩⟩
theorem DetC.lit {α : Type} {b : Bool} {f : (α → Prop) → Prop} (hf : DetC f) : DetC (fun k => lit b (f k)) := by
  cases b
  · exact DetC.none
  · exact hf
theorem DetC.bind {α β : Type} {f : (α → Prop) → Prop} {g : α → (β → Prop) → Prop} (hf : DetC f) (hg : ∀ x, DetC (g x)) : DetC (fun k => f (fun x => g x k)) := fun k h => by
  obtain ⟨x, h1, h2⟩ := hf _ h
  obtain ⟨y, h3, h4⟩ := hg x _ h1
  exact ⟨y, h3, fun k' h' => h2 _ (h4 _ h')⟩
theorem DetC.ite {α : Type} {c : Prop} [Decidable c] {f g : (α → Prop) → Prop} (hf : DetC f) (hg : DetC g) : DetC (fun k => if c then f k else g k) := by
  split
  · exact hf
  · exact hg
theorem PureC.pure (v : AV) : PureC s (fun k => k v s) := fun k h => ⟨v, h, fun _ h => h⟩
theorem PureC.none : PureC s (fun _ => False) := fun k h => h.elim
theorem PureC.and {c : Prop} {f : (AV → AS → Prop) → Prop} (hf : PureC s f) : PureC s (fun k => c ∧ f k) := fun k ⟨hc, h⟩ => by
  obtain ⟨x, h1, h2⟩ := hf k h; exact ⟨x, h1, fun k' h' => ⟨hc, h2 k' h'⟩⟩
theorem PureC.bind {α : Type} {f : (α → Prop) → Prop} {g : α → (AV → AS → Prop) → Prop} (hf : DetC f) (hg : ∀ x, PureC s (g x)) : PureC s (fun k => f (fun x => g x k)) := fun k h => by
  obtain ⟨x, h1, h2⟩ := hf _ h
  obtain ⟨y, h3, h4⟩ := hg x _ h1
  exact ⟨y, h3, fun k' h' => h2 _ (h4 _ h')⟩
theorem PureC.ite {c : Prop} [Decidable c] {f g : (AV → AS → Prop) → Prop} (hf : PureC s f) (hg : PureC s g) : PureC s (fun k => if c then f k else g k) := by
  split
  · exact hf
  · exact hg
theorem PureC.lit {b : Bool} {f : (AV → AS → Prop) → Prop} (hf : PureC s f) : PureC s (fun k => lit b (f k)) := by
  cases b
  · exact PureC.none
  · exact hf
theorem NewC.bind {α : Type} {f : (α → Prop) → Prop} {g : α → (AV → AS → Prop) → Prop} (hf : DetC f) (hg : ∀ x, NewC s (g x)) : NewC s (fun k => f (fun x => g x k)) := fun k h => by
  obtain ⟨x, h1, h2⟩ := hf _ h
  obtain ⟨y, c, h3, hw, h4⟩ := hg x _ h1
  exact ⟨y, c, h3, hw, fun k' h' => h2 _ (h4 _ h')⟩
theorem NewC.none : NewC s (fun _ => False) := fun k h => h.elim
theorem NewC.and {c : Prop} {f : (AV → AS → Prop) → Prop} (hf : NewC s f) : NewC s (fun k => c ∧ f k) := fun k ⟨hc, h⟩ => by
  obtain ⟨x, b, h1, hw, h2⟩ := hf k h; exact ⟨x, b, h1, hw, fun k' h' => ⟨hc, h2 k' h'⟩⟩
theorem NewC.lit {b : Bool} {f : (AV → AS → Prop) → Prop} (hf : NewC s f) : NewC s (fun k => lit b (f k)) := by
  cases b
  · exact NewC.none
  · exact hf
theorem NewC.pure (v : AV) (c : ABlk) (hw : c.wr = true) : NewC s (fun k => k v ⟨s.tm, (s.nx, c) :: s.hp, s.nx + 1, s.nt, s.k0⟩) := fun k h => ⟨v, c, h, hw, fun _ h => h⟩

theorem onV_det (s : AS) (x : Operand) : DetC (onV s x) := by
  unfold onV
  cases ev s x with
  | none => exact DetC.none
  | some v => exact DetC.pure v
theorem onC_det (s : AS) (x : Operand) : DetC (onC s x) := by
  unfold onC
  rcases ev s x with _ | ⟨v | _ | _⟩
  · exact DetC.none
  · exact DetC.pure v
  · exact DetC.none
  · exact DetC.none
theorem onCells_det (s : AS) (id : Nat) : DetC (fun k : ABlk × List AC → Prop => onCells s id fun b cs => k (b, cs)) := by
  unfold onCells
  rcases lk s.hp id with _ | ⟨c | c | ⟨e, z, c⟩ | m | m | ⟨b, q⟩ | I⟩
  · exact DetC.none
  · exact DetC.pure _
  · exact DetC.pure _
  · exact DetC.pure _
  · exact DetC.none
  · exact DetC.none
  · exact DetC.none
  · exact DetC.none
theorem PureC.bindCells {id : Nat} {g : ABlk → List AC → (AV → AS → Prop) → Prop} (hg : ∀ b cs, PureC s (g b cs)) : PureC s (fun k => onCells s id fun b cs => g b cs k) := fun k h => by
  obtain ⟨x, h1, h2⟩ := onCells_det s id (fun bc => g bc.1 bc.2 k) h
  obtain ⟨y, h3, h4⟩ := hg x.1 x.2 _ h1
  exact ⟨y, h3, fun k' h' => h2 (fun bc => g bc.1 bc.2 k') (h4 _ h')⟩
theorem onO_det (s : AS) (x : Option Operand) : DetC (stepA.onO s x) := by
  unfold stepA.onO
  cases x with
  | none => exact DetC.pure _
  | some x =>
    refine DetC.bind (onC_det s x) fun p => ?_
    cases p <;> first | exact DetC.pure _ | exact DetC.none
theorem fnOps_det (s : AS) : ∀ l : List Operand, DetC (stepA.fnOps s l)
  | [] => DetC.pure _
  | x :: r => by
    show DetC (fun k => onC s x fun p => match p with
      | .ptr id 0 => stepA.fnOps s r fun l => k (id :: l)
      | _ => False)
    refine DetC.bind (onC_det s x) fun p => ?_
    cases p with
    | ptr id o => cases o with
      | zero => exact DetC.bind (fnOps_det s r) fun l => DetC.pure _
      | succ o => exact DetC.none
    | _ => exact DetC.none
theorem iop_det (md : Bool) (op : BinOp) (kd : IntKind) (a b : Int) : DetC (iop md op kd a b) := by
  cases md <;> cases op <;> first | exact DetC.none | exact DetC.pure _ | exact DetC.and (DetC.pure _) | (cases kd <;> first | exact DetC.none | exact DetC.pure _ | exact DetC.and (DetC.pure _))
theorem icmp_det (op : BinOp) (a b : Int) : DetC (icmp op a b) := by
  cases op <;> first | exact DetC.none | exact DetC.pure _
theorem lay_det (s : AS) (place : Nat → Option (Nat × Nat)) : ∀ (l : List (Nat × Operand)) (cs : List AC), DetC (fun k => lay s place k l cs)
  | [], cs => by unfold lay; exact DetC.pure _
  | (i, x) :: r, cs => by
    unfold lay
    cases place i with
    | none => exact DetC.none
    | some p =>
      obtain ⟨o, z⟩ := p
      refine DetC.bind (f := onV s x) (g := fun v k => match v with
        | .c c => (z = 1 ∧ o + 1 ≤ cs.length) ∧ lay s place k r (cs.set o c)
        | .g gs => (gs.length = z ∧ o + z ≤ cs.length) ∧ lay s place k r (wrn cs o gs)
        | .t _ => False) (onV_det s x) fun v => ?_
      cases v with
      | c c => exact DetC.and (lay_det s place r _)
      | g gs => exact DetC.and (lay_det s place r _)
      | t _ => exact DetC.none
theorem bin_det (T : Nat → Option TI) (md : Bool) (op : BinOp) (t : Nat) (x y : AV) : DetC (bin T md op t x y) := by
  have c1 : ∀ (f : (AV → Prop) → Prop) (n : AV → AV), True := fun _ _ => trivial
  unfold bin
  rcases x with x | x | x <;> rcases y with y | y | y <;> (try exact DetC.none) <;> (try (cases x <;> exact DetC.none))
  · cases x <;> cases y <;> try exact DetC.none
    · rename_i ka a kb b
      refine DetC.ite (DetC.lit ?_) (DetC.lit ?_)
      · exact DetC.bind (iop_det md op ka a b) fun n => DetC.pure _
      · exact DetC.bind (icmp_det op a b) fun n => DetC.pure _
    · refine DetC.lit ?_
      cases op <;> first | exact DetC.none | exact DetC.pure _
    · cases op <;> first | exact DetC.none | exact DetC.pure _ | exact DetC.and (DetC.pure _)
  · refine DetC.and ?_
    cases eqL x y with
    | none => exact DetC.none
    | some r => cases op <;> first | exact DetC.none | exact DetC.pure _
theorem subS_det (o len : Nat) (cap : Option Nat) (z : Nat) (lo hi : Option Int) : DetC (fun k : Nat × Nat × Option Nat → Prop => stepA.subS o len cap z lo hi fun a b c => k (a, b, c)) := by
  unfold stepA.subS
  exact DetC.and (DetC.pure _)

theorem bytesA_det : ∀ cs : List AC, DetC (bytesA cs)
  | [] => DetC.pure _
  | x :: r => by
    cases x <;> try exact DetC.none
    rename_i kd n
    cases kd <;> first | exact DetC.none | exact DetC.and (DetC.bind (bytesA_det r) fun l => DetC.pure _)
def pureOp : Op → Bool
  | .move _ | .assign _ | .pick .. | .build .. | .load .. | .nilCheck _ | .binOp .. | .unOp .. | .convert .. | .makeFunc .. | .fieldAddr .. | .indexAddr .. | .index .. | .field .. | .extract .. | .slice .. | .lookup .. => true
  | .call c => match c.callee with
    | .builtin .len | .builtin .min | .builtin .max => true
    | _ => false
  | _ => false
def newOp : Op → Bool
  | .alloc _ | .box .. | .makeMap .. | .buildSlice .. | .makeSlice .. => true
  | _ => false

theorem pure_det (o : Op) (ho : pureOp o = true) : PureC s (stepA T md s o) := by
  cases o <;> simp only [pureOp] at ho <;> try (cases ho; done)
  case move x => exact PureC.bind (onV_det s x) fun v => PureC.pure v
  case assign x => exact PureC.bind (onV_det s x) fun v => PureC.pure v
  case pick c a b =>
    refine PureC.bind (onC_det s c) fun q => ?_
    cases q <;> try exact PureC.none
    rename_i q
    refine PureC.bind (onV_det s a) fun va => PureC.bind (onV_det s b) fun vb => ?_
    have two : PureC s (fun k => (q = true → k va s) ∧ (q = false → k vb s)) := by
      cases q
      · intro k h; exact ⟨vb, h.2 rfl, fun k' h' => ⟨fun e => (by cases e), fun _ => h'⟩⟩
      · intro k h; exact ⟨va, h.1 rfl, fun k' h' => ⟨fun _ => h', fun e => (by cases e)⟩⟩
    rcases va with va | va | va
    · cases va <;> try exact two
      rcases vb with vb | vb | vb
      · cases vb <;> first | exact PureC.pure _ | exact two
      · exact two
      · exact two
    · exact two
    · exact two
  case build t ps =>
    show PureC s (fun k => match T t with
    | some { d := .struct fs, zero := z, .. } => lay s (fun i => match fs[i]? with | some (o, ft) => (szOf T ft).map fun z => (o, z) | none => none) (fun cs => k (.g cs) s) ps.toList z
    | some { d := .arr _ e, zero := z, .. } => match szOf T e with
      | some w => lay s (fun i => some (i * w, w)) (fun cs => k (.g cs) s) ps.toList z
      | none => False
    | _ => False)
    rcases T t with _ | ⟨d, a1, a2, z, a4⟩
    · exact PureC.none
    cases d <;> try exact PureC.none
    · rename_i n e
      simp only
      cases szOf T e with
      | none => exact PureC.none
      | some w => exact PureC.bind (lay_det s _ _ _) fun cs => PureC.pure _
    · exact PureC.bind (lay_det s _ _ _) fun cs => PureC.pure _
  case load t x =>
    refine PureC.bind (onC_det s x) fun p => ?_
    cases p <;> try exact PureC.none
    rename_i id o
    refine PureC.bindCells fun b cs => ?_
    show PureC s (fun k => match T t with
      | some i => (match i.agg with
        | false => match i.zero with
          | [z] => o + 1 ≤ cs.length ∧ k (.c (cs.getD o z)) s
          | _ => False
        | true => if i.size ≤ 6 then (o + i.size ≤ cs.length ∧ i.zero.length = i.size) ∧ k (.g (rdn cs o i.zero)) s
          else (match o with
            | 0 => cs.length = i.size ∧ k (.g cs) s
            | o + 1 => (o + 1) + i.size ≤ cs.length ∧ k (.g ((cs.drop (o + 1)).take i.size)) s))
      | none => False)
    rcases T t with _ | i
    · exact PureC.none
    simp only
    cases i.agg with
    | false =>
      rcases i.zero with _ | ⟨z, _ | ⟨z2, zs⟩⟩
      · exact PureC.none
      · exact PureC.and (PureC.pure _)
      · exact PureC.none
    | true =>
      refine PureC.ite (PureC.and (PureC.pure _)) ?_
      cases o with
      | zero => exact PureC.and (PureC.pure _)
      | succ o => exact PureC.and (PureC.pure _)
  case nilCheck x =>
    refine PureC.bind (onC_det s x) fun p => ?_
    cases p <;> first | exact PureC.none | exact PureC.pure _
  case binOp op t x y sh =>
    exact PureC.bind (onV_det s x) fun a => PureC.bind (onV_det s y) fun b => PureC.bind (bin_det T md op t a b) fun r => PureC.pure _
  case unOp op t x =>
    refine PureC.bind (onC_det s x) fun p => ?_
    cases op <;> cases p <;> first | exact PureC.none | exact PureC.pure _ | exact PureC.bind (iop_det _ _ _ _ _) fun r => PureC.pure _
  case convert src dst x =>
    refine PureC.bind (onC_det s x) fun p => ?_
    show PureC s (fun k => match T src, T dst, p with
    | some _, some { d := .int kd, .. }, .int _ n => k (.c (.int kd (kd.wrap n))) s
    | some { d := .slice e, .. }, some { d := .str, .. }, .sl id o len _ => (match T e with
      | some { d := .int .u8, .. } => onCells s id fun _ cs => o + len ≤ cs.length ∧ bytesA ((cs.drop o).take len) fun l => k (.c (.str ⟨l.toArray⟩)) s
      | _ => False)
    | some { d := .slice e, .. }, some { d := .str, .. }, .row id len => (match T e, lk s.hp id with
      | some { d := .int .u8, .. }, some (.row _ _ cs) => len ≤ cs.length ∧ bytesA (cs.take len) fun l => k (.c (.str ⟨l.toArray⟩)) s
      | _, _ => False)
    | some { d := .slice e, .. }, some { d := .str, .. }, .nils => (match T e with
      | some { d := .int .u8, .. } => k (.c (.str ⟨#[]⟩)) s
      | _ => False)
    | _, _, _ => False)
    rcases T src with _ | ⟨d1, b1, b2, z1, b4⟩
    · exact PureC.none
    rcases T dst with _ | ⟨d, a1, a2, z, a4⟩
    · exact PureC.none
    cases d <;> try exact PureC.none
    · cases p <;> first | exact PureC.none | exact PureC.pure _
    · cases d1 <;> try exact PureC.none
      cases p <;> try exact PureC.none
      · rename_i e id o len cap
        simp only
        rcases T e with _ | ⟨d, a1, a2, z, a4⟩
        · exact PureC.none
        cases d <;> try exact PureC.none
        rename_i kd
        cases kd <;> first | exact PureC.none | exact PureC.bindCells fun b cs => PureC.and (PureC.bind (bytesA_det _) fun l => PureC.pure _)
      · rename_i e id len
        simp only
        rcases T e with _ | ⟨d, a1, a2, z, a4⟩
        · exact PureC.none
        cases d <;> try exact PureC.none
        rename_i kd
        rcases lk s.hp id with _ | b
        · cases kd <;> exact PureC.none
        · cases kd <;> cases b <;> first | exact PureC.none | exact PureC.and (PureC.bind (bytesA_det _) fun l => PureC.pure _)
      · rename_i e
        simp only
        rcases T e with _ | ⟨d, a1, a2, z, a4⟩
        · exact PureC.none
        cases d <;> try exact PureC.none
        rename_i kd
        cases kd <;> first | exact PureC.none | exact PureC.pure _
  case makeFunc f fs cs =>
    cases f <;> try exact PureC.none
    exact PureC.bind (fnOps_det s fs.toList) fun fl => PureC.bind (fnOps_det s cs.toList) fun cl => PureC.pure _
  case fieldAddr t x f =>
    refine PureC.bind (onC_det s x) fun p => ?_
    show PureC s (fun k => match p, T t with
    | .ptr id o, some { d := .struct fs, .. } => (match fs[f]? with
      | some (fo, ft) => lit (match szOf T ft with | some (_ + 1) => true | _ => false) (k (.c (.ptr id (o + fo))) s)
      | none => False)
    | _, _ => False)
    cases p <;> try exact PureC.none
    rcases T t with _ | ⟨d, a1, a2, z, a4⟩
    · exact PureC.none
    cases d <;> try exact PureC.none
    rename_i fs
    simp only
    cases fs[f]? with
    | none => exact PureC.none
    | some q => exact PureC.lit (PureC.pure _)
  case indexAddr t x y =>
    refine PureC.bind (onC_det s x) fun p => PureC.bind (onC_det s y) fun q => ?_
    show PureC s (fun k => match p, q, T t with
    | .ptr id o, .int _ i, some { d := .arr n e, .. } => (match szOf T e with
      | some z => (0 ≤ i ∧ i < n) ∧ k (.c (.ptr id (o + i.toNat * z))) s
      | none => False)
    | .sl id o len _, .int _ i, some { d := .slice e, .. } => (match szOf T e with
      | some z => (0 ≤ i ∧ i < len) ∧ k (.c (.ptr id (o + i.toNat * z))) s
      | none => False)
    | .row id len, .int _ i, some { d := .slice e, .. } => (match lk s.hp id, szOf T e with
      | some (.row ..), some z => (0 ≤ i ∧ i < len) ∧ k (.c (.ptr id (i.toNat * z))) s
      | _, _ => False)
    | .rs id o len, .int _ i, some { d := .slice e, .. } => (match szOf T e with
      | some z => (0 ≤ i ∧ i < len) ∧ k (.c (.ptr id (o + i.toNat * z))) s
      | none => False)
    | _, _, _ => False)
    cases p <;> try exact PureC.none
    all_goals (cases q <;> try exact PureC.none)
    all_goals (rcases T t with _ | ⟨d, a1, a2, z, a4⟩)
    all_goals (try exact PureC.none)
    all_goals (cases d <;> try exact PureC.none)
    · rename_i e; simp only; cases szOf T e with
      | none => exact PureC.none
      | some z => exact PureC.and (PureC.pure _)
    · rename_i e; simp only; cases szOf T e with
      | none => exact PureC.none
      | some z => exact PureC.and (PureC.pure _)
    · rename_i id n k i e; simp only
      rcases lk s.hp id with _ | ⟨c | c | ⟨e1, z, c⟩ | m | m⟩ <;> try exact PureC.none
      cases szOf T e with
      | none => exact PureC.none
      | some z => exact PureC.and (PureC.pure _)
    · rename_i e; simp only; cases szOf T e with
      | none => exact PureC.none
      | some z => exact PureC.and (PureC.pure _)
  case index t x y =>
    refine PureC.bind (onV_det s x) fun p => PureC.bind (onC_det s y) fun q => ?_
    show PureC s (fun k => match p, q, T t with
    | .g cs, .int _ i, some { d := .arr n e, .. } => (match T e with
      | some { size := 1, zero := [z], d := ed, .. } => (TI.agg ⟨ed, 1, 0, [], false⟩ = false ∧ 0 ≤ i ∧ i < n ∧ i.toNat < cs.length) ∧ k (.c (cs.getD i.toNat z)) s
      | _ => False)
    | .c (.str b), .int _ i, some { d := .str, .. } => (0 ≤ i ∧ i < b.size) ∧ k (.c (.int .u8 ((b.data.toList.getD i.toNat 0).toNat : Int))) s
    | _, _, _ => False)
    rcases p with p | p | p
    · cases p <;> try exact PureC.none
      cases q <;> try exact PureC.none
      rcases T t with _ | ⟨d, a1, a2, z, a4⟩
      · exact PureC.none
      cases d <;> try exact PureC.none
      exact PureC.and (PureC.pure _)
    · cases q <;> try exact PureC.none
      rcases T t with _ | ⟨d, a1, a2, z, a4⟩
      · exact PureC.none
      cases d <;> try exact PureC.none
      rename_i n e
      simp only
      rcases T e with _ | ⟨d, sz, a2, z, a4⟩
      · exact PureC.none
      rcases sz with _ | _ | sz <;> rcases z with _ | ⟨z, _ | ⟨z2, zs⟩⟩ <;> first | exact PureC.none | exact PureC.and (PureC.pure _)
    · exact PureC.none
  case field t x f =>
    refine PureC.bind (onV_det s x) fun p => ?_
    show PureC s (fun k => match p, T t with
    | .g cs, some { d := .struct fs, .. } => (match fs[f]? with
      | some (o, ft) => (match T ft with
        | some i => (match i.agg with
          | false => match i.zero with
            | [z] => o + 1 ≤ cs.length ∧ k (.c (cs.getD o z)) s
            | _ => False
          | true => o + i.size ≤ cs.length ∧ k (.g ((cs.drop o).take i.size)) s)
        | none => False)
      | none => False)
    | _, _ => False)
    rcases p with p | cs | p
    · exact PureC.none
    · rcases T t with _ | ⟨d, a1, a2, z, a4⟩
      · exact PureC.none
      cases d <;> try exact PureC.none
      rename_i fs
      simp only
      rcases fs[f]? with _ | ⟨o, ft⟩
      · exact PureC.none
      simp only
      cases T ft with
      | none => exact PureC.none
      | some i =>
        simp only
        cases i.agg with
        | false =>
          rcases i.zero with _ | ⟨z, _ | ⟨z2, zs⟩⟩
          · exact PureC.none
          · exact PureC.and (PureC.pure _)
          · exact PureC.none
        | true => exact PureC.and (PureC.pure _)
    · exact PureC.none
  case extract x i =>
    refine PureC.bind (onV_det s x) fun p => ?_
    rcases p with p | cs | es
    · exact PureC.none
    · exact PureC.none
    · simp only
      cases es[i]? with
      | none => exact PureC.none
      | some e => exact PureC.pure _
  case lookup t x y ok =>
    refine PureC.bind (onC_det s x) fun p => PureC.bind (onV_det s y) fun q => ?_
    show PureC s (fun k => match p, q, T t with
    | .map id, .g ks, some { d := .map ke el, .. } => (match lk s.hp id, T ke, T el with
      | some (.mp m), some { cmp := true, zero := z, .. }, some { d := ed, zero := [z0], .. } =>
        (TI.agg ⟨ed, 1, 0, [], false⟩ = false ∧ mOk m ks z) ∧ (match ok with
          | true => k (.t [.c ((mget m ks).getD z0), .c (.bool (mget m ks).isSome)]) s
          | false => k (.c ((mget m ks).getD z0)) s)
      | _, _, _ => False)
    | _, _, _ => False)
    cases p <;> try exact PureC.none
    rcases q with q | q | q <;> try exact PureC.none
    rcases T t with _ | ⟨d, a1, a2, z, a4⟩
    · exact PureC.none
    cases d <;> try exact PureC.none
    rename_i id ke el
    simp only
    rcases lk s.hp id with _ | ⟨c | c | ⟨e1, z, c⟩ | m | m⟩ <;> try exact PureC.none
    rcases T ke with _ | ⟨d, a1, a2, z, _ | _⟩ <;> try exact PureC.none
    rcases T el with _ | ⟨d, a1, a2, z', a4⟩
    · exact PureC.none
    rcases z' with _ | ⟨z0, _ | ⟨z2, zs⟩⟩ <;> try exact PureC.none
    cases ok
    · exact PureC.and (PureC.pure _)
    · exact PureC.and (PureC.pure _)
  case slice t x lo hi mx =>
    cases mx with
    | some mx =>
      cases hi with
      | none => exact PureC.none
      | some hi =>
        refine PureC.bind (onC_det s x) fun p => PureC.bind (onO_det s lo) fun lo => PureC.bind (onC_det s hi) fun h => PureC.bind (onC_det s mx) fun q => ?_
        show PureC s (fun k => match p, h, q, T t with
        | .sl id o len (some c), .int _ h, .int _ m, some { d := .slice e, .. } => (match szOf T e with
          | some z => (0 ≤ lo.getD 0 ∧ lo.getD 0 ≤ h ∧ h ≤ m ∧ m ≤ c ∧ (h = lo.getD 0 ∨ 0 < len)) ∧ k (.c (.sl id (o + (lo.getD 0).toNat * z) (h.toNat - (lo.getD 0).toNat) (some (m.toNat - (lo.getD 0).toNat)))) s
          | none => False)
        | .row id len, .int _ h, .int _ m, some { d := .slice e, .. } => (match lk s.hp id, szOf T e with
          | some (.row ..), some z => (0 ≤ lo.getD 0 ∧ lo.getD 0 ≤ h ∧ h ≤ m ∧ m ≤ len) ∧ k (.c (.sl id ((lo.getD 0).toNat * z) (h.toNat - (lo.getD 0).toNat) (some (m.toNat - (lo.getD 0).toNat)))) s
          | _, _ => False)
        | .rs id o len, .int _ h, .int _ m, some { d := .slice e, .. } => (match szOf T e with
          | some z => (0 ≤ lo.getD 0 ∧ lo.getD 0 ≤ h ∧ h ≤ m ∧ m ≤ len ∧ 0 < len) ∧ k (.c (.sl id (o + (lo.getD 0).toNat * z) (h.toNat - (lo.getD 0).toNat) (some (m.toNat - (lo.getD 0).toNat)))) s
          | none => False)
        | _, _, _, _ => False)
        split
        · split
          · exact PureC.and (PureC.pure _)
          · exact PureC.none
        · split
          · exact PureC.and (PureC.pure _)
          · exact PureC.none
        · split
          · exact PureC.and (PureC.pure _)
          · exact PureC.none
        · exact PureC.none
    | none =>
    refine PureC.bind (onC_det s x) fun p => PureC.bind (onO_det s lo) fun lo => PureC.bind (onO_det s hi) fun hi => ?_
    show PureC s (fun k => match p, T t with
    | .sl id o len cap, some { d := .slice e, .. } => (match szOf T e with
      | some z => stepA.subS o len cap z lo hi fun o' n' c' => k (.c (.sl id o' n' c')) s
      | none => False)
    | .nils, some { d := .slice e, .. } => (match szOf T e with
      | some _ => (lo.getD 0 = 0 ∧ hi.getD 0 = 0) ∧ k (.c .nils) s
      | none => False)
    | .row id len, some { d := .slice e, .. } => (match lk s.hp id, szOf T e with
      | some (.row ..), some z => stepA.subS 0 len none z lo hi fun o' n' c' => k (.c (.sl id o' n' c')) s
      | _, _ => False)
    | .ptr id o, some { d := .arr n e, .. } => (match szOf T e with
      | some z => stepA.subS o n (some n) z lo hi fun o' n' c' => k (.c (.sl id o' n' c')) s
      | none => False)
    | .str b, some { d := .str, .. } => (0 ≤ lo.getD 0 ∧ lo.getD 0 ≤ hi.getD b.size ∧ hi.getD b.size ≤ b.size) ∧ k (.c (.str (b.extract (lo.getD 0).toNat (hi.getD b.size).toNat))) s
    | .rs id o len, some { d := .slice e, .. } => (match szOf T e with
      | some z => stepA.subS o len none z lo hi fun o' n' _ => k (.c (.rs id o' n')) s
      | none => False)
    | .rp id o len c z, some { d := .slice e, .. } => (match szOf T e with
      | some z' => (z' = z ∧ 0 ≤ lo.getD 0 ∧ lo.getD 0 ≤ hi.getD len ∧ hi.getD len ≤ c ∧ (lo.getD 0 = 0 ∨ lo.getD 0 < c)) ∧
          k (.c (.rp id (o + (lo.getD 0).toNat) ((hi.getD len).toNat - (lo.getD 0).toNat) (c - (lo.getD 0).toNat) z)) s
      | none => False)
    | _, _ => False)
    cases p <;> (rcases T t with _ | ⟨d, a1, a2, z, a4⟩) <;> (try exact PureC.none) <;> (cases d <;> try exact PureC.none)
    · exact PureC.and (PureC.pure _)
    · rename_i e; simp only; cases szOf T e with
      | none => exact PureC.none
      | some z => exact PureC.and (PureC.pure _)
    · rename_i e; simp only; cases szOf T e with
      | none => exact PureC.none
      | some z => exact PureC.and (PureC.pure _)
    · rename_i id len e; simp only
      rcases lk s.hp id with _ | ⟨c | c | ⟨e1, z, c⟩ | m | m⟩ <;> try exact PureC.none
      cases szOf T e with
      | none => exact PureC.none
      | some z => exact PureC.and (PureC.pure _)
    · rename_i e; simp only; cases szOf T e with
      | none => exact PureC.none
      | some z => exact PureC.and (PureC.pure _)
    · rename_i e; simp only; cases szOf T e with
      | none => exact PureC.none
      | some z => exact PureC.and (PureC.pure _)
    · rename_i e; simp only; cases szOf T e with
      | none => exact PureC.none
      | some z => exact PureC.and (PureC.pure _)
  case call c =>
    obtain ⟨cal, args, tys⟩ := c
    cases cal <;> try (cases ho; done)
    rename_i b
    obtain ⟨args⟩ := args
    obtain ⟨tys⟩ := tys
    cases b <;> try (cases ho; done)
    · rcases args with _ | ⟨x, _ | ⟨y, l⟩⟩ <;> try exact PureC.none
      rcases tys with _ | ⟨t, _ | ⟨t2, l⟩⟩ <;> try exact PureC.none
      refine PureC.bind (f := onV s x) (g := fun p k => match p, T t with
        | .c (.sl _ _ n _), some { d := .slice _, .. } => k (.c (.int .i64 n)) s
        | .c (.row _ n), some { d := .slice _, .. } => k (.c (.int .i64 n)) s
        | .c .nils, some { d := .slice _, .. } => k (.c (.int .i64 0)) s
        | .c (.str b), some { d := .str, .. } => k (.c (.int .i64 b.size)) s
        | .c (.rs _ _ n), some { d := .slice _, .. } => k (.c (.int .i64 n)) s
        | .c (.rp _ _ n _ _), some { d := .slice _, .. } => k (.c (.int .i64 n)) s
        | _, _ => False) (onV_det s x) fun p => ?_
      rcases p with p | p | p <;> try exact PureC.none
      cases p <;> (rcases T t with _ | ⟨d, a1, a2, z, a4⟩) <;> (try exact PureC.none) <;> (cases d <;> first | exact PureC.none | exact PureC.pure _)
    · rcases args with _ | ⟨x, _ | ⟨y, _ | ⟨y2, l⟩⟩⟩ <;> try exact PureC.none
      refine PureC.bind (onC_det s x) fun p => PureC.bind (onC_det s y) fun q => ?_
      cases p <;> (try exact PureC.none) <;> (cases q <;> first | exact PureC.none | exact PureC.and (PureC.pure _))
    · rcases args with _ | ⟨x, _ | ⟨y, _ | ⟨y2, l⟩⟩⟩ <;> try exact PureC.none
      refine PureC.bind (onC_det s x) fun p => PureC.bind (onC_det s y) fun q => ?_
      cases p <;> (try exact PureC.none) <;> (cases q <;> first | exact PureC.none | exact PureC.and (PureC.pure _))
theorem new_det (o : Op) (ho : newOp o = true) : NewC s (stepA T md s o) := by
  cases o <;> simp only [newOp] at ho <;> try (cases ho; done)
  case alloc e =>
    show NewC s (fun k => match T e with
    | some { zero := z, .. } => lit (decide (s.nx < GB)) (k (.c (.ptr s.nx 0)) ⟨s.tm, (s.nx, .own z) :: s.hp, s.nx + 1, s.nt, s.k0⟩)
    | none => False)
    rcases T e with _ | i
    · exact NewC.none
    · exact NewC.lit (NewC.pure _ _ rfl)
  case box t x =>
    refine NewC.bind (onV_det s x) fun v => ?_
    show NewC s (fun k => match cellsOfV v with
    | some cs => lit (decide (s.nx < GB)) (k (.c (.ptr s.nx 0)) ⟨s.tm, (s.nx, .own cs) :: s.hp, s.nx + 1, s.nt, s.k0⟩)
    | none => False)
    cases cellsOfV v with
    | none => exact NewC.none
    | some cs => exact NewC.lit (NewC.pure _ _ rfl)
  case makeMap t h =>
    cases h with
    | some _ => exact NewC.none
    | none => exact NewC.lit (NewC.pure _ _ rfl)
  case buildSlice t len ps =>
    show NewC s (fun k => match T t with
    | some { d := .slice e, .. } => match T e with
      | some i => (s.nx < GB ∧ 0 < i.size ∧ i.zero.length = i.size ∧ len * i.size ≤ 16777216) ∧ lay s (fun j => some (j * i.size, i.size)) (fun cs => k (.c (.sl s.nx 0 len (some len))) ⟨s.tm, (s.nx, .own cs) :: s.hp, s.nx + 1, s.nt, s.k0⟩) ps.toList (rep len i.zero)
      | none => False
    | _ => False)
    rcases T t with _ | ⟨d, a1, a2, z, a4⟩
    · exact NewC.none
    cases d <;> try exact NewC.none
    rename_i e
    simp only
    rcases T e with _ | i
    · exact NewC.none
    · exact NewC.and (NewC.bind (lay_det s _ _ _) fun cs => NewC.pure _ _ rfl)
  case makeSlice t x y =>
    refine NewC.bind (onC_det s x) fun p => NewC.bind (onC_det s y) fun q => ?_
    show NewC s (fun k => match p, q, T t with
    | .int _ l, .int _ c, some { d := .slice e, .. } => (match T e with
      | some i => (s.nx < GB ∧ 0 < i.size ∧ i.zero.length = i.size ∧ 0 ≤ l ∧ l = c ∧ (i.bytes : Int) * c ≤ 281474976710656 ∧ c ≤ 9223372036854775807) ∧
          k (.c (.sl s.nx 0 l.toNat (some c.toNat))) ⟨s.tm, (s.nx, .own (rep c.toNat i.zero)) :: s.hp, s.nx + 1, s.nt, s.k0⟩
      | none => False)
    | _, _, _ => False)
    cases p <;> try exact NewC.none
    cases q <;> try exact NewC.none
    rcases T t with _ | ⟨d, a1, a2, z, a4⟩
    · exact NewC.none
    cases d <;> try exact NewC.none
    rename_i e
    simp only
    rcases T e with _ | i
    · exact NewC.none
    · exact NewC.and (NewC.pure _ _ rfl)
end Go.AH
