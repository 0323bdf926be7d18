/-
  Calls by contract, regions, and code over abstract states.
-/
import Derived.Test.YtfphkpdobbffeaaDoorAh8
set_option linter.unusedSimpArgs false
set_option linter.unusedVariables false
namespace Go.AH
open Go.RowKit

/-! ### Other numbers for the same blocks -/
def AC.ren (q : Nat → Nat) : AC → AC
  | .ptr id o => .ptr (q id) o
  | .sl id o n c => .sl (q id) o n c
  | .row id n => .row (q id) n
  | .rs id o n => .rs (q id) o n
  | .map id => .map (q id)
  | .fn f a b => .fn f (a.map q) (b.map q)
  | .int k n => .int k n
  | .bool b => .bool b
  | .str s => .str s
  | .nilp => .nilp
  | .nils => .nils
  | .nilfn => .nilfn
  | .nilm => .nilm
def AE.ren (q : Nat → Nat) : AE → AE
  | .c x => .c (x.ren q)
  | .g cs => .g (cs.map (AC.ren q))
def AV.ren (q : Nat → Nat) : AV → AV
  | .c x => .c (x.ren q)
  | .g cs => .g (cs.map (AC.ren q))
  | .t es => .t (es.map (AE.ren q))
def ABlk.ren (q : Nat → Nat) : ABlk → ABlk
  | .ro cs => .ro (cs.map (AC.ren q))
  | .own cs => .own (cs.map (AC.ren q))
  | .row e z cs => .row e z (cs.map (AC.ren q))
  | .mp m => .mp (m.map fun p => (p.1.map (AC.ren q), p.2.ren q))
  | .mi I => .mi I

def Ren.comp (R : Ren) (q : Nat → Nat) : Ren := ⟨fun i => R.ρ (q i), fun i => R.δ (q i), fun i => R.κ (q i)⟩

theorem comp_adr (R : Ren) (q : Nat → Nat) (i o : Nat) : (R.comp q).adr i o = R.adr (q i) o := rfl
theorem conC_ren {R : Ren} {q : Nat → Nat} {x : AC} {v : Value} : conC R (x.ren q) v ↔ conC (R.comp q) x v := by
  cases x <;> simp only [conC, AC.ren, Ren.comp] <;> try rfl
  simp only [List.map_map]
  rfl
theorem conL_ren {R : Ren} {q : Nat → Nat} {cs : List AC} {vs : Array Value} {o : Nat} : conL R (cs.map (AC.ren q)) vs o ↔ conL (R.comp q) cs vs o := by
  constructor
  · intro h i x hi
    obtain ⟨v, hv, hc⟩ := h i (x.ren q) (by simp [hi])
    exact ⟨v, hv, conC_ren.1 hc⟩
  · intro h i x hi
    rw [List.getElem?_map] at hi
    cases hq : cs[i]? with
    | none => simp [hq] at hi
    | some y =>
      simp [hq] at hi
      obtain ⟨v, hv, hc⟩ := h i y hq
      exact ⟨v, hv, hi ▸ conC_ren.2 hc⟩
theorem conE_ren {R : Ren} {q : Nat → Nat} {x : AE} {v : Value} : conE R (x.ren q) v ↔ conE (R.comp q) x v := by
  cases x <;> simp only [conE, AE.ren, conC_ren, conL_ren, List.length_map]
theorem conV_ren {R : Ren} {q : Nat → Nat} {x : AV} {v : Value} : conV R (x.ren q) v ↔ conV (R.comp q) x v := by
  cases x with
  | c x => simp only [conV, AV.ren, conC_ren]
  | g cs => simp only [conV, AV.ren, conL_ren, List.length_map]
  | t es =>
    simp only [conV, AV.ren, List.length_map, List.getElem?_map]
    constructor
    · rintro ⟨vs, a, b, c⟩
      refine ⟨vs, a, b, fun i e hi => ?_⟩
      obtain ⟨u, hu, hc⟩ := c i (e.ren q) (by simp [hi])
      exact ⟨u, hu, conE_ren.1 hc⟩
    · rintro ⟨vs, a, b, c⟩
      refine ⟨vs, a, b, fun i e hi => ?_⟩
      cases hq : es[i]? with
      | none => simp [hq] at hi
      | some y =>
        simp [hq] at hi
        obtain ⟨u, hu, hc⟩ := c i y hq
        exact ⟨u, hu, hi ▸ conE_ren.2 hc⟩
theorem BRel_ren {R : Ren} {q : Nat → Nat} {id : Nat} {w : World} {b : ABlk} : BRel R (q id) w (b.ren q) ↔ BRel (R.comp q) id w b := by
  cases b with
  | ro cs => simp only [BRel, ABlk.ren, conL_ren]; rfl
  | own cs => simp only [BRel, ABlk.ren, conL_ren, List.length_map]; rfl
  | row e z cs => simp only [BRel, ABlk.ren, conL_ren, List.length_map]; rfl
  | mp m =>
    simp only [BRel, ABlk.ren, List.length_map, List.getElem?_map]
    constructor
    · rintro ⟨es, cl, a, b, c⟩
      refine ⟨es, cl, a, b, fun i k v hi => ?_⟩
      obtain ⟨e, he, ⟨vs, h1, h2, h3⟩, h4⟩ := c i (k.map (AC.ren q)) (v.ren q) (by simp [hi])
      exact ⟨e, he, ⟨vs, h1, by simpa using h2, conL_ren.1 h3⟩, conC_ren.1 h4⟩
    · rintro ⟨es, cl, a, b, c⟩
      refine ⟨es, cl, a, b, fun i k v hi => ?_⟩
      cases hq : m[i]? with
      | none => simp [hq] at hi
      | some p =>
        obtain ⟨k', v'⟩ := p
        simp [hq] at hi
        obtain ⟨rfl, rfl⟩ := hi
        obtain ⟨e, he, ⟨vs, h1, h2, h3⟩, h4⟩ := c i k' v' hq
        exact ⟨e, he, ⟨vs, h1, by simpa using h2, conL_ren.2 h3⟩, conC_ren.2 h4⟩
  | mi I =>
    constructor
    · intro h
      obtain ⟨m, ⟨hI, hp⟩, hm⟩ := BRel.mi_iff.1 h
      exact BRel.mi_iff.2 ⟨m, ⟨hI, hp⟩, BRel.mp_prim (R := R) (R' := R.comp q) (id := q id) (id' := id) hp rfl hm⟩
    · intro h
      obtain ⟨m, ⟨hI, hp⟩, hm⟩ := BRel.mi_iff.1 h
      exact BRel.mi_iff.2 ⟨m, ⟨hI, hp⟩, BRel.mp_prim (R := R.comp q) (R' := R) (id := id) (id' := q id) hp rfl hm⟩
theorem ABlk.ren_wr (q : Nat → Nat) (b : ABlk) : (b.ren q).wr = b.wr := by cases b <;> rfl

theorem AC.ren_lt {q : Nat → Nat} {n m : Nat} {x : AC} (h : x.lt n) (hq : ∀ i, idOk n i → idOk m (q i)) : (x.ren q).lt m := by
  cases x <;> simp only [AC.lt, AC.ren] at h ⊢ <;> first | exact hq _ h | skip
  refine ⟨fun i hi => ?_, fun i hi => ?_⟩
  · obtain ⟨j, hj, rfl⟩ := List.mem_map.1 hi; exact hq _ (h.1 j hj)
  · obtain ⟨j, hj, rfl⟩ := List.mem_map.1 hi; exact hq _ (h.2 j hj)
theorem LL.ren {q : Nat → Nat} {n m : Nat} {cs : List AC} (h : LL n cs) (hq : ∀ i, idOk n i → idOk m (q i)) : LL m (cs.map (AC.ren q)) := fun x hx => by
  obtain ⟨y, hy, rfl⟩ := List.mem_map.1 hx; exact AC.ren_lt (h y hy) hq
theorem AE.ren_lt {q : Nat → Nat} {n m : Nat} {x : AE} (h : x.lt n) (hq : ∀ i, idOk n i → idOk m (q i)) : (x.ren q).lt m := by
  cases x
  · exact AC.ren_lt h hq
  · exact LL.ren h hq
theorem AV.ren_lt {q : Nat → Nat} {n m : Nat} {x : AV} (h : x.lt n) (hq : ∀ i, idOk n i → idOk m (q i)) : (x.ren q).lt m := by
  cases x
  · exact AC.ren_lt h hq
  · exact LL.ren h hq
  · intro e he; obtain ⟨y, hy, rfl⟩ := List.mem_map.1 he; exact AE.ren_lt (h y hy) hq
theorem ABlk.ren_lt {q : Nat → Nat} {n m : Nat} {b : ABlk} (h : b.lt n) (hq : ∀ i, idOk n i → idOk m (q i)) : (b.ren q).lt m := by
  cases b
  · exact LL.ren h hq
  · exact LL.ren h hq
  · exact LL.ren h hq
  · intro p hp; obtain ⟨y, hy, rfl⟩ := List.mem_map.1 hp; exact ⟨LL.ren (h y hy).1 hq, AC.ren_lt (h y hy).2 hq⟩
  · trivial

/-! ### A function's contract -/
/-- Called with values that fit args, in a memory that fits hp (numbers below k), f returns: a value, a memory and a next number of which Post holds. -/
structure FSpec (P : Program) (f : FuncId) (args : List AV) (hp : List (Nat × ABlk)) (k : Nat) (Post : AV → List (Nat × ABlk) → Nat → Prop) : Prop where
  call : ∀ (vs : Array Value) (w : World), (callFunc f vs).run P w = .ok (.enter f vs) w
  run : ∀ (w : World) (R : Ren) (vs : Array Value), R.ok → vs.size = args.length → (∀ (i : Nat) (v : AV), args[i]? = some v → ∃ u : Value, vs[i]? = some u ∧ conV R v u) → HRel R hp w →
    Calls P f vs w fun e w' => ∃ u r hp' k' R', e = .returned u ∧ Post r hp' k' ∧ R'.ok ∧ Agree k R R' ∧ k ≤ k' ∧ conV R' r u ∧ r.lt k' ∧ HRel R' hp' w' ∧ (hp'.map Prod.fst).Nodup ∧
      (∀ i b, lk hp' i = some b → (i < k' ∨ GB ≤ i) ∧ b.lt k') ∧
      (∀ i b, lk hp' i = some b → b.wr = true → (∃ i0 b0, lk hp i0 = some b0 ∧ b0.wr = true ∧ R.ρ i0 = R'.ρ i) ∨ w.heap.size ≤ R'.ρ i) ∧
      Fr (fun j => ∃ i b, lk hp i = some b ∧ b.wr = true ∧ R.ρ i = j) w w'

/-- The caller's number of a callee's number: l of what was handed over, new ones from n on. -/
def qq (l : List Nat) (n : Nat) (i : Nat) : Nat := if GB ≤ i then i else match l[i]? with | some j => j | none => n + (i - l.length)

/-- What the caller's memory is behind the call. -/
def behind (l : List Nat) (n : Nat) (hp0 : List (Nat × ABlk)) : List (Nat × ABlk) → List (Nat × ABlk) → List (Nat × ABlk)
  | [], H => H
  | (i, b) :: r, H => match lk hp0 i with
    | some (.ro _) => behind l n hp0 r H
    | _ => if b.wr then up (behind l n hp0 r H) (qq l n i) (b.ren (qq l n)) else behind l n hp0 r H
def gone (l : List Nat) (n : Nat) : List (Nat × ABlk) → List (Nat × ABlk) → List (Nat × ABlk)
  | [], H => H
  | (i, b) :: r, H => if b.wr then del (gone l n r H) (qq l n i) else gone l n r H

/-- A block that is known serves as one that is read. -/
def Gives (b' b : ABlk) : Prop := b' = b ∨ ∃ cs, b = .ro cs ∧ b'.cells = some cs
theorem Gives.eq {b' b : ABlk} (h : Gives b' b) (hw : b.wr = true) : b' = b := by
  rcases h with h | ⟨cs, h, _⟩
  · exact h
  · subst h; cases hw
theorem Gives.rel {R : Ren} {id : Nat} {w : World} {b' b : ABlk} (h : Gives b' b) (hb : BRel R id w b') : BRel R id w b := by
  rcases h with h | ⟨cs, h, hc⟩
  · exact h ▸ hb
  · subst h
    obtain ⟨c, t, z, h1, h2, _⟩ := hb.cell hc
    exact ⟨c, t, z, h1, h2⟩

/-- A call by contract. -/
structure CallOk (P : Program) (f : FuncId) (vs : List AV) (s : AS) (kk : AV → AS → Prop) (args : List AV) (hp0 : List (Nat × ABlk)) (l : List Nat) (Post : AV → List (Nat × ABlk) → Nat → Prop) : Prop where
  spec : FSpec P f args hp0 l.length Post
  old : ∀ i ∈ l, idOk s.nx i
  args : args.map (AV.ren (qq l s.nx)) = vs
  heap : ∀ i b, lk hp0 i = some b → (i < l.length ∨ GB ≤ i) ∧ ∃ b', lk s.hp (qq l s.nx i) = some b' ∧ Gives b' (b.ren (qq l s.nx))
  inj : ∀ i j b c, lk hp0 i = some b → lk hp0 j = some c → i ≠ j → b.wr = true → qq l s.nx i ≠ qq l s.nx j
  k : ∀ r hp' k', Post r hp' k' → s.nx + (k' - l.length) ≤ GB ∧ kk (r.ren (qq l s.nx)) { s with hp := behind l s.nx hp0 hp' (gone l s.nx hp0 s.hp), nx := s.nx + (k' - l.length) }

def CallA (P : Program) (f : FuncId) (vs : List AV) (s : AS) (kk : AV → AS → Prop) : Prop :=
  ∃ args hp0 l Post, CallOk P f vs s kk args hp0 l Post

theorem lk_none_of_nodup {β : Type} {i : Nat} {b : β} {r : List (Nat × β)} (h : (((i, b) :: r).map Prod.fst).Nodup) : lk r i = none := by
  have h1 : i ∉ r.map Prod.fst := by simpa using (List.nodup_cons.1 h).1
  clear h
  induction r with
  | nil => rfl
  | cons p r ih =>
    obtain ⟨j, c⟩ := p
    simp only [List.map_cons, List.mem_cons, not_or] at h1
    simp only [lk]
    rw [if_neg (fun e => h1.1 e.symm)]
    exact ih h1.2

theorem lk_behind {l : List Nat} {n : Nat} {hp0 : List (Nat × ABlk)} : ∀ (hp' H : List (Nat × ABlk)) (j : Nat) (c : ABlk), (hp'.map Prod.fst).Nodup → lk (behind l n hp0 hp' H) j = some c →
    (∃ i b, lk hp' i = some b ∧ (∀ cs, lk hp0 i ≠ some (.ro cs)) ∧ b.wr = true ∧ qq l n i = j ∧ c = b.ren (qq l n)) ∨ lk H j = some c
  | [], H, j, c, _, h => .inr h
  | (i, b) :: r, H, j, c, hnd, h => by
    have hn := lk_none_of_nodup hnd
    have ih := lk_behind (l := l) (n := n) (hp0 := hp0) r H j c (by simpa using (List.nodup_cons.1 hnd).2)
    have up' : lk (behind l n hp0 r H) j = some c → (∃ i' b', lk ((i, b) :: r) i' = some b' ∧ (∀ cs, lk hp0 i' ≠ some (.ro cs)) ∧ b'.wr = true ∧ qq l n i' = j ∧ c = b'.ren (qq l n)) ∨ lk H j = some c := by
      intro h
      rcases ih h with ⟨i', b', h1, h2⟩ | h1
      · refine .inl ⟨i', b', ?_, h2⟩
        simp only [lk]
        rw [if_neg]
        · exact h1
        · intro e; subst e; rw [hn] at h1; cases h1
      · exact .inr h1
    simp only [behind] at h
    split at h
    · exact up' h
    · rename_i hx
      split at h
      · rename_i hw
        rw [lk_up] at h
        split at h
        · rename_i e
          injection h with h
          exact .inl ⟨i, b, by simp [lk], fun cs e => hx cs e, hw, e, h.symm⟩
        · exact up' h
      · exact up' h

theorem lk_gone {l : List Nat} {n : Nat} : ∀ (hp0 H : List (Nat × ABlk)) (j : Nat) (c : ABlk), lk (gone l n hp0 H) j = some c → lk H j = some c ∧ ∀ i b, lk hp0 i = some b → b.wr = true → qq l n i ≠ j
  | [], H, j, c, h => ⟨h, by intro i b hb; cases hb⟩
  | (i, b) :: r, H, j, c, h => by
    simp only [gone] at h
    have ih := lk_gone (l := l) (n := n) r H j c
    split at h
    · rename_i hw
      rw [lk_del] at h
      split at h
      · cases h
      · rename_i hne
        obtain ⟨h1, h2⟩ := ih h
        refine ⟨h1, fun i' b' hb hw' => ?_⟩
        simp only [lk] at hb
        split at hb
        · rename_i e; subst e; exact hne
        · exact h2 i' b' hb hw'
    · rename_i hw
      obtain ⟨h1, h2⟩ := ih h
      refine ⟨h1, fun i' b' hb hw' => ?_⟩
      simp only [lk] at hb
      split at hb
      · injection hb with hb; subst hb; exact absurd hw' hw
      · exact h2 i' b' hb hw'

variable {P : Program} {T : Nat → Option TI} {md : Bool} {E : Env} {R R' : Ren} {s : AS} {a : Act} {w w' : World}

/-- A callee has been at work on blocks that the activation may write. -/
theorem Fit.worked {M : Nat → Prop} {hp' : List (Nat × ABlk)} (F : Fit E R s a w) (hfr : Fr M w w') (hM : ∀ j, M j → ∃ i b, lk s.hp i = some b ∧ b.wr = true ∧ R.ρ i = j)
    (hsub : ∀ i b, lk hp' i = some b → lk s.hp i = some b ∧ ¬ M (R.ρ i)) : Fit E R { s with hp := hp' } a w' := by
  have hME : ∀ j, M j → E.M j ∨ E.W.heap.size ≤ j := fun j hj => by
    obtain ⟨i, b, h1, h2, h3⟩ := hM j hj; exact h3 ▸ F.wr i b h1 h2
  exact {
    ok := F.ok
    nt := F.nt
    tm := F.tm
    hp := ⟨fun id b hb => (F.hp.blk id b (hsub id b hb).1).of_block (hfr.block _ (F.hp.blk id b (hsub id b hb).1).lt (hsub id b hb).2), fun i j b c hi hj => F.hp.inj i j b c (hsub i b hi).1 (hsub j c hj).1⟩
    old := F.old
    wr := fun id b hb => F.wr id b (hsub id b hb).1
    nx := fun id b hb => F.nx id b (hsub id b hb).1
    nk := F.nk
    kk := F.kk
    fr := F.fr.trans hfr hME
    df := by
      obtain ⟨ds, h1, hnd, h2⟩ := F.df
      refine ⟨ds, h1, hnd, fun d hd => ⟨(h2 d hd).1, (hfr.block d (Array.getElem?_eq_some_iff.1 (h2 d hd).2).1 ?_).trans (h2 d hd).2⟩⟩
      intro hm
      obtain ⟨i, b, e1, e2, e3⟩ := hM d hm
      have hB := F.hp.blk i b e1
      have h3 := (h2 d hd).2
      rw [← e3] at h3
      cases b <;> simp only [BRel] at hB <;> simp_all
    wf := ⟨F.wf.tm, fun i b hb => F.wf.hp i b (hsub i b hb).1⟩ }

theorem Fit.adds {hp' : List (Nat × ABlk)} (F : Fit E R s a w) (h : ∀ j c, lk hp' j = some c → BRel R j w c ∧ (c.wr = true → E.M (R.ρ j) ∨ E.W.heap.size ≤ R.ρ j) ∧ idOk s.nx j ∧ c.lt s.nx)
    (hi : ∀ i j b c, lk hp' i = some b → lk hp' j = some c → i ≠ j → b.wr = true → R.ρ i ≠ R.ρ j) : Fit E R { s with hp := hp' } a w where
  ok := F.ok
  nt := F.nt
  tm := F.tm
  hp := ⟨fun id b hb => (h id b hb).1, hi⟩
  old := F.old
  wr := fun id b hb => (h id b hb).2.1
  nx := fun id b hb => (h id b hb).2.2.1
  nk := F.nk
  kk := F.kk
  fr := F.fr
  df := F.df
  wf := ⟨F.wf.tm, fun i b hb => (h i b hb).2.2⟩

theorem callOk_sound {f : FuncId} {vs : List AV} {kk : AV → AS → Prop} {args : List AV} {hp0 : List (Nat × ABlk)} {l : List Nat} {Post : AV → List (Nat × ABlk) → Nat → Prop} (C : CallOk P f vs s kk args hp0 l Post) (F : Fit E R s a w)
    {us : Array Value} (hus : us.size = vs.length) (hu : ∀ (i : Nat) (v : AV), vs[i]? = some v → ∃ u : Value, us[i]? = some u ∧ conV R v u) :
    Calls P f us w fun e w' => ∃ u v s' R', e = .returned u ∧ kk v s' ∧ Fit E R' s' a w' ∧ conV R' v u ∧ v.lt s'.nx := by
  obtain ⟨q, hq⟩ : ∃ q, q = qq l s.nx := ⟨_, rfl⟩
  have qG : ∀ i, q (GB + i) = GB + i := fun i => by rw [hq]; simp [qq, GB]
  have hgv : ∀ i b, lk hp0 i = some b → b.wr = true → lk s.hp (q i) = some (b.ren q) := fun i b hb hw => by
    obtain ⟨_, b', h1, h2⟩ := C.heap i b hb
    rw [hq]; rw [h2.eq (by rw [ABlk.ren_wr]; exact hw)] at h1; exact h1
  have hex : ∀ i b, lk hp0 i = some b → ∃ b', lk s.hp (q i) = some b' := fun i b hb => by
    obtain ⟨_, b', h1, h2⟩ := C.heap i b hb
    exact ⟨b', by rw [hq]; exact h1⟩
  have H0 : HRel (R.comp q) hp0 w := ⟨fun i b hb => by
      obtain ⟨_, b', h1, h2⟩ := C.heap i b hb
      rw [← hq] at h1 h2
      exact BRel_ren.1 (h2.rel (F.hp.blk _ _ h1)), fun i j b c hi hj hne hw => by
      obtain ⟨c', h1⟩ := hex j c hj
      exact F.hp.inj (q i) (q j) _ _ (hgv i b hi hw) h1 (by rw [hq]; exact C.inj i j b c hi hj hne hw) (by rw [ABlk.ren_wr]; exact hw)⟩
  refine (C.spec.run w (R.comp q) us ⟨fun i => by simp [Ren.comp, qG, F.ok.g], fun i => by simp [Ren.comp, qG, F.ok.d], fun i => by simp [Ren.comp, qG, F.ok.c]⟩ (by rw [hus, ← C.args]; simp) (fun i v hv => ?_) H0).mono ?_
  · obtain ⟨u, h1, h2⟩ := hu i (v.ren q) (by rw [← C.args, List.getElem?_map, hv, hq]; rfl)
    exact ⟨u, h1, conV_ren.1 h2⟩
  rintro e w' ⟨u, r, hp', k', R0, rfl, hpost, hok, hag, hkk', hr, hrl, hH, hnd, hlt, hwr, hfr⟩
  obtain ⟨hG, hk⟩ := C.k r hp' k' hpost
  rw [← hq] at hk
  let R2 : Ren := ⟨fun i => if i < s.nx ∨ GB ≤ i then R.ρ i else R0.ρ (l.length + (i - s.nx)), fun i => if i < s.nx ∨ GB ≤ i then R.δ i else R0.δ (l.length + (i - s.nx)), fun i => if i < s.nx ∨ GB ≤ i then R.κ i else R0.κ (l.length + (i - s.nx))⟩
  have ag2 : Agree s.nx R R2 := fun i hi => by
    have : i < s.nx ∨ GB ≤ i := hi
    simp [R2, this]
  have ok2 : R2.ok := ⟨fun i => by simp [R2, F.ok.g], fun i => by simp [R2, F.ok.d], fun i => by simp [R2, F.ok.c]⟩
  have hnx := F.nk.2
  have ag3 : Agree k' R0 (R2.comp q) := fun i hi => by
    by_cases h1 : GB ≤ i
    · obtain ⟨j, rfl⟩ := Nat.exists_eq_add_of_le h1
      have hqq := qG j
      refine ⟨?_, ?_, ?_⟩
      · simp [Ren.comp, hqq, R2, F.ok.g, hok.g]
      · simp [Ren.comp, hqq, R2, F.ok.d, hok.d]
      · obtain ⟨_, _, e⟩ := hag (GB + j) (.inr h1)
        simp [Ren.comp, hqq, R2] at e ⊢
        exact e.symm
    · have hi' : i < k' := by rcases hi with h | h; exact h; exact absurd h h1
      by_cases h2 : i < l.length
      · have e1 : q i = l[i] := by rw [hq]; simp [qq, h1, h2]
        have h3 : idOk s.nx l[i] := C.old _ (List.getElem_mem _)
        obtain ⟨a1, a2, a3⟩ := hag i (.inl h2)
        obtain ⟨b1, b2, b3⟩ := ag2 _ h3
        simp only [Ren.comp, e1] at a1 a2 a3 ⊢
        exact ⟨b1.trans a1.symm, b2.trans a2.symm, b3.trans a3.symm⟩
      · have e1 : q i = s.nx + (i - l.length) := by
          rw [hq]; simp [qq, h1, List.getElem?_eq_none (Nat.le_of_not_lt h2)]
        have h4 : ¬ (s.nx + (i - l.length) < s.nx ∨ GB ≤ s.nx + (i - l.length)) := by omega
        have h5 : l.length + (s.nx + (i - l.length) - s.nx) = i := by omega
        simp only [Ren.comp, e1, R2, if_neg h4, h5]
        exact ⟨trivial, trivial, trivial⟩
  have qok : ∀ i, idOk k' i → idOk (s.nx + (k' - l.length)) (q i) := fun i hi => by
    by_cases h1 : GB ≤ i
    · obtain ⟨j, rfl⟩ := Nat.exists_eq_add_of_le h1
      rw [qG]; exact .inr h1
    · have hi' : i < k' := by rcases hi with h | h; exact h; exact absurd h h1
      by_cases h2 : i < l.length
      · have e1 : q i = l[i] := by rw [hq]; simp [qq, h1, h2]
        rw [e1]; exact (C.old _ (List.getElem_mem _)).mono (Nat.le_add_right _ _)
      · have e1 : q i = s.nx + (i - l.length) := by
          rw [hq]; simp [qq, h1, List.getElem?_eq_none (Nat.le_of_not_lt h2)]
        rw [e1]; left; omega
  -- what was the caller's
  have F1 := F.worked (hp' := gone l s.nx hp0 s.hp) hfr (fun j ⟨i, b, h1, h2, h3⟩ => ⟨q i, b.ren q, hgv i b h1 h2, by rw [ABlk.ren_wr]; exact h2, h3⟩)
    (fun i b hb => by
      obtain ⟨h1, h2⟩ := lk_gone _ _ _ _ hb
      refine ⟨h1, ?_⟩
      rintro ⟨i', b', e1, e2, e3⟩
      refine F.hp.inj (q i') i _ b (hgv i' b' e1 e2) h1 (by rw [hq]; exact h2 i' b' e1 e2) (by rw [ABlk.ren_wr]; exact e2) e3)
  have F2 := F1.ren (m := s.nx + (k' - l.length)) ag2 ok2 (Nat.le_add_right _ _) hG
  have hold : ∀ j c, lk (gone l s.nx hp0 s.hp) j = some c → R2.ρ j = R.ρ j ∧ R.ρ j < w.heap.size := fun j c hj => by
    have h1 := (lk_gone _ _ _ _ hj).1
    exact ⟨(ag2 j (F.wf.hp j c h1).1).1, (F.hp.blk j c h1).lt⟩
  have hnew : ∀ i b, lk hp' i = some b → R2.ρ (q i) = R0.ρ i := fun i b hb => (ag3 i (hlt i b hb).1).1
  have F3 := F2.adds (hp' := behind l s.nx hp0 hp' (gone l s.nx hp0 s.hp)) (fun j c hj => by
      rcases lk_behind hp' _ j c hnd hj with ⟨i, b, h1, h2, h3, h4, h5⟩ | h1
      · rw [← hq] at h4 h5
        subst h4; subst h5
        have hid := (hlt i b h1).1
        refine ⟨BRel_ren.2 (BRel.agree ag3 hid (hlt i b h1).2 (hH.blk i b h1)), fun _ => ?_, qok i hid, ABlk.ren_lt (hlt i b h1).2 qok⟩
        rw [hnew i b h1]
        rcases hwr i b h1 h3 with ⟨i0, b0, g1, g2, g3⟩ | g1
        · rw [← g3]
          exact F.wr (q i0) _ (hgv i0 b0 g1 g2) (by rw [ABlk.ren_wr]; exact g2)
        · exact .inr (Nat.le_trans F.fr.size g1)
      · exact ⟨F2.hp.blk j c h1, F2.wr j c h1, F2.wf.hp j c h1⟩)
    (fun i j b c hi hj hne hw => by
      have mix : ∀ (i0 : Nat) (b0 : ABlk) (j0 : Nat) (c0 : ABlk), lk hp' i0 = some b0 → b0.wr = true → lk (gone l s.nx hp0 s.hp) j0 = some c0 → R2.ρ (q i0) ≠ R2.ρ j0 := by
        intro i0 b0 j0 c0 g1 g2 g3
        rw [hnew i0 b0 g1, (hold j0 c0 g3).1]
        rcases hwr i0 b0 g1 g2 with ⟨i1, b1, g4, g5, g8⟩ | g4
        · rw [← g8]
          obtain ⟨g6, g7⟩ := lk_gone _ _ _ _ g3
          exact F.hp.inj (q i1) j0 _ c0 (hgv i1 b1 g4 g5) g6 (by rw [hq]; exact g7 i1 b1 g4 g5) (by rw [ABlk.ren_wr]; exact g5)
        · have := (hold j0 c0 g3).2; omega
      rcases lk_behind hp' _ i b hnd hi with ⟨i0, b0, g1, g2, g3, g4, g5⟩ | g1
      · rw [← hq] at g4 g5
        rcases lk_behind hp' _ j c hnd hj with ⟨j0, c0, k1, k2, k3, k4, k5⟩ | k1
        · rw [← hq] at k4 k5
          subst g4; subst k4
          rw [hnew i0 b0 g1, hnew j0 c0 k1]
          exact hH.inj i0 j0 b0 c0 g1 k1 (fun e => hne (by rw [e])) g3
        · subst g4; exact mix i0 b0 j c g1 g3 k1
      · rcases lk_behind hp' _ j c hnd hj with ⟨j0, c0, k1, k2, k3, k4, k5⟩ | k1
        · rw [← hq] at k4 k5
          subst k4; exact fun e => mix j0 c0 i b k1 k3 g1 e.symm
        · exact F2.hp.inj i j b c g1 k1 hne hw)
  exact ⟨u, _, _, R2, rfl, hk, F3, conV_ren.2 (hr.agree ag3 hrl), AV.ren_lt hrl qok⟩

theorem callA_intro {f : FuncId} {vs : List AV} {s : AS} {kk : AV → AS → Prop} {args : List AV} {hp0 : List (Nat × ABlk)} {l : List Nat} {Post : AV → List (Nat × ABlk) → Nat → Prop} (C : CallOk P f vs s kk args hp0 l Post) : CallA P f vs s kk := ⟨_, _, _, _, C⟩
theorem callA_elim {f : FuncId} {vs : List AV} {s : AS} {kk : AV → AS → Prop} (h : CallA P f vs s kk) : ∃ args hp0 l Post, CallOk P f vs s kk args hp0 l Post := h
attribute [irreducible] CallA
end Go.AH
