/-
  An operation at work on part of a state leaves the rest alone.
-/
import Derived.Test.YtfphkpdobbffeaaDoorAh12
set_option linter.unusedSimpArgs false
set_option linter.unusedVariables false
namespace Go.AH
open Go.RowKit

def AC.all (p : Nat → Prop) : AC → Prop
  | .ptr id _ => p id
  | .sl id _ _ _ => p id
  | .row id _ => p id
  | .map id => p id
  | .fn _ fs cs => (∀ i ∈ fs, p i) ∧ ∀ i ∈ cs, p i
  | .rs id _ _ => p id
  | _ => True
def LA (p : Nat → Prop) (cs : List AC) : Prop := ∀ x ∈ cs, x.all p
def AE.all (p : Nat → Prop) : AE → Prop
  | .c x => x.all p
  | .g cs => LA p cs
def AV.all (p : Nat → Prop) : AV → Prop
  | .c x => x.all p
  | .g cs => LA p cs
  | .t es => ∀ e ∈ es, AE.all p e
def ABlk.all (p : Nat → Prop) : ABlk → Prop
  | .ro cs => LA p cs
  | .own cs => LA p cs
  | .row _ _ cs => LA p cs
  | .mp m => ∀ q ∈ m, LA p q.1 ∧ q.2.all p
  | .mi _ => True

theorem AC.lt_all {n : Nat} {x : AC} : x.lt n ↔ x.all (idOk n) := by cases x <;> rfl
theorem LL_all {n : Nat} {cs : List AC} : LL n cs ↔ LA (idOk n) cs := by
  unfold LL LA; simp only [AC.lt_all]
theorem AE.lt_all {n : Nat} {x : AE} : x.lt n ↔ x.all (idOk n) := by
  cases x <;> simp only [AE.lt, AE.all, AC.lt_all, LL_all]
theorem AV.lt_all {n : Nat} {x : AV} : x.lt n ↔ x.all (idOk n) := by
  cases x <;> simp only [AV.lt, AV.all, AC.lt_all, LL_all, AE.lt_all]
theorem ABlk.lt_all {n : Nat} {b : ABlk} : b.lt n ↔ b.all (idOk n) := by
  cases b <;> simp only [ABlk.lt, ABlk.all, AC.lt_all, LL_all]

theorem AC.all.mono {p q : Nat → Prop} {x : AC} (h : x.all p) (hm : ∀ i, p i → q i) : x.all q := by
  cases x <;> simp only [AC.all] at h ⊢ <;> first | exact hm _ h | exact ⟨fun i hi => hm _ (h.1 i hi), fun i hi => hm _ (h.2 i hi)⟩
theorem LA.mono {p q : Nat → Prop} {cs : List AC} (h : LA p cs) (hm : ∀ i, p i → q i) : LA q cs := fun x hx => (h x hx).mono hm
theorem AE.all.mono {p q : Nat → Prop} {x : AE} (h : x.all p) (hm : ∀ i, p i → q i) : x.all q := by
  cases x
  · exact AC.all.mono h hm
  · exact LA.mono h hm
theorem AV.all.mono {p q : Nat → Prop} {x : AV} (h : x.all p) (hm : ∀ i, p i → q i) : x.all q := by
  cases x
  · exact AC.all.mono h hm
  · exact LA.mono h hm
  · exact fun e he => (h e he).mono hm
theorem ABlk.all.mono {p q : Nat → Prop} {b : ABlk} (h : b.all p) (hm : ∀ i, p i → q i) : b.all q := by
  cases b
  · exact LA.mono h hm
  · exact LA.mono h hm
  · exact LA.mono h hm
  · exact fun p hp => ⟨(h p hp).1.mono hm, (h p hp).2.mono hm⟩
  · trivial

/-- Two namings agree where p holds. -/
def AgreeOn (p : Nat → Prop) (R R' : Ren) : Prop := ∀ i, p i → R'.ρ i = R.ρ i ∧ R'.δ i = R.δ i ∧ R'.κ i = R.κ i
theorem AgreeOn.adr {p : Nat → Prop} {R R' : Ren} (h : AgreeOn p R R') {i : Nat} (hi : p i) (o : Nat) : R'.adr i o = R.adr i o := by
  obtain ⟨a, b, _⟩ := h i hi; simp [Ren.adr, a, b]

theorem conC.agreeOn {p : Nat → Prop} {R R' : Ren} (h : AgreeOn p R R') {x : AC} {v : Value} (hx : x.all p) (hc : conC R x v) : conC R' x v := by
  cases x with
  | ptr id off => simp only [conC, h.adr hx] at hc ⊢; exact hc
  | sl id off len cap => simp only [conC, h.adr hx] at hc ⊢; exact hc
  | rs id off len => simp only [conC, h.adr hx] at hc ⊢; exact hc
  | row id len => obtain ⟨a, _, c⟩ := h id hx; simp only [conC, a, c] at hc ⊢; exact hc
  | map id => obtain ⟨a, _, _⟩ := h id hx; simp only [conC, a] at hc ⊢; exact hc
  | fn f fs cs =>
    have hp : ∀ i, p i → R'.p0 i = R.p0 i := fun i hi => by simp [Ren.p0, h.adr hi]
    simp only [conC] at hc ⊢
    rw [hc, List.map_congr_left fun i hi => hp i (hx.1 i hi), List.map_congr_left fun i hi => hp i (hx.2 i hi)]
  | _ => exact hc
theorem conL.agreeOn {p : Nat → Prop} {R R' : Ren} (h : AgreeOn p R R') {cs : List AC} {vs : Array Value} {o : Nat} (hx : LA p cs) (hc : conL R cs vs o) : conL R' cs vs o := fun i x hi => by
  obtain ⟨v, hv, hcv⟩ := hc i x hi
  exact ⟨v, hv, hcv.agreeOn h (hx x (List.mem_of_getElem? hi))⟩
theorem conE.agreeOn {p : Nat → Prop} {R R' : Ren} (h : AgreeOn p R R') {x : AE} {v : Value} (hx : x.all p) (hc : conE R x v) : conE R' x v := by
  cases x with
  | c x => exact conC.agreeOn h hx hc
  | g cs => obtain ⟨vs, a, b, c⟩ := hc; exact ⟨vs, a, b, c.agreeOn h hx⟩
theorem conV.agreeOn {p : Nat → Prop} {R R' : Ren} (h : AgreeOn p R R') {x : AV} {v : Value} (hx : x.all p) (hc : conV R x v) : conV R' x v := by
  cases x with
  | c x => exact conC.agreeOn h hx hc
  | g cs => obtain ⟨vs, a, b, c⟩ := hc; exact ⟨vs, a, b, c.agreeOn h hx⟩
  | t es =>
    obtain ⟨vs, a, b, c⟩ := hc
    exact ⟨vs, a, b, fun i e hi => by obtain ⟨u, hu, hc⟩ := c i e hi; exact ⟨u, hu, hc.agreeOn h (hx e (List.mem_of_getElem? hi))⟩⟩
theorem BRel.agreeOn {p : Nat → Prop} {R R' : Ren} (h : AgreeOn p R R') {id : Nat} {w : World} {b : ABlk} (hid : p id) (hx : b.all p) (hc : BRel R id w b) : BRel R' id w b := by
  obtain ⟨h1, h2, h3⟩ := h id hid
  cases b with
  | ro cs => simp only [BRel, h1, h2] at hc ⊢; obtain ⟨c, t, z, a, b⟩ := hc; exact ⟨c, t, z, a, b.agreeOn h hx⟩
  | own cs => simp only [BRel, h1, h2] at hc ⊢; obtain ⟨c, t, a, d, e, b⟩ := hc; exact ⟨c, t, a, d, e, b.agreeOn h hx⟩
  | row e z cs => simp only [BRel, h1, h2, h3] at hc ⊢; obtain ⟨c, a, d, e, f, g, b⟩ := hc; exact ⟨c, a, d, e, f, g, b.agreeOn h hx⟩
  | mp m =>
    simp only [BRel, h1] at hc ⊢
    obtain ⟨es, cl, a, b, c⟩ := hc
    refine ⟨es, cl, a, b, fun i k v hi => ?_⟩
    obtain ⟨e, he, ⟨vs, k1, k2, k3⟩, hv⟩ := c i k v hi
    have := hx (k, v) (List.mem_of_getElem? hi)
    exact ⟨e, he, ⟨vs, k1, k2, k3.agreeOn h this.1⟩, hv.agreeOn h this.2⟩
  | mi I =>
    obtain ⟨m, ⟨hI, hp⟩, hm⟩ := BRel.mi_iff.1 hc
    exact BRel.mi_iff.2 ⟨m, ⟨hI, hp⟩, hm.mp_prim hp h1⟩

theorem BRel.not_deferred {R : Ren} {id : Nat} {w : World} {b : ABlk} (h : BRel R id w b) (ds : Option (List Deferred)) : w.heap[R.ρ id]? ≠ some (.deferred ds) := by
  intro e
  cases b <;> simp only [BRel] at h <;> simp_all

theorem lk_append {β : Type} (l r : List (Nat × β)) (i : Nat) : lk (l ++ r) i = (lk l i).or (lk r i) := by
  induction l with
  | nil => simp [lk]
  | cons p l ih =>
    obtain ⟨j, c⟩ := p
    simp only [List.cons_append, lk]
    split
    · simp
    · exact ih

/-- Numbers in [b, c) are R2's, the others R's. -/
def mix (R R2 : Ren) (b c : Nat) : Ren :=
  ⟨fun i => if b ≤ i ∧ i < c then R2.ρ i else R.ρ i, fun i => if b ≤ i ∧ i < c then R2.δ i else R.δ i, fun i => if b ≤ i ∧ i < c then R2.κ i else R.κ i⟩

def outside (b c i : Nat) : Prop := i < b ∨ c ≤ i

variable {P : Program} {T : Nat → Option TI} {md : Bool} {E : Env} {R R2 : Ren} {s : AS} {a : Act} {w w' : World} {n : Nat} {r : Option Nat}

theorem mix_out (b c : Nat) : AgreeOn (outside b c) R (mix R R2 b c) := fun i hi => by
  have : ¬ (b ≤ i ∧ i < c) := by unfold outside at hi; omega
  simp [mix, this]
theorem mix_in (b c : Nat) (hc : c ≤ GB) (h1 : ∀ i, i < b → R2.ρ i = R.ρ i ∧ R2.δ i = R.δ i ∧ R2.κ i = R.κ i) (ok : R.ok) (ok2 : R2.ok) : AgreeOn (idOk c) R2 (mix R R2 b c) := fun i hi => by
  by_cases h : b ≤ i ∧ i < c
  · simp [mix, h]
  · simp only [mix, if_neg h]
    rcases hi with hi | hi
    · obtain ⟨x, y, z⟩ := h1 i (by omega); exact ⟨x.symm, y.symm, z.symm⟩
    · obtain ⟨j, rfl⟩ := Nat.exists_eq_add_of_le hi
      simp [ok.g, ok.d, ok.c, ok2.g, ok2.d, ok2.c]

/-- What an operation on part of a state may turn. -/
def locM (R : Ren) (hp0 : List (Nat × ABlk)) (a : Act) (j : Nat) : Prop :=
  (∃ i c, lk hp0 i = some c ∧ c.wr = true ∧ R.ρ i = j) ∨ ∃ x ∈ a.defers, x.target = .collected j

structure Part (s : AS) (tm0 : List (Nat × AV)) (hp0 : List (Nat × ABlk)) (b : Nat) : Prop where
  tm : ∀ t v, lk tm0 t = some v → lk s.tm t = some v ∧ v.lt b
  hp : ∀ i c, lk hp0 i = some c → lk s.hp i = some c ∧ idOk b i ∧ c.lt b

theorem Fit.part {tm0 : List (Nat × AV)} {hp0 : List (Nat × ABlk)} {b : Nat} (F : Fit E R s a w) (H : Part s tm0 hp0 b) (hb : b ≤ GB) : Fit ⟨w, R, b, locM R hp0 a⟩ R ⟨tm0, hp0, b, s.nt, b⟩ a w where
  ok := F.ok
  nt := F.nt
  tm := fun t v hv => F.tm t v (H.tm t v hv).1
  hp := ⟨fun i c hc => F.hp.blk i c (H.hp i c hc).1, fun i j c d hi hj => F.hp.inj i j c d (H.hp i c hi).1 (H.hp j d hj).1⟩
  old := fun _ _ => ⟨rfl, rfl, rfl⟩
  wr := fun i c hc hw => .inl (.inl ⟨i, c, hc, hw, rfl⟩)
  nx := fun i c hc => (H.hp i c hc).2.1
  nk := ⟨Nat.le_refl _, hb⟩
  kk := rfl
  fr := Fr.refl _ _
  df := by
    obtain ⟨ds, h1, h2, h3⟩ := F.df
    exact ⟨ds, h1, h2, fun d hd => ⟨.inl (.inr ⟨⟨.collected d, #[]⟩, by rw [h1]; exact List.mem_map.2 ⟨d, hd, rfl⟩, rfl⟩), (h3 d hd).2⟩⟩
  wf := ⟨fun t v hv => (H.tm t v hv).2, fun i c hc => (H.hp i c hc).2⟩

theorem Fit.framed {tm0 : List (Nat × AV)} {hp0 nb : List (Nat × ABlk)} {b b' : Nat} {v : AV} {u : Value} (F : Fit E R s a w) (H : Part s tm0 hp0 b)
    (hb : E.k ≤ b ∧ b' ≤ s.nx) (F2 : Fit ⟨w, R, b, locM R hp0 a⟩ R2 ⟨tm0, nb ++ hp0, b', s.nt, b⟩ a w') (hc : conV R2 v u) (hl : v.lt b')
    (hnb : ∀ i c, lk nb i = some c → (b ≤ i ∧ i < b') ∧ c.wr = true)
    (otm : ∀ t v, lk s.tm t = some v → v.all (outside b b')) (ohp : ∀ i c, lk s.hp i = some c → outside b b' i ∧ c.all (outside b b')) :
    Fit E (mix R R2 b b') { s with hp := nb ++ s.hp } a w' ∧ conV (mix R R2 b b') v u ∧ v.lt s.nx ∧ ∀ i c, lk nb i = some c → c.lt b' := by
  have hG := F.nk.2
  have hbb : b ≤ b' := F2.nk.1
  have ain : AgreeOn (idOk b') R2 (mix R R2 b b') := mix_in b b' (Nat.le_trans hb.2 hG) F2.old F.ok F2.ok
  have aout : AgreeOn (outside b b') R (mix R R2 b b') := mix_out b b'
  have hGB : b' ≤ GB := Nat.le_trans hb.2 hG
  have nbl : ∀ i c, lk nb i = some c → lk (nb ++ hp0) i = some c := fun i c h => by rw [lk_append, h]; rfl
  have nbn : ∀ i c, lk s.hp i = some c → lk nb i = none := fun i c h => by
    cases hq : lk nb i with
    | none => rfl
    | some d => have h1 := (hnb i d hq).1; have h2 := (ohp i c h).1; unfold outside at h2; omega
  have h0l : ∀ i c, lk hp0 i = some c → lk (nb ++ hp0) i = some c := fun i c h => by rw [lk_append, nbn i c (H.hp i c h).1, h]; rfl
  have split : ∀ i c, lk (nb ++ s.hp) i = some c → lk nb i = some c ∨ (lk nb i = none ∧ lk s.hp i = some c) := fun i c h => by
    rw [lk_append] at h
    cases hq : lk nb i with
    | none => rw [hq] at h; exact .inr ⟨rfl, h⟩
    | some d => rw [hq] at h; exact .inl h
  have oldρ : ∀ i c, lk s.hp i = some c → (mix R R2 b b').ρ i = R.ρ i := fun i c h => (aout i (ohp i c h).1).1
  have newρ : ∀ i c, lk nb i = some c → (mix R R2 b b').ρ i = R2.ρ i := fun i c h => (ain i (.inl (hnb i c h).1.2)).1
  have r2old : ∀ i c, lk hp0 i = some c → R2.ρ i = R.ρ i := fun i c h => by
    rcases (H.hp i c h).2.1 with h1 | h1
    · exact (F2.old i h1).1
    · obtain ⟨j, rfl⟩ := Nat.exists_eq_add_of_le h1
      rw [F2.ok.g, F.ok.g]
  -- new blocks are new
  have fresh : ∀ i c, lk nb i = some c → w.heap.size ≤ R2.ρ i := fun i c h => by
    rcases F2.wr i c (nbl i c h) (hnb i c h).2 with h1 | h1
    · rcases h1 with ⟨i0, c0, e1, e2, e3⟩ | h1
      · exfalso
        refine F2.hp.inj i0 i c0 c (h0l i0 c0 e1) (nbl i c h) ?_ e2 (by rw [r2old i0 c0 e1]; exact e3)
        intro e; subst e
        have := nbn i0 c0 (H.hp i0 c0 e1).1
        rw [h] at this; cases this
      · exfalso
        obtain ⟨x, hx, e⟩ := h1
        obtain ⟨ds2, k1, k2, k3⟩ := F2.df
        rw [k1] at hx
        obtain ⟨d, hd, rfl⟩ := List.mem_map.1 hx
        injection e with e
        exact (F2.hp.blk i c (nbl i c h)).not_deferred _ (e ▸ (k3 d hd).2)
    · exact h1
  -- old blocks that were not handed over stay
  have stays : ∀ i c, lk s.hp i = some c → lk hp0 i = none → w'.heap[R.ρ i]? = w.heap[R.ρ i]? := fun i c h h0 => by
    refine F2.fr.block _ (F.hp.blk i c h).lt ?_
    rintro (⟨i0, c0, e1, e2, e3⟩ | ⟨x, hx, e⟩)
    · refine F.hp.inj i0 i c0 c (H.hp i0 c0 e1).1 h ?_ e2 e3
      intro e; subst e; rw [h0] at e1; cases e1
    · obtain ⟨ds, k1, k2, k3⟩ := F.df
      rw [k1] at hx
      obtain ⟨d, hd, rfl⟩ := List.mem_map.1 hx
      injection e with e
      exact (F.hp.blk i c h).not_deferred _ (e ▸ (k3 d hd).2)
  have blkO : ∀ i c, lk s.hp i = some c → BRel (mix R R2 b b') i w' c := fun i c h => by
    cases h0 : lk hp0 i with
    | none => exact ((F.hp.blk i c h).of_block (stays i c h h0)).agreeOn aout (ohp i c h).1 (ohp i c h).2
    | some c' =>
      have e : c' = c := by have := (H.hp i c' h0).1; rw [h] at this; injection this with this; exact this.symm
      subst e
      exact (F2.hp.blk i c' (h0l i c' h0)).agreeOn ain ((H.hp i c' h0).2.1.mono hbb) (ABlk.lt_all.1 ((H.hp i c' h0).2.2.mono hbb))
  have blkN : ∀ i c, lk nb i = some c → BRel (mix R R2 b b') i w' c := fun i c h =>
    (F2.hp.blk i c (nbl i c h)).agreeOn ain (.inl (hnb i c h).1.2) (ABlk.lt_all.1 (F2.wf.hp i c (nbl i c h)).2)
  refine ⟨{
    ok := ⟨fun i => ?_, fun i => ?_, fun i => ?_⟩
    nt := F.nt
    tm := fun t v' h => by
      obtain ⟨u', hu, hc'⟩ := F.tm t v' h
      exact ⟨u', hu, hc'.agreeOn aout (otm t v' h)⟩
    hp := ⟨fun i c h => ?_, fun i j c d hi hj hne hw => ?_⟩
    old := fun i hi => ?_
    wr := fun i c h hw => ?_
    nx := fun i c h => ?_
    nk := F.nk
    kk := F.kk
    fr := F.fr.trans F2.fr ?_
    df := ?_
    wf := ⟨F.wf.tm, fun i c h => ?_⟩ }, ?_, ?_, ?_⟩
  · rw [(aout (GB + i) (.inr (by omega))).1, F.ok.g]
  · rw [(aout (GB + i) (.inr (by omega))).2.1, F.ok.d]
  · rw [(aout (GB + i) (.inr (by omega))).2.2, F.ok.c]
  · rcases split i c h with h | ⟨_, h⟩
    · exact blkN i c h
    · exact blkO i c h
  · rcases split i c hi with hi | ⟨_, hi⟩ <;> rcases split j d hj with hj | ⟨_, hj⟩
    · rw [newρ i c hi, newρ j d hj]; exact F2.hp.inj i j c d (nbl i c hi) (nbl j d hj) hne hw
    · rw [newρ i c hi, oldρ j d hj]; have := fresh i c hi; have := (F.hp.blk j d hj).lt; omega
    · rw [oldρ i c hi, newρ j d hj]; have := fresh j d hj; have := (F.hp.blk i c hi).lt; omega
    · rw [oldρ i c hi, oldρ j d hj]; exact F.hp.inj i j c d hi hj hne hw
  · obtain ⟨x, y, z⟩ := aout i (.inl (Nat.lt_of_lt_of_le hi hb.1))
    obtain ⟨x', y', z'⟩ := F.old i hi
    exact ⟨x.trans x', y.trans y', z.trans z'⟩
  · rcases split i c h with h | ⟨_, h⟩
    · rw [newρ i c h]; exact .inr (Nat.le_trans F.fr.size (fresh i c h))
    · rw [oldρ i c h]; exact F.wr i c h hw
  · rcases split i c h with h | ⟨_, h⟩
    · have := (hnb i c h).1; left; show i < s.nx; omega
    · exact F.nx i c h
  · rintro j (⟨i0, c0, e1, e2, e3⟩ | ⟨x, hx, e⟩)
    · exact e3 ▸ F.wr i0 c0 (H.hp i0 c0 e1).1 e2
    · obtain ⟨ds, k1, k2, k3⟩ := F.df
      rw [k1] at hx
      obtain ⟨d, hd, rfl⟩ := List.mem_map.1 hx
      injection e with e
      exact e ▸ (k3 d hd).1
  · obtain ⟨ds, k1, k2, k3⟩ := F.df
    obtain ⟨ds2, l1, l2, l3⟩ := F2.df
    refine ⟨ds, k1, k2, fun d hd => ⟨(k3 d hd).1, ?_⟩⟩
    have hx : (⟨.collected d, #[]⟩ : Deferred) ∈ a.defers := by rw [k1]; exact List.mem_map.2 ⟨d, hd, rfl⟩
    rw [l1] at hx
    obtain ⟨d2, hd2, e⟩ := List.mem_map.1 hx
    injection e with e _
    injection e with e
    exact e ▸ (l3 d2 hd2).2
  · rcases split i c h with h | ⟨_, h⟩
    · have h1 := F2.wf.hp i c (nbl i c h)
      exact ⟨.inl (by have := (hnb i c h).1; show i < s.nx; omega), h1.2.mono hb.2⟩
    · exact F.wf.hp i c h
  · exact hc.agreeOn ain (AV.lt_all.1 hl)
  · exact hl.mono hb.2
  · exact fun i c h => (F2.wf.hp i c (nbl i c h)).2

end Go.AH
