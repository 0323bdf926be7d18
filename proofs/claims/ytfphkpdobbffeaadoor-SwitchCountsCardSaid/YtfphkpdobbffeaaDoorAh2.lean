/-
  The fit of a state and a world under a world's changes.
-/
import Derived.Test.YtfphkpdobbffeaaDoorAh1
set_option linter.unusedSimpArgs false
set_option linter.unusedVariables false
namespace Go.AH
open Go.RowKit

def idOk (n i : Nat) : Prop := i < n ∨ GB ≤ i

def AC.lt (n : Nat) : AC → Prop
  | .ptr id _ => idOk n id
  | .sl id _ _ _ => idOk n id
  | .row id _ => idOk n id
  | .map id => idOk n id
  | .fn _ fs cs => (∀ i ∈ fs, idOk n i) ∧ ∀ i ∈ cs, idOk n i
  | .rs id _ _ => idOk n id
  | _ => True
def LL (n : Nat) (cs : List AC) : Prop := ∀ x ∈ cs, x.lt n
def AE.lt (n : Nat) : AE → Prop
  | .c x => x.lt n
  | .g cs => LL n cs
def AV.lt (n : Nat) : AV → Prop
  | .c x => x.lt n
  | .g cs => LL n cs
  | .t es => ∀ e ∈ es, AE.lt n e
def ABlk.lt (n : Nat) : ABlk → Prop
  | .ro cs => LL n cs
  | .own cs => LL n cs
  | .row _ _ cs => LL n cs
  | .mp m => ∀ p ∈ m, LL n p.1 ∧ p.2.lt n
  | .mi _ => True

theorem idOk.mono {n m i : Nat} (h : idOk n i) (hm : n ≤ m) : idOk m i := by unfold idOk at *; omega
theorem AC.lt.mono {n m : Nat} {x : AC} (h : x.lt n) (hm : n ≤ m) : x.lt m := by
  cases x <;> simp only [AC.lt] at h ⊢ <;> first | exact idOk.mono h hm | exact ⟨fun i hi => (h.1 i hi).mono hm, fun i hi => (h.2 i hi).mono hm⟩
theorem LL.mono {n m : Nat} {cs : List AC} (h : LL n cs) (hm : n ≤ m) : LL m cs := fun x hx => (h x hx).mono hm
theorem AE.lt.mono {n m : Nat} {x : AE} (h : x.lt n) (hm : n ≤ m) : x.lt m := by
  cases x
  · exact AC.lt.mono h hm
  · exact LL.mono h hm
theorem AV.lt.mono {n m : Nat} {x : AV} (h : x.lt n) (hm : n ≤ m) : x.lt m := by
  cases x
  · exact AC.lt.mono h hm
  · exact LL.mono h hm
  · exact fun e he => (h e he).mono hm
theorem ABlk.lt.mono {n m : Nat} {b : ABlk} (h : b.lt n) (hm : n ≤ m) : b.lt m := by
  cases b
  · exact LL.mono h hm
  · exact LL.mono h hm
  · exact LL.mono h hm
  · exact fun p hp => ⟨(h p hp).1.mono hm, (h p hp).2.mono hm⟩
  · trivial

/-- Two namings agree on what is named. -/
def Agree (n : Nat) (R R' : Ren) : Prop := ∀ i, idOk n i → R'.ρ i = R.ρ i ∧ R'.δ i = R.δ i ∧ R'.κ i = R.κ i
theorem Agree.refl (n : Nat) (R : Ren) : Agree n R R := fun _ _ => ⟨rfl, rfl, rfl⟩
theorem Agree.trans {n m : Nat} {A B C : Ren} (h : Agree n A B) (k : Agree m B C) (hm : n ≤ m) : Agree n A C := fun i hi => by
  obtain ⟨a, b, c⟩ := h i hi; obtain ⟨d, e, f⟩ := k i (hi.mono hm)
  exact ⟨d.trans a, e.trans b, f.trans c⟩
theorem Agree.mono {n m : Nat} {A B : Ren} (h : Agree m A B) (hm : n ≤ m) : Agree n A B := fun i hi => h i (hi.mono hm)
theorem Agree.adr {n : Nat} {R R' : Ren} (h : Agree n R R') {i : Nat} (hi : idOk n i) (o : Nat) : R'.adr i o = R.adr i o := by
  obtain ⟨a, b, _⟩ := h i hi; simp [Ren.adr, a, b]

theorem conC.agree {n : Nat} {R R' : Ren} (h : Agree n R R') {x : AC} {v : Value} (hx : x.lt n) (hc : conC R x v) : conC R' x v := by
  cases x with
  | ptr id off => simp only [conC, h.adr hx] at hc ⊢; exact hc
  | sl id off len cap => simp only [conC, h.adr hx] at hc ⊢; exact hc
  | rs id off len => simp only [conC, h.adr hx] at hc ⊢; exact hc
  | row id len => obtain ⟨a, _, c⟩ := h id hx; simp only [conC, a, c] at hc ⊢; exact hc
  | map id => obtain ⟨a, _, _⟩ := h id hx; simp only [conC, a] at hc ⊢; exact hc
  | fn f fs cs =>
    have hp : ∀ i, idOk n i → R'.p0 i = R.p0 i := fun i hi => by simp [Ren.p0, h.adr hi]
    simp only [conC] at hc ⊢
    rw [hc, List.map_congr_left fun i hi => hp i (hx.1 i hi), List.map_congr_left fun i hi => hp i (hx.2 i hi)]
  | _ => exact hc
theorem conL.agree {n : Nat} {R R' : Ren} (h : Agree n R R') {cs : List AC} {vs : Array Value} {o : Nat} (hx : LL n cs) (hc : conL R cs vs o) : conL R' cs vs o := fun i x hi => by
  obtain ⟨v, hv, hcv⟩ := hc i x hi
  exact ⟨v, hv, hcv.agree h (hx x (List.mem_of_getElem? hi))⟩
theorem conE.agree {n : Nat} {R R' : Ren} (h : Agree n R R') {x : AE} {v : Value} (hx : x.lt n) (hc : conE R x v) : conE R' x v := by
  cases x with
  | c x => exact conC.agree h hx hc
  | g cs => obtain ⟨vs, a, b, c⟩ := hc; exact ⟨vs, a, b, c.agree h hx⟩
theorem conV.agree {n : Nat} {R R' : Ren} (h : Agree n R R') {x : AV} {v : Value} (hx : x.lt n) (hc : conV R x v) : conV R' x v := by
  cases x with
  | c x => exact conC.agree h hx hc
  | g cs => obtain ⟨vs, a, b, c⟩ := hc; exact ⟨vs, a, b, c.agree h hx⟩
  | t es =>
    obtain ⟨vs, a, b, c⟩ := hc
    exact ⟨vs, a, b, fun i e hi => by obtain ⟨u, hu, hc⟩ := c i e hi; exact ⟨u, hu, hc.agree h (hx e (List.mem_of_getElem? hi))⟩⟩
theorem BRel.agree {n : Nat} {R R' : Ren} (h : Agree n R R') {id : Nat} {w : World} {b : ABlk} (hid : idOk n id) (hx : b.lt n) (hc : BRel R id w b) : BRel R' id w b := by
  obtain ⟨h1, h2, h3⟩ := h id hid
  cases b with
  | ro cs => simp only [BRel, h1, h2] at hc ⊢; obtain ⟨c, t, z, a, b⟩ := hc; exact ⟨c, t, z, a, b.agree h hx⟩
  | own cs => simp only [BRel, h1, h2] at hc ⊢; obtain ⟨c, t, a, d, e, b⟩ := hc; exact ⟨c, t, a, d, e, b.agree h hx⟩
  | row e z cs => simp only [BRel, h1, h2, h3] at hc ⊢; obtain ⟨c, a, d, e, f, g, b⟩ := hc; exact ⟨c, a, d, e, f, g, b.agree h hx⟩
  | mp m =>
    simp only [BRel, h1] at hc ⊢
    obtain ⟨es, cl, a, b, c⟩ := hc
    refine ⟨es, cl, a, b, fun i k v hi => ?_⟩
    obtain ⟨e, he, ⟨vs, k1, k2, k3⟩, hv⟩ := c i k v hi
    have := hx (k, v) (List.mem_of_getElem? hi)
    exact ⟨e, he, ⟨vs, k1, k2, k3.agree h this.1⟩, hv.agree h this.2⟩
  | mi I =>
    obtain ⟨m, ⟨hI, hp⟩, hm⟩ := BRel.mi_iff.1 hc
    exact BRel.mi_iff.2 ⟨m, ⟨hI, hp⟩, hm.mp_prim hp h1⟩

/-- What is named in a state is below its next number. -/
structure AS.wf (s : AS) : Prop where
  tm : ∀ t v, lk s.tm t = some v → v.lt s.nx
  hp : ∀ i b, lk s.hp i = some b → idOk s.nx i ∧ b.lt s.nx

structure Fit (E : Env) (R : Ren) (s : AS) (a : Act) (w : World) : Prop extends SRel E R s a w where
  wf : s.wf

variable {E : Env} {R R' : Ren} {s : AS} {a : Act} {w w' : World}

theorem Fit.kid (h : Fit E R s a w) {i : Nat} (hi : i < E.k) : idOk s.nx i := .inl (Nat.lt_of_lt_of_le hi h.nk.1)

/-- Only what is looked up counts. -/
theorem Fit.hp_congr {hp' : List (Nat × ABlk)} (h : Fit E R s a w) (he : ∀ i, lk hp' i = lk s.hp i) : Fit E R { s with hp := hp' } a w where
  ok := h.ok
  nt := h.nt
  tm := h.tm
  hp := ⟨fun id b hb => h.hp.blk id b (by rw [← he]; exact hb), fun i j b c hi hj => h.hp.inj i j b c (by rw [← he]; exact hi) (by rw [← he]; exact hj)⟩
  old := h.old
  wr := fun id b hb => h.wr id b (by rw [← he]; exact hb)
  nx := fun id b hb => h.nx id b (by rw [← he]; exact hb)
  nk := h.nk
  kk := h.kk
  fr := h.fr
  df := h.df
  wf := ⟨h.wf.tm, fun i b hb => h.wf.hp i b (by rw [← he]; exact hb)⟩

/-- Blocks may be forgotten. -/
theorem Fit.hp_sub {hp' : List (Nat × ABlk)} (h : Fit E R s a w) (he : ∀ i b, lk hp' i = some b → lk s.hp i = some b) : Fit E R { s with hp := hp' } a w where
  ok := h.ok
  nt := h.nt
  tm := h.tm
  hp := ⟨fun id b hb => h.hp.blk id b (he _ _ hb), fun i j b c hi hj => h.hp.inj i j b c (he _ _ hi) (he _ _ hj)⟩
  old := h.old
  wr := fun id b hb => h.wr id b (he _ _ hb)
  nx := fun id b hb => h.nx id b (he _ _ hb)
  nk := h.nk
  kk := h.kk
  fr := h.fr
  df := h.df
  wf := ⟨h.wf.tm, fun i b hb => h.wf.hp i b (he _ _ hb)⟩

/-- Temporaries may be forgotten. -/
theorem Fit.tm_sub {tm' : List (Nat × AV)} (h : Fit E R s a w) (he : ∀ i b, lk tm' i = some b → lk s.tm i = some b) : Fit E R { s with tm := tm' } a w where
  ok := h.ok
  nt := h.nt
  tm := fun t v hv => h.tm t v (he _ _ hv)
  hp := h.hp
  old := h.old
  wr := h.wr
  nx := h.nx
  nk := h.nk
  kk := h.kk
  fr := h.fr
  df := h.df
  wf := ⟨fun t v hv => h.wf.tm t v (he _ _ hv), h.wf.hp⟩

/-- Another naming that agrees on what is named; a higher next number. -/
theorem Fit.ren {m : Nat} (h : Fit E R s a w) (hag : Agree s.nx R R') (hok : R'.ok) (hm : s.nx ≤ m) (hG : m ≤ GB) : Fit E R' { s with nx := m } a w where
  ok := hok
  nt := h.nt
  tm := fun t v hv => by obtain ⟨u, hu, hc⟩ := h.tm t v hv; exact ⟨u, hu, hc.agree hag (h.wf.tm t v hv)⟩
  hp := ⟨fun id b hb => (h.hp.blk id b hb).agree hag (h.wf.hp id b hb).1 (h.wf.hp id b hb).2,
    fun i j b c hi hj hn hw => by
      rw [(hag i (h.wf.hp i b hi).1).1, (hag j (h.wf.hp j c hj).1).1]; exact h.hp.inj i j b c hi hj hn hw⟩
  old := fun i hi => by
    obtain ⟨x, y, z⟩ := hag i (h.kid hi); obtain ⟨x', y', z'⟩ := h.old i hi
    exact ⟨x.trans x', y.trans y', z.trans z'⟩
  wr := fun id b hb hw => by rw [(hag id (h.wf.hp id b hb).1).1]; exact h.wr id b hb hw
  nx := fun id b hb => by have := h.nx id b hb; show id < m ∨ _; omega
  nk := ⟨Nat.le_trans h.nk.1 hm, hG⟩
  kk := h.kk
  fr := h.fr
  df := h.df
  wf := ⟨fun t v hv => (h.wf.tm t v hv).mono hm, fun i b hb => ⟨(h.wf.hp i b hb).1.mono hm, (h.wf.hp i b hb).2.mono hm⟩⟩

/-- The world moves on: nothing that lay has turned but one block that the activation may write. -/
theorem Fit.keep {id : Nat} {b : ABlk} (h : Fit E R s a w) (hid : lk s.hp id = some b) (hwr : b.wr = true) (hg : w.grownBy w' (some (R.ρ id)))
    (hndf : ∀ ds, w.heap[R.ρ id]? ≠ some (.deferred ds) := by intro _ h; simp_all) : Fit E R { s with hp := del s.hp id } a w' where
  ok := h.ok
  nt := h.nt
  tm := h.tm
  hp := ⟨fun i c hc => by
      simp only [lk_del] at hc
      by_cases e : id = i
      · rw [if_pos e] at hc; cases hc
      · rw [if_neg e] at hc
        refine (h.hp.blk i c hc).of_block (hg.block _ (h.hp.blk i c hc).lt ?_)
        intro e2; injection e2 with e2
        exact h.hp.inj id i b c hid hc e hwr e2.symm,
    fun i j c d hi hj => by
      simp only [lk_del] at hi hj
      split at hi <;> first | (cases hi; done) | skip
      split at hj <;> first | (cases hj; done) | skip
      exact h.hp.inj i j c d hi hj⟩
  old := h.old
  wr := fun i c hc => by
    simp only [lk_del] at hc
    split at hc <;> first | (cases hc; done) | skip
    exact h.wr i c hc
  nx := fun i c hc => by
    simp only [lk_del] at hc
    split at hc <;> first | (cases hc; done) | skip
    exact h.nx i c hc
  nk := h.nk
  kk := h.kk
  fr := ⟨hg.os.trans h.fr.os, hg.tape.trans h.fr.tape, hg.output.trans h.fr.output, Nat.le_trans h.fr.size hg.size, fun k hk hn => by
    refine (hg.block k (Nat.lt_of_lt_of_le hk h.fr.size) ?_).trans (h.fr.block k hk hn)
    intro e; injection e with e
    rcases h.wr id b hid hwr with h1 | h1
    · exact hn (e ▸ h1)
    · omega⟩
  df := by
    obtain ⟨ds, h1, hnd, h2⟩ := h.df
    refine ⟨ds, h1, hnd, fun d hd => ⟨(h2 d hd).1, (hg.block d (Array.getElem?_eq_some_iff.1 (h2 d hd).2).1 ?_).trans (h2 d hd).2⟩⟩
    intro e; injection e with e
    exact hndf _ (e ▸ (h2 d hd).2)
  wf := ⟨h.wf.tm, fun i c hc => by
    simp only [lk_del] at hc
    split at hc <;> first | (cases hc; done) | skip
    exact h.wf.hp i c hc⟩

/-- The world moves on: nothing that lay has turned. -/
theorem Fit.keep0 (h : Fit E R s a w) (hg : w.grownBy w' none) : Fit E R s a w' where
  ok := h.ok
  nt := h.nt
  tm := h.tm
  hp := ⟨fun i c hc => (h.hp.blk i c hc).of_block (hg.block _ (h.hp.blk i c hc).lt (by simp)), h.hp.inj⟩
  old := h.old
  wr := h.wr
  nx := h.nx
  nk := h.nk
  kk := h.kk
  fr := ⟨hg.os.trans h.fr.os, hg.tape.trans h.fr.tape, hg.output.trans h.fr.output, Nat.le_trans h.fr.size hg.size, fun k hk hn =>
    (hg.block k (Nat.lt_of_lt_of_le hk h.fr.size) (by simp)).trans (h.fr.block k hk hn)⟩
  df := by
    obtain ⟨ds, h1, hnd, h2⟩ := h.df
    exact ⟨ds, h1, hnd, fun d hd => ⟨(h2 d hd).1, (hg.block d (Array.getElem?_eq_some_iff.1 (h2 d hd).2).1 (by simp)).trans (h2 d hd).2⟩⟩
  wf := h.wf

/-- One block more is known. -/
theorem Fit.add {id : Nat} {b : ABlk} (h : Fit E R s a w) (hn : lk s.hp id = none) (hb : BRel R id w b) (hw : b.wr = true → E.M (R.ρ id) ∨ E.W.heap.size ≤ R.ρ id)
    (hi : ∀ j c, lk s.hp j = some c → b.wr = true ∨ c.wr = true → R.ρ id ≠ R.ρ j) (hx : idOk s.nx id) (hl : b.lt s.nx) : Fit E R { s with hp := (id, b) :: s.hp } a w where
  ok := h.ok
  nt := h.nt
  tm := h.tm
  hp := ⟨fun i c hc => by
      simp only [lk] at hc
      split at hc
      · rename_i e; subst e; injection hc with hc; exact hc ▸ hb
      · exact h.hp.blk i c hc,
    fun i j c d hci hdj hne hwr => by
      simp only [lk] at hci hdj
      split at hci
      · rename_i e; subst e; injection hci with hci; subst hci
        rw [if_neg hne] at hdj
        exact hi j d hdj (.inl hwr)
      · rename_i e
        split at hdj
        · rename_i e2; subst e2
          exact fun e3 => hi i c hci (.inr hwr) e3.symm
        · exact h.hp.inj i j c d hci hdj hne hwr⟩
  old := h.old
  wr := fun i c hc => by
    simp only [lk] at hc
    split at hc
    · rename_i e; subst e; injection hc with hc; exact hc ▸ hw
    · exact h.wr i c hc
  nx := fun i c hc => by
    simp only [lk] at hc
    split at hc
    · rename_i e; subst e; exact hx
    · exact h.nx i c hc
  nk := h.nk
  kk := h.kk
  fr := h.fr
  df := h.df
  wf := ⟨h.wf.tm, fun i c hc => by
    simp only [lk] at hc
    split at hc
    · rename_i e; subst e; injection hc with hc; exact ⟨hx, hc ▸ hl⟩
    · exact h.wf.hp i c hc⟩

/-- A temporary is put. -/
theorem Fit.put {d : Nat} {v : AV} {u : Value} (h : Fit E R s a w) (hd : d < s.nt) (hv : conV R v u) (hl : v.lt s.nx) : Fit E R { s with tm := (d, v) :: s.tm } (a.put (some d) u) w where
  ok := h.ok
  nt := by simp [Act.put, h.nt]
  tm := fun t v' hv' => by
    simp only [lk] at hv'
    have hd' : d < a.tmps.size := by rw [h.nt]; exact hd
    split at hv'
    · rename_i e; subst e; injection hv' with hv'; subst hv'
      exact ⟨u, by simp [Act.put, hd'], hv⟩
    · rename_i e
      obtain ⟨u', hu', hc⟩ := h.tm t v' hv'
      exact ⟨u', by simp [Act.put, Array.getElem?_setIfInBounds_ne e, hu'], hc⟩
  hp := h.hp
  old := h.old
  wr := h.wr
  nx := h.nx
  nk := h.nk
  kk := h.kk
  fr := h.fr
  df := h.df
  wf := ⟨fun t v' hv' => by
    simp only [lk] at hv'
    split at hv'
    · injection hv' with hv'; exact hv' ▸ hl
    · exact h.wf.tm t v' hv', h.wf.hp⟩

theorem Fit.put0 (h : Fit E R s a w) (u : Value) : Fit E R s (a.put none u) w := h

def Ren.set (R : Ren) (id b d k : Nat) : Ren := ⟨fun i => if i = id then b else R.ρ i, fun i => if i = id then d else R.δ i, fun i => if i = id then k else R.κ i⟩
theorem Ren.set_agree (R : Ren) (id b d k : Nat) (h : id < GB) : Agree id R (R.set id b d k) := fun i hi => by
  have : i ≠ id := by unfold idOk at hi; omega
  simp [Ren.set, this]
theorem Ren.set_ok {R : Ren} (id b d k : Nat) (h : id < GB) (hk : R.ok) : (R.set id b d k).ok := by
  have hn : ∀ i, GB + i ≠ id := fun i => by omega
  exact ⟨fun i => by simp [Ren.set, hn, hk.g], fun i => by simp [Ren.set, hn, hk.d], fun i => by simp [Ren.set, hn, hk.c]⟩
@[simp] theorem Ren.set_ρ (R : Ren) (id b d k : Nat) : (R.set id b d k).ρ id = b := by simp [Ren.set]
@[simp] theorem Ren.set_δ (R : Ren) (id b d k : Nat) : (R.set id b d k).δ id = d := by simp [Ren.set]
@[simp] theorem Ren.set_κ (R : Ren) (id b d k : Nat) : (R.set id b d k).κ id = k := by simp [Ren.set]

end Go.AH
