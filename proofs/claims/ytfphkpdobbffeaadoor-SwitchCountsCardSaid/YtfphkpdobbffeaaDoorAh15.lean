/-
  A region that draws its order: what its operations yield does not rest on the order.
-/
import Derived.Test.YtfphkpdobbffeaaDoorAh14
set_option linter.unusedSimpArgs false
set_option linter.unusedVariables false
namespace Go.AH
open Go.RowKit

/-- Of an operation: which ones come before it in every order; temporaries that ones without order to it write; earlier ones without order to it. -/
structure PE where
  bf : List Nat
  dl : List Nat
  un : List Nat

structure Rc where
  dst : Option Nat
  v : AV
  nb : List (Nat × ABlk)
  b : Nat
  b' : Nat
  pe : PE

def putT (d : Option Nat) (v : AV) (tm : List (Nat × AV)) : List (Nat × AV) := match d with | some d => (d, v) :: tm | none => tm
def tmR (S : Nat → Bool) (tm : List (Nat × AV)) : List Rc → List (Nat × AV)
  | [] => tm
  | r :: rest => if S rest.length = true then putT r.dst r.v (tmR S tm rest) else tmR S tm rest
def hpR (S : Nat → Bool) (hp : List (Nat × ABlk)) : List Rc → List (Nat × ABlk)
  | [] => hp
  | r :: rest => if S rest.length = true then r.nb ++ hpR S hp rest else hpR S hp rest
def nxR (n0 : Nat) : List Rc → Nat
  | [] => n0
  | r :: _ => r.b'
def At : List Rc → Nat → Rc → Prop
  | [], _, _ => False
  | r :: rest, i, q => (i = rest.length ∧ q = r) ∨ At rest i q

theorem At.lt : ∀ {l : List Rc} {i : Nat} {q : Rc}, At l i q → i < l.length
  | r :: rest, i, q, h => by
    rcases h with ⟨h, _⟩ | h
    · simp [h]
    · have := At.lt h; simp; omega
theorem At.split : ∀ {l : List Rc} {i : Nat} {q : Rc}, At l i q → ∃ pre rest, l = pre ++ q :: rest ∧ rest.length = i
  | r :: rest, i, q, h => by
    rcases h with ⟨h, e⟩ | h
    · exact ⟨[], rest, by simp [e], h.symm⟩
    · obtain ⟨pre, r2, e1, e2⟩ := At.split h
      exact ⟨r :: pre, r2, by simp [e1], e2⟩
theorem At.uniq : ∀ {l : List Rc} {i : Nat} {q p : Rc}, At l i q → At l i p → q = p
  | r :: rest, i, q, p, h, g => by
    rcases h with ⟨h, e⟩ | h <;> rcases g with ⟨g, f⟩ | g
    · rw [e, f]
    · have := At.lt g; omega
    · have := At.lt h; omega
    · exact At.uniq h g
theorem At.of_lt : ∀ {l : List Rc} {i : Nat}, i < l.length → ∃ q, At l i q
  | [], i, h => absurd h (by simp)
  | r :: rest, i, h => by
    by_cases e : i = rest.length
    · exact ⟨r, .inl ⟨e, rfl⟩⟩
    · obtain ⟨q, hq⟩ := At.of_lt (l := rest) (i := i) (by simp at h; omega)
      exact ⟨q, .inr hq⟩
theorem At.app {pre l : List Rc} {i : Nat} {q : Rc} (h : At l i q) : At (pre ++ l) i q := by
  induction pre with
  | nil => exact h
  | cons r pre ih => exact .inr ih
theorem At.low {pre l : List Rc} {i : Nat} {q : Rc} (h : At (pre ++ l) i q) (hi : i < l.length) : At l i q := by
  induction pre with
  | nil => exact h
  | cons r pre ih =>
    rcases h with ⟨h, e⟩ | h
    · simp at h; omega
    · exact ih h

section
variable {S S' : Nat → Bool} {tm : List (Nat × AV)} {hp : List (Nat × ABlk)} {t j : Nat}

theorem lk_putT (d : Option Nat) (v : AV) (tm : List (Nat × AV)) (t : Nat) : lk (putT d v tm) t = if d = some t then some v else lk tm t := by
  cases d with
  | none => simp [putT]
  | some d => simp [putT, lk]

theorem tmR_S : ∀ {l : List Rc}, (∀ i q, At l i q → q.dst = some t → S i = S' i) → lk (tmR S tm l) t = lk (tmR S' tm l) t
  | [], h => rfl
  | r :: rest, h => by
    have ih : lk (tmR S tm rest) t = lk (tmR S' tm rest) t := tmR_S fun i q hq => h i q (.inr hq)
    simp only [tmR]
    by_cases hd : r.dst = some t
    · rw [h rest.length r (.inl ⟨rfl, rfl⟩) hd]
      split
      · rw [lk_putT, lk_putT, if_pos hd, if_pos hd]
      · exact ih
    · have : ∀ (b : Prop) [Decidable b] (x : List (Nat × AV)), lk (if b then putT r.dst r.v x else x) t = lk x t := fun b _ x => by
        split
        · rw [lk_putT, if_neg hd]
        · rfl
      rw [this, this]; exact ih
theorem tmR_pre : ∀ {pre l : List Rc}, (∀ i q, At (pre ++ l) i q → l.length ≤ i → q.dst = some t → S i = false) → lk (tmR S tm (pre ++ l)) t = lk (tmR S tm l) t
  | [], l, h => rfl
  | r :: pre, l, h => by
    have ih : lk (tmR S tm (pre ++ l)) t = lk (tmR S tm l) t := tmR_pre fun i q hq => h i q (.inr hq)
    simp only [List.cons_append, tmR]
    split
    · rename_i hs
      rw [lk_putT, if_neg]
      · exact ih
      · intro hd
        have := h (pre ++ l).length r (.inl ⟨rfl, rfl⟩) (by simp) hd
        rw [this] at hs; cases hs
    · exact ih
theorem hpR_S : ∀ {l : List Rc}, (∀ i q, At l i q → lk q.nb j ≠ none → S i = S' i) → lk (hpR S hp l) j = lk (hpR S' hp l) j
  | [], h => rfl
  | r :: rest, h => by
    have ih : lk (hpR S hp rest) j = lk (hpR S' hp rest) j := hpR_S fun i q hq => h i q (.inr hq)
    simp only [hpR]
    by_cases hd : lk r.nb j = none
    · have : ∀ (b : Prop) [Decidable b] (x : List (Nat × ABlk)), lk (if b then r.nb ++ x else x) j = lk x j := fun b _ x => by
        split
        · rw [lk_append, hd]; rfl
        · rfl
      rw [this, this]; exact ih
    · rw [h rest.length r (.inl ⟨rfl, rfl⟩) hd]
      split
      · rw [lk_append, lk_append, ih]
      · exact ih
theorem hpR_pre : ∀ {pre l : List Rc}, (∀ i q, At (pre ++ l) i q → l.length ≤ i → lk q.nb j ≠ none → S i = false) → lk (hpR S hp (pre ++ l)) j = lk (hpR S hp l) j
  | [], l, h => rfl
  | r :: pre, l, h => by
    have ih : lk (hpR S hp (pre ++ l)) j = lk (hpR S hp l) j := hpR_pre fun i q hq => h i q (.inr hq)
    simp only [List.cons_append, hpR]
    split
    · rename_i hs
      rw [lk_append]
      cases hd : lk r.nb j with
      | none => exact ih
      | some c =>
        have := h (pre ++ l).length r (.inl ⟨rfl, rfl⟩) (by simp) (by simp [hd])
        rw [this] at hs; cases hs
    · exact ih
theorem tmR_from : ∀ {l : List Rc} {v : AV}, lk (tmR S tm l) t = some v → lk tm t = some v ∨ ∃ i q, At l i q ∧ S i = true ∧ q.v = v
  | [], v, h => .inl h
  | r :: rest, v, h => by
    have ih : lk (tmR S tm rest) t = some v → lk tm t = some v ∨ ∃ i q, At (r :: rest) i q ∧ S i = true ∧ q.v = v := fun h => by
      rcases tmR_from h with h | ⟨i, q, h1, h2⟩
      · exact .inl h
      · exact .inr ⟨i, q, .inr h1, h2⟩
    simp only [tmR] at h
    split at h
    · rename_i hs
      rw [lk_putT] at h
      split at h
      · injection h with h; exact .inr ⟨_, r, .inl ⟨rfl, rfl⟩, hs, h⟩
      · exact ih h
    · exact ih h
theorem hpR_from : ∀ {l : List Rc} {c : ABlk}, lk (hpR S hp l) j = some c → lk hp j = some c ∨ ∃ i q, At l i q ∧ S i = true ∧ lk q.nb j = some c
  | [], c, h => .inl h
  | r :: rest, c, h => by
    have ih : lk (hpR S hp rest) j = some c → lk hp j = some c ∨ ∃ i q, At (r :: rest) i q ∧ S i = true ∧ lk q.nb j = some c := fun h => by
      rcases hpR_from h with h | ⟨i, q, h1, h2⟩
      · exact .inl h
      · exact .inr ⟨i, q, .inr h1, h2⟩
    simp only [hpR] at h
    split at h
    · rename_i hs
      rw [lk_append] at h
      cases hd : lk r.nb j with
      | none => rw [hd] at h; exact ih h
      | some c' => rw [hd] at h; exact .inr ⟨_, r, .inl ⟨rfl, rfl⟩, hs, by rw [hd]; exact h⟩
    · exact ih h
end

/-- Operation number i at work on a part. -/
def RunAt (P : Program) (ops : Array Oper) (i : Nat) (o : Oper) (tm0 : List (Nat × AV)) (hp0 : List (Nat × ABlk)) (nt b : Nat) (v : AV) (nb : List (Nat × ABlk)) (b' : Nat) : Prop :=
  ∀ (E : Env) (R : Ren) (a : Act) (w : World) (n : Nat) (r : Option Nat) (Q : Exit → Act → World → Prop), b' ≤ GB → Fit E R ⟨tm0, hp0, b, nt, b⟩ a w →
    wpOpIn (FW r) n P ops Q i (fun a' w' => ∃ u R2, a' = a.put o.dst u ∧ Fit E R2 ⟨tm0, nb ++ hp0, b', nt, b⟩ a w' ∧ conV R2 v u ∧ v.lt b') a w

structure Fact (P : Program) (ops : Array Oper) (s0 : AS) (r : Rc) (rest : List Rc) : Prop where
  run : ∃ o tm0 hp0, ops[rest.length]? = some o ∧ r.dst = o.dst ∧ (∀ d, o.dst = some d → d < s0.nt) ∧
    (∀ t v, lk tm0 t = some v → lk (tmR (fun _ => true) s0.tm rest) t = some v ∧ t ∉ r.pe.dl) ∧
    (∀ i c, lk hp0 i = some c → lk (hpR (fun _ => true) s0.hp rest) i = some c ∧ ∀ k q, At rest k q → k ∈ r.pe.un → outside q.b q.b' i) ∧
    RunAt P ops rest.length o tm0 hp0 s0.nt r.b r.v r.nb r.b'
  b : r.b = nxR s0.nx rest
  bb : r.b ≤ r.b'
  nb : ∀ i c, lk r.nb i = some c → (r.b ≤ i ∧ i < r.b') ∧ c.wr = true
  av : ∀ k q, At rest k q → k ∈ r.pe.un → r.v.all (outside q.b q.b') ∧ ∀ i c, lk r.nb i = some c → c.all (outside q.b q.b')

def Good (P : Program) (ops : Array Oper) (s0 : AS) : List Rc → Prop
  | [] => True
  | r :: rest => Good P ops s0 rest ∧ Fact P ops s0 r rest

section
variable {P : Program} {ops : Array Oper} {s0 : AS}
theorem Good.suf : ∀ {pre l : List Rc}, Good P ops s0 (pre ++ l) → Good P ops s0 l
  | [], l, h => h
  | r :: pre, l, h => Good.suf (pre := pre) h.1
theorem Good.nx : ∀ {pre l : List Rc}, Good P ops s0 (pre ++ l) → nxR s0.nx l ≤ nxR s0.nx (pre ++ l)
  | [], l, h => Nat.le_refl _
  | r :: pre, l, h => by
    have h1 := Good.nx (pre := pre) h.1
    have h2 := h.2.b
    have h3 := h.2.bb
    show _ ≤ r.b'
    have h4 : nxR s0.nx (pre.append l) = nxR s0.nx (pre ++ l) := rfl
    omega
theorem Good.nx0 : ∀ {l : List Rc}, Good P ops s0 l → s0.nx ≤ nxR s0.nx l := fun {l} h => by
  have := Good.nx (pre := l) (l := []) (by simpa using h)
  simpa [nxR] using this
theorem Good.sep {l : List Rc} (h : Good P ops s0 l) {i k : Nat} {q p : Rc} (hq : At l i q) (hp : At l k p) (hik : i < k) : q.b' ≤ p.b := by
  obtain ⟨pre, rest, e, hl⟩ := hp.split
  subst e
  have hq' : At (pre ++ p :: rest) i q := hq
  have hq2 : At (p :: rest) i q := hq'.low (by simp; omega)
  rcases hq2 with ⟨h1, _⟩ | hq2
  · omega
  · have hg := (Good.suf h)
    obtain ⟨pre2, rest2, e2, hl2⟩ := hq2.split
    subst e2
    have := Good.nx hg.1
    rw [hg.2.b]
    exact this
theorem Good.le {l : List Rc} (h : Good P ops s0 l) {i : Nat} {q : Rc} (hq : At l i q) : s0.nx ≤ q.b ∧ q.b ≤ q.b' ∧ q.b' ≤ nxR s0.nx l := by
  obtain ⟨pre, rest, e, hl⟩ := hq.split
  subst e
  have hg := Good.suf h
  have h1 := Good.nx h
  have h2 := Good.nx0 hg.1
  have h3 := hg.2.b
  exact ⟨by omega, hg.2.bb, h1⟩
end

/-- What the plan says of the order. -/
structure Plan (ops : Array Oper) (Rs : List Rc) : Prop where
  un : ∀ i k p q, At Rs i p → At Rs k q → i < k → i ∉ q.pe.bf → (∀ d, q.dst = some d → d ∈ p.pe.dl) ∧ (∀ d, p.dst = some d → d ∈ q.pe.dl) ∧ i ∈ q.pe.un
  same : ∀ i k p q d, At Rs i p → At Rs k q → i < k → p.dst = some d → q.dst = some d → i ∈ q.pe.bf

def StR (s0 : AS) (Rs : List Rc) (S : Nat → Bool) : AS := ⟨tmR S s0.tm Rs, hpR S s0.hp Rs, nxR s0.nx Rs, s0.nt, s0.k0⟩

/-- Where the operations of S have come up. -/
def JJ (s0 : AS) (Rs : List Rc) (E : Env) (S : Nat → Bool) (a : Act) (w : World) : Prop :=
  ∃ R, Fit E R (StR s0 Rs S) a w ∧ (∀ t v, lk s0.tm t = some v → v.lt s0.nx) ∧ (∀ i c, lk s0.hp i = some c → idOk s0.nx i ∧ c.lt s0.nx) ∧ E.k ≤ s0.nx ∧
    ∀ i q, At Rs i q → S i = true → q.v.lt q.b' ∧ ∀ j c, lk q.nb j = some c → c.lt q.b'

theorem sched_step {P : Program} {ops : Array Oper} {s0 : AS} {Rs : List Rc} {E : Env} {S S' : Nat → Bool} {a : Act} {w : World} {n : Nat} {r : Option Nat} {Q : Exit → Act → World → Prop} {i : Nat} {p : Rc}
    (hG : Good P ops s0 Rs) (hP : Plan ops Rs) (hJ : JJ s0 Rs E S a w) (hdown : ∀ k q, At Rs k q → S k = true → ∀ j ∈ q.pe.bf, S j = true)
    (hp : At Rs i p) (hi : S i = false) (hbf : ∀ j ∈ p.pe.bf, S j = true) (hS : S' i = true ∧ ∀ k, k ≠ i → S' k = S k) :
    wpOpIn (FW r) n P ops Q i (fun a' w' => JJ s0 Rs E S' a' w') a w := by
  obtain ⟨R, F, htm, hhp, hk, hlt⟩ := hJ
  obtain ⟨pre, rest, e, hl⟩ := hp.split
  have hg := Good.suf (pre := pre) (l := p :: rest) (by rw [← e]; exact hG)
  obtain ⟨hgr, hF⟩ := hg
  obtain ⟨o, tm0, hp0, ho, hdst, hdn, htm0, hhp0, hrun⟩ := hF.run
  have hle := hG.le hp
  have hN : nxR s0.nx Rs ≤ GB := F.nk.2
  -- facts of the order
  have later : ∀ k q, At Rs k q → i < k → S k = true → i ∉ q.pe.bf := fun k q hq hik hs hb => by
    rw [hdown k q hq hs i hb] at hi; cases hi
  have inRest : ∀ k q, At rest k q → At Rs k q := fun k q hq => by rw [e]; exact At.app (.inr hq)
  have restLt : ∀ k q, At rest k q → k < i := fun k q hq => by have := hq.lt; omega
  have ofRs : ∀ k q, At Rs k q → k < i → At rest k q := fun k q hq hki => by
    rw [e] at hq
    rcases hq.low (by simp; omega) with ⟨h1, _⟩ | h
    · omega
    · exact h
  have undone : ∀ k q, At rest k q → S k = false → k ∉ p.pe.bf := fun k q hq hs hb => by rw [hbf k hb] at hs; cases hs
  have hb0 : p.b = nxR s0.nx rest := hF.b
  -- values of S are below
  have rlt : ∀ t v, lk (tmR S s0.tm rest) t = some v → v.lt p.b := fun t v h => by
    rcases tmR_from h with h | ⟨k, q, h1, h2, h3⟩
    · exact (htm t v h).mono hle.1
    · have := hG.sep (inRest k q h1) hp (restLt k q h1)
      rw [← h3]; exact (hlt k q (inRest k q h1) h2).1.mono this
  have hlt' : ∀ j c, lk (hpR S s0.hp rest) j = some c → idOk p.b j ∧ c.lt p.b := fun j c h => by
    rcases hpR_from h with h | ⟨k, q, h1, h2, h3⟩
    · exact ⟨(hhp j c h).1.mono hle.1, (hhp j c h).2.mono hle.1⟩
    · have h4 := hG.sep (inRest k q h1) hp (restLt k q h1)
      obtain ⟨pr, rs, e2, hl2⟩ := (inRest k q h1).split
      have h5 : Fact P ops s0 q rs := (Good.suf (pre := pr) (l := q :: rs) (by rw [← e2]; exact hG)).2
      exact ⟨.inl (Nat.lt_of_lt_of_le (h5.nb j c h3).1.2 h4), ((hlt k q (inRest k q h1) h2).2 j c h3).mono h4⟩
  have factOf : ∀ k q, At Rs k q → ∃ rs, rs.length = k ∧ Fact P ops s0 q rs ∧ ∀ j x, At Rs j x → j < k → At rs j x := fun k q hq => by
    obtain ⟨pr, rs, e2, hl2⟩ := hq.split
    refine ⟨rs, hl2, (Good.suf (pre := pr) (l := q :: rs) (by rw [← e2]; exact hG)).2, fun j x hx hj => ?_⟩
    rw [e2] at hx
    rcases hx.low (by simp; omega) with ⟨h1, _⟩ | h
    · omega
    · exact h
  have part : Part (StR s0 Rs S) tm0 hp0 p.b := by
    refine ⟨fun t v h => ?_, fun j c h => ?_⟩
    · obtain ⟨h1, h2⟩ := htm0 t v h
      have e1 : lk (tmR S s0.tm rest) t = some v := by
        rw [← h1]
        refine tmR_S fun k q hq hd => ?_
        cases hs : S k with
        | true => rfl
        | false => exact absurd ((hP.un k i q p (inRest k q hq) hp (restLt k q hq) (undone k q hq hs)).2.1 t hd) h2
      have e2 : lk (tmR S s0.tm Rs) t = lk (tmR S s0.tm rest) t := by
        rw [e, show pre ++ p :: rest = (pre ++ [p]) ++ rest by simp]
        refine tmR_pre fun k q hq hki hd => ?_
        rw [show (pre ++ [p]) ++ rest = Rs by rw [e]; simp] at hq
        cases hs : S k with
        | false => rfl
        | true =>
          have hne : k ≠ i := fun e => by subst e; rw [hi] at hs; cases hs
          exact absurd ((hP.un i k p q hp hq (by omega) (later k q hq (by omega) hs)).1 t hd) h2
      exact ⟨by show lk (tmR S s0.tm Rs) t = _; rw [e2]; exact e1, rlt t v e1⟩
    · obtain ⟨h1, h2⟩ := hhp0 j c h
      have e1 : lk (hpR S s0.hp rest) j = some c := by
        rw [← h1]
        refine hpR_S fun k q hq hd => ?_
        cases hs : S k with
        | true => rfl
        | false =>
          have h3 := h2 k q hq (hP.un k i q p (inRest k q hq) hp (restLt k q hq) (undone k q hq hs)).2.2
          obtain ⟨rs, _, hf, _⟩ := factOf k q (inRest k q hq)
          cases hq2 : lk q.nb j with
          | none => exact absurd hq2 hd
          | some c2 => have := (hf.nb j c2 hq2).1; unfold outside at h3; omega
      have hid := hlt' j c e1
      have e2 : lk (hpR S s0.hp Rs) j = lk (hpR S s0.hp rest) j := by
        rw [e, show pre ++ p :: rest = (pre ++ [p]) ++ rest by simp]
        refine hpR_pre fun k q hq hki hd => ?_
        rw [show (pre ++ [p]) ++ rest = Rs by rw [e]; simp] at hq
        obtain ⟨rs, _, hf, _⟩ := factOf k q hq
        cases hq2 : lk q.nb j with
        | none => exact absurd hq2 hd
        | some c2 =>
          exfalso
          have h6 := (hf.nb j c2 hq2).1
          have h7 : p.b ≤ q.b := by
            by_cases hki2 : k = i
            · subst hki2; rw [hq.uniq hp]; exact Nat.le_refl _
            · have := hG.sep hp hq (by omega); omega
          have h8 := (hG.le hq).2.2
          rcases hid.1 with h9 | h9 <;> omega
      exact ⟨by show lk (hpR S s0.hp Rs) j = _; rw [e2]; exact e1, hid⟩
  have hbG : p.b' ≤ GB := Nat.le_trans hle.2.2 hN
  have otm : ∀ t v, lk (StR s0 Rs S).tm t = some v → v.all (outside p.b p.b') := fun t v h => by
    have key : ∀ m, m ≤ p.b → ∀ i, idOk m i → outside p.b p.b' i := fun m hm i hi => by unfold idOk at hi; unfold outside; omega
    rcases tmR_from h with h | ⟨k, q, h1, h2, h3⟩
    · exact (AV.lt_all.1 (htm t v h)).mono (key _ hle.1)
    · subst h3
      by_cases hki : k < i
      · exact (AV.lt_all.1 (hlt k q h1 h2).1).mono (key _ (hG.sep h1 hp hki))
      · have hne : k ≠ i := fun e => by subst e; rw [hi] at h2; cases h2
        obtain ⟨rs, _, hf, hrs⟩ := factOf k q h1
        exact (hf.av i p (hrs i p hp (by omega)) (hP.un i k p q hp h1 (by omega) (later k q h1 (by omega) h2)).2.2).1
  have ohp : ∀ j c, lk (StR s0 Rs S).hp j = some c → outside p.b p.b' j ∧ c.all (outside p.b p.b') := fun j c h => by
    have key : ∀ m, m ≤ p.b → ∀ i, idOk m i → outside p.b p.b' i := fun m hm i hi => by unfold idOk at hi; unfold outside; omega
    rcases hpR_from h with h | ⟨k, q, h1, h2, h3⟩
    · exact ⟨key _ hle.1 j (hhp j c h).1, (ABlk.lt_all.1 (hhp j c h).2).mono (key _ hle.1)⟩
    · obtain ⟨rs, _, hf, hrs⟩ := factOf k q h1
      have h6 := (hf.nb j c h3).1
      by_cases hki : k < i
      · have h7 := hG.sep h1 hp hki
        exact ⟨by unfold outside; omega, (ABlk.lt_all.1 ((hlt k q h1 h2).2 j c h3)).mono (key _ h7)⟩
      · have hne : k ≠ i := fun e => by subst e; rw [hi] at h2; cases h2
        have h7 := hG.sep hp h1 (by omega)
        exact ⟨by unfold outside; omega, (hf.av i p (hrs i p hp (by omega)) (hP.un i k p q hp h1 (by omega) (later k q h1 (by omega) h2)).2.2).2 j c h3⟩
  have F1 := F.part part (Nat.le_trans hle.2.1 hbG)
  have hrun := hrun _ _ _ _ n r Q hbG F1
  rw [hl] at hrun
  refine wpOpIn_mono ?_ hrun
  rintro a' w' ⟨u, R2, rfl, F2, hcv, hvl⟩
  obtain ⟨G1, G2, G3, G4⟩ := F.framed part ⟨Nat.le_trans hk hle.1, hle.2.2⟩ F2 hcv hvl hF.nb otm ohp
  -- put
  have F3 : Fit E (mix R R2 p.b p.b') ⟨putT p.dst p.v (tmR S s0.tm Rs), p.nb ++ hpR S s0.hp Rs, nxR s0.nx Rs, s0.nt, s0.k0⟩ (a.put o.dst u) w' := by
    rw [hdst]
    cases hd : o.dst with
    | none => exact G1
    | some d => exact G1.put (hdn d hd) G2 G3
  refine ⟨_, ((F3.tm_sub (tm' := tmR S' s0.tm Rs) ?_).hp_sub (hp' := hpR S' s0.hp Rs) ?_), htm, hhp, hk, ?_⟩
  · intro t v h
    show lk (putT p.dst p.v (tmR S s0.tm Rs)) t = some v
    rw [lk_putT]
    split
    · rename_i hd
      rw [← h, e, tmR_pre (l := p :: rest)]
      · simp only [tmR, hl, hS.1, if_true, lk_putT, if_pos hd]
      · intro k q hq hki hd2
        rw [← e] at hq
        have hki' : i < k := by simp at hki; omega
        rw [hS.2 k (by omega)]
        cases hs : S k with
        | false => rfl
        | true => exact absurd (hP.same i k p q t hp hq hki' hd hd2) (later k q hq hki' hs)
    · rename_i hd
      rw [← h]
      refine tmR_S fun k q hq hd2 => ?_
      have hne : k ≠ i := fun e => by subst e; exact hd (by rw [hp.uniq hq]; exact hd2)
      exact (hS.2 k hne).symm
  · intro j c h
    show lk (p.nb ++ hpR S s0.hp Rs) j = some c
    have dj : ∀ k q, At Rs k q → k ≠ i → lk q.nb j ≠ none → lk p.nb j = none := fun k q hq hne hd => by
      cases h1 : lk p.nb j with
      | none => rfl
      | some c1 =>
        exfalso
        cases h2 : lk q.nb j with
        | none => exact hd h2
        | some c2 =>
          have h3 := (hF.nb j c1 h1).1
          obtain ⟨rs, _, hf, _⟩ := factOf k q hq
          have h4 := (hf.nb j c2 h2).1
          rcases Nat.lt_or_gt_of_ne hne with h5 | h5
          · have := hG.sep hq hp h5; omega
          · have := hG.sep hp hq h5; omega
    rw [lk_append]
    cases hd : lk p.nb j with
    | none =>
      show lk (hpR S s0.hp Rs) j = some c
      rw [← h]
      refine hpR_S fun k q hq hd2 => ?_
      have hne : k ≠ i := fun e => by subst e; rw [hp.uniq hq] at hd; exact hd2 hd
      exact (hS.2 k hne).symm
    | some c1 =>
      show some c1 = some c
      rw [← h, e, hpR_pre (l := p :: rest)]
      · simp only [hpR, hl, hS.1, if_true, lk_append, hd]; rfl
      · intro k q hq hki hd2
        rw [← e] at hq
        have hki' : i < k := by simp at hki; omega
        rw [dj k q hq (by omega) hd2] at hd; cases hd
  · intro k q hq hs
    by_cases hne : k = i
    · subst hne; rw [hq.uniq hp]; exact ⟨hvl, G4⟩
    · exact hlt k q hq (by rw [← hS.2 k hne]; exact hs)

end Go.AH
