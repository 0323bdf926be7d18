/-
  A region that draws its order: what its operations yield does not rest on the order.
-/
import Derived.Test.YtfphkpdobbffeaaDoorAh3
set_option linter.unusedSimpArgs false
set_option linter.unusedVariables false
namespace Go.AH
open Go.RowKit

/-- Of an operation: which ones come before it in every order; temporaries that ones without order to it write; earlier ones without order to it; blocks that it may turn; blocks that it doesn't look at. -/
structure PE where
  bf : List Nat
  dl : List Nat
  un : List Nat
  ws : List Nat
  hd : List Nat

structure Rc where
  dst : Option Nat
  v : AV
  nb : List (Nat × ABlk)
  b : Nat
  b' : Nat
  pe : PE

def putT (d : Option Nat) (v : AV) (tm : List (Nat × AV)) : List (Nat × AV) := match d with | some d => (d, v) :: tm | none => tm
def tmR (S : Nat → Bool) (tm : List (Nat × AV)) : List Rc → List (Nat × AV)
  | [] => tm
  | r :: rest => if S rest.length = true then putT r.dst r.v (tmR S tm rest) else tmR S tm rest
def hpR (S : Nat → Bool) (hp : List (Nat × ABlk)) : List Rc → List (Nat × ABlk)
  | [] => hp
  | r :: rest => if S rest.length = true then r.nb ++ hpR S hp rest else hpR S hp rest
def nxR (n0 : Nat) : List Rc → Nat
  | [] => n0
  | r :: _ => r.b'
def At : List Rc → Nat → Rc → Prop
  | [], _, _ => False
  | r :: rest, i, q => (i = rest.length ∧ q = r) ∨ At rest i q

theorem At.lt : ∀ {l : List Rc} {i : Nat} {q : Rc}, At l i q → i < l.length
  | r :: rest, i, q, h => by
    rcases h with ⟨h, _⟩ | h
    · simp [h]
    · have := At.lt h; simp; omega
theorem At.split : ∀ {l : List Rc} {i : Nat} {q : Rc}, At l i q → ∃ pre rest, l = pre ++ q :: rest ∧ rest.length = i
  | r :: rest, i, q, h => by
    rcases h with ⟨h, e⟩ | h
    · exact ⟨[], rest, by simp [e], h.symm⟩
    · obtain ⟨pre, r2, e1, e2⟩ := At.split h
      exact ⟨r :: pre, r2, by simp [e1], e2⟩
theorem At.uniq : ∀ {l : List Rc} {i : Nat} {q p : Rc}, At l i q → At l i p → q = p
  | r :: rest, i, q, p, h, g => by
    rcases h with ⟨h, e⟩ | h <;> rcases g with ⟨g, f⟩ | g
    · rw [e, f]
    · have := At.lt g; omega
    · have := At.lt h; omega
    · exact At.uniq h g
theorem At.of_lt : ∀ {l : List Rc} {i : Nat}, i < l.length → ∃ q, At l i q
  | [], i, h => absurd h (by simp)
  | r :: rest, i, h => by
    by_cases e : i = rest.length
    · exact ⟨r, .inl ⟨e, rfl⟩⟩
    · obtain ⟨q, hq⟩ := At.of_lt (l := rest) (i := i) (by simp at h; omega)
      exact ⟨q, .inr hq⟩
theorem At.app {pre l : List Rc} {i : Nat} {q : Rc} (h : At l i q) : At (pre ++ l) i q := by
  induction pre with
  | nil => exact h
  | cons r pre ih => exact .inr ih
theorem At.low {pre l : List Rc} {i : Nat} {q : Rc} (h : At (pre ++ l) i q) (hi : i < l.length) : At l i q := by
  induction pre with
  | nil => exact h
  | cons r pre ih =>
    rcases h with ⟨h, e⟩ | h
    · simp at h; omega
    · exact ih h

section
variable {S S' : Nat → Bool} {tm : List (Nat × AV)} {hp : List (Nat × ABlk)} {t j : Nat}

theorem lk_putT (d : Option Nat) (v : AV) (tm : List (Nat × AV)) (t : Nat) : lk (putT d v tm) t = if d = some t then some v else lk tm t := by
  cases d with
  | none => simp [putT]
  | some d => simp [putT, lk]

theorem tmR_S : ∀ {l : List Rc}, (∀ i q, At l i q → q.dst = some t → S i = S' i) → lk (tmR S tm l) t = lk (tmR S' tm l) t
  | [], h => rfl
  | r :: rest, h => by
    have ih : lk (tmR S tm rest) t = lk (tmR S' tm rest) t := tmR_S fun i q hq => h i q (.inr hq)
    simp only [tmR]
    by_cases hd : r.dst = some t
    · rw [h rest.length r (.inl ⟨rfl, rfl⟩) hd]
      split
      · rw [lk_putT, lk_putT, if_pos hd, if_pos hd]
      · exact ih
    · have : ∀ (b : Prop) [Decidable b] (x : List (Nat × AV)), lk (if b then putT r.dst r.v x else x) t = lk x t := fun b _ x => by
        split
        · rw [lk_putT, if_neg hd]
        · rfl
      rw [this, this]; exact ih
theorem tmR_pre : ∀ {pre l : List Rc}, (∀ i q, At (pre ++ l) i q → l.length ≤ i → q.dst = some t → S i = false) → lk (tmR S tm (pre ++ l)) t = lk (tmR S tm l) t
  | [], l, h => rfl
  | r :: pre, l, h => by
    have ih : lk (tmR S tm (pre ++ l)) t = lk (tmR S tm l) t := tmR_pre fun i q hq => h i q (.inr hq)
    simp only [List.cons_append, tmR]
    split
    · rename_i hs
      rw [lk_putT, if_neg]
      · exact ih
      · intro hd
        have := h (pre ++ l).length r (.inl ⟨rfl, rfl⟩) (by simp) hd
        rw [this] at hs; cases hs
    · exact ih
theorem hpR_S : ∀ {l : List Rc}, (∀ i q, At l i q → lk q.nb j ≠ none → S i = S' i) → lk (hpR S hp l) j = lk (hpR S' hp l) j
  | [], h => rfl
  | r :: rest, h => by
    have ih : lk (hpR S hp rest) j = lk (hpR S' hp rest) j := hpR_S fun i q hq => h i q (.inr hq)
    simp only [hpR]
    by_cases hd : lk r.nb j = none
    · have : ∀ (b : Prop) [Decidable b] (x : List (Nat × ABlk)), lk (if b then r.nb ++ x else x) j = lk x j := fun b _ x => by
        split
        · rw [lk_append, hd]; rfl
        · rfl
      rw [this, this]; exact ih
    · rw [h rest.length r (.inl ⟨rfl, rfl⟩) hd]
      split
      · rw [lk_append, lk_append, ih]
      · exact ih
theorem hpR_pre : ∀ {pre l : List Rc}, (∀ i q, At (pre ++ l) i q → l.length ≤ i → lk q.nb j ≠ none → S i = false) → lk (hpR S hp (pre ++ l)) j = lk (hpR S hp l) j
  | [], l, h => rfl
  | r :: pre, l, h => by
    have ih : lk (hpR S hp (pre ++ l)) j = lk (hpR S hp l) j := hpR_pre fun i q hq => h i q (.inr hq)
    simp only [List.cons_append, hpR]
    split
    · rename_i hs
      rw [lk_append]
      cases hd : lk r.nb j with
      | none => exact ih
      | some c =>
        have := h (pre ++ l).length r (.inl ⟨rfl, rfl⟩) (by simp) (by simp [hd])
        rw [this] at hs; cases hs
    · exact ih
theorem tmR_from : ∀ {l : List Rc} {v : AV}, lk (tmR S tm l) t = some v → lk tm t = some v ∨ ∃ i q, At l i q ∧ S i = true ∧ q.v = v
  | [], v, h => .inl h
  | r :: rest, v, h => by
    have ih : lk (tmR S tm rest) t = some v → lk tm t = some v ∨ ∃ i q, At (r :: rest) i q ∧ S i = true ∧ q.v = v := fun h => by
      rcases tmR_from h with h | ⟨i, q, h1, h2⟩
      · exact .inl h
      · exact .inr ⟨i, q, .inr h1, h2⟩
    simp only [tmR] at h
    split at h
    · rename_i hs
      rw [lk_putT] at h
      split at h
      · injection h with h; exact .inr ⟨_, r, .inl ⟨rfl, rfl⟩, hs, h⟩
      · exact ih h
    · exact ih h
theorem hpR_from : ∀ {l : List Rc} {c : ABlk}, lk (hpR S hp l) j = some c → lk hp j = some c ∨ ∃ i q, At l i q ∧ S i = true ∧ lk q.nb j = some c
  | [], c, h => .inl h
  | r :: rest, c, h => by
    have ih : lk (hpR S hp rest) j = some c → lk hp j = some c ∨ ∃ i q, At (r :: rest) i q ∧ S i = true ∧ lk q.nb j = some c := fun h => by
      rcases hpR_from h with h | ⟨i, q, h1, h2⟩
      · exact .inl h
      · exact .inr ⟨i, q, .inr h1, h2⟩
    simp only [hpR] at h
    split at h
    · rename_i hs
      rw [lk_append] at h
      cases hd : lk r.nb j with
      | none => rw [hd] at h; exact ih h
      | some c' => rw [hd] at h; exact .inr ⟨_, r, .inl ⟨rfl, rfl⟩, hs, by rw [hd]; exact h⟩
    · exact ih h
end

/-- Operation number i at work on a part. -/
def RunAt (P : Program) (ops : Array Oper) (i : Nat) (o : Oper) (tm0 : List (Nat × AV)) (hp0 : List (Nat × ABlk)) (nt b : Nat) (v : AV) (nb : List (Nat × ABlk)) (b' : Nat) : Prop :=
  ∀ (E : Env) (R : Ren) (a : Act) (w : World) (n : Nat) (r : Option Nat) (Q : Exit → Act → World → Prop), b' ≤ GB → Fit E R ⟨tm0, hp0, b, nt, b⟩ a w →
    wpOpIn (FW r) n P ops Q i (fun a' w' => ∃ u R2, a' = a.put o.dst u ∧ Fit E R2 ⟨tm0, nb ++ hp0, b', nt, b⟩ a w' ∧ conV R2 v u ∧ v.lt b') a w

structure Fact (P : Program) (ops : Array Oper) (s0 : AS) (r : Rc) (rest : List Rc) : Prop where
  run : ∃ o tm0 hp0, ops[rest.length]? = some o ∧ r.dst = o.dst ∧ (∀ d, o.dst = some d → d < s0.nt) ∧
    (∀ t v, lk tm0 t = some v → lk (tmR (fun _ => true) s0.tm rest) t = some v ∧ t ∉ r.pe.dl) ∧
    (∀ i c, lk hp0 i = some c → lk (hpR (fun _ => true) s0.hp rest) i = some c ∧ (∀ k q, At rest k q → k ∈ r.pe.un → outside q.b q.b' i) ∧ i ∉ r.pe.hd) ∧
    (∀ i c, lk r.nb i = some c → NbOk hp0 r.b r.b' i) ∧ RunAt P ops rest.length o tm0 hp0 s0.nt r.b r.v r.nb r.b'
  b : r.b = nxR s0.nx rest
  bb : r.b ≤ r.b'
  nb : ∀ i c, lk r.nb i = some c → ((r.b ≤ i ∧ i < r.b') ∨ i ∈ r.pe.ws) ∧ c.wr = true
  av : ∀ k q, At rest k q → k ∈ r.pe.un → r.v.all (outside q.b q.b') ∧ ∀ i c, lk r.nb i = some c → c.all (outside q.b q.b')

def Good (P : Program) (ops : Array Oper) (s0 : AS) : List Rc → Prop
  | [] => True
  | r :: rest => Good P ops s0 rest ∧ Fact P ops s0 r rest

section
variable {P : Program} {ops : Array Oper} {s0 : AS}
theorem Good.suf : ∀ {pre l : List Rc}, Good P ops s0 (pre ++ l) → Good P ops s0 l
  | [], l, h => h
  | r :: pre, l, h => Good.suf (pre := pre) h.1
theorem Good.nx : ∀ {pre l : List Rc}, Good P ops s0 (pre ++ l) → nxR s0.nx l ≤ nxR s0.nx (pre ++ l)
  | [], l, h => Nat.le_refl _
  | r :: pre, l, h => by
    have h1 := Good.nx (pre := pre) h.1
    have h2 := h.2.b
    have h3 := h.2.bb
    show _ ≤ r.b'
    have h4 : nxR s0.nx (pre.append l) = nxR s0.nx (pre ++ l) := rfl
    omega
theorem Good.nx0 : ∀ {l : List Rc}, Good P ops s0 l → s0.nx ≤ nxR s0.nx l := fun {l} h => by
  have := Good.nx (pre := l) (l := []) (by simpa using h)
  simpa [nxR] using this
theorem Good.sep {l : List Rc} (h : Good P ops s0 l) {i k : Nat} {q p : Rc} (hq : At l i q) (hp : At l k p) (hik : i < k) : q.b' ≤ p.b := by
  obtain ⟨pre, rest, e, hl⟩ := hp.split
  subst e
  have hq' : At (pre ++ p :: rest) i q := hq
  have hq2 : At (p :: rest) i q := hq'.low (by simp; omega)
  rcases hq2 with ⟨h1, _⟩ | hq2
  · omega
  · have hg := (Good.suf h)
    obtain ⟨pre2, rest2, e2, hl2⟩ := hq2.split
    subst e2
    have := Good.nx hg.1
    rw [hg.2.b]
    exact this
theorem Good.le {l : List Rc} (h : Good P ops s0 l) {i : Nat} {q : Rc} (hq : At l i q) : s0.nx ≤ q.b ∧ q.b ≤ q.b' ∧ q.b' ≤ nxR s0.nx l := by
  obtain ⟨pre, rest, e, hl⟩ := hq.split
  subst e
  have hg := Good.suf h
  have h1 := Good.nx h
  have h2 := Good.nx0 hg.1
  have h3 := hg.2.b
  exact ⟨by omega, hg.2.bb, h1⟩
end

theorem Good.ids {P : Program} {ops : Array Oper} {s0 : AS} : ∀ {l : List Rc}, Good P ops s0 l → (∀ i c, lk s0.hp i = some c → idOk s0.nx i) → ∀ j c, lk (hpR (fun _ => true) s0.hp l) j = some c → idOk (nxR s0.nx l) j
  | [], _, hh, j, c, hj => hh j c hj
  | r :: rest, h, hh, j, c, hj => by
    have ih := Good.ids h.1 hh
    have hb : nxR s0.nx rest ≤ r.b' := h.2.b ▸ h.2.bb
    simp only [hpR, if_true] at hj
    rw [lk_append] at hj
    cases hn : lk r.nb j with
    | none => rw [hn] at hj; exact (ih j c hj).mono hb
    | some d =>
      obtain ⟨o, tm0, hp0, _, _, _, _, hv, hnb, _⟩ := h.2.run
      rcases hnb j d hn with h1 | ⟨c0, h1, _⟩
      · exact .inl h1.2
      · exact (ih j c0 (hv j c0 h1).1).mono hb
theorem Fact.two {P : Program} {ops : Array Oper} {s0 : AS} {r : Rc} {rest : List Rc} (hf : Fact P ops s0 r rest) (hg : Good P ops s0 rest) (hh : ∀ i c, lk s0.hp i = some c → idOk s0.nx i) {j : Nat} {c : ABlk} (hn : lk r.nb j = some c) :
    (r.b ≤ j ∧ j < r.b') ∨ (idOk r.b j ∧ j ∈ r.pe.ws ∧ j ∉ r.pe.hd ∧ ∀ k q, At rest k q → k ∈ r.pe.un → outside q.b q.b' j) := by
  rcases (hf.nb j c hn).1 with h1 | h1
  · exact .inl h1
  · obtain ⟨o, tm0, hp0, _, _, _, _, hv, hnb, _⟩ := hf.run
    rcases hnb j c hn with h2 | ⟨c0, h2, _⟩
    · exact .inl h2
    · obtain ⟨h3, h4, h5⟩ := hv j c0 h2
      have := Good.ids hg hh j c0 h3
      rw [← hf.b] at this
      exact .inr ⟨this, h1, h5, h4⟩

/-- What the plan says of the order. -/
structure Plan (ops : Array Oper) (Rs : List Rc) : Prop where
  un : ∀ i k p q, At Rs i p → At Rs k q → i < k → i ∉ q.pe.bf → (∀ d, q.dst = some d → d ∈ p.pe.dl) ∧ (∀ d, p.dst = some d → d ∈ q.pe.dl) ∧ i ∈ q.pe.un ∧ (∀ x ∈ p.pe.ws, x ∈ q.pe.hd) ∧ ∀ x ∈ q.pe.ws, x ∈ p.pe.hd
  same : ∀ i k p q d, At Rs i p → At Rs k q → i < k → p.dst = some d → q.dst = some d → i ∈ q.pe.bf

def StR (s0 : AS) (Rs : List Rc) (S : Nat → Bool) : AS := ⟨tmR S s0.tm Rs, hpR S s0.hp Rs, nxR s0.nx Rs, s0.nt, s0.k0⟩

/-- Where the operations of S have come up. -/
def JJ (s0 : AS) (Rs : List Rc) (E : Env) (S : Nat → Bool) (a : Act) (w : World) : Prop :=
  ∃ R, Fit E R (StR s0 Rs S) a w ∧ (∀ t v, lk s0.tm t = some v → v.lt s0.nx) ∧ (∀ i c, lk s0.hp i = some c → idOk s0.nx i ∧ c.lt s0.nx) ∧ E.k ≤ s0.nx ∧
    ∀ i q, At Rs i q → S i = true → q.v.lt q.b' ∧ ∀ j c, lk q.nb j = some c → c.lt q.b'

theorem sched_step {P : Program} {ops : Array Oper} {s0 : AS} {Rs : List Rc} {E : Env} {S S' : Nat → Bool} {a : Act} {w : World} {n : Nat} {r : Option Nat} {Q : Exit → Act → World → Prop} {i : Nat} {p : Rc}
    (hG : Good P ops s0 Rs) (hP : Plan ops Rs) (hJ : JJ s0 Rs E S a w) (hdown : ∀ k q, At Rs k q → S k = true → ∀ j ∈ q.pe.bf, S j = true)
    (hp : At Rs i p) (hi : S i = false) (hbf : ∀ j ∈ p.pe.bf, S j = true) (hS : S' i = true ∧ ∀ k, k ≠ i → S' k = S k) :
    wpOpIn (FW r) n P ops Q i (fun a' w' => JJ s0 Rs E S' a' w') a w := by
  obtain ⟨R, F, htm, hhp, hk, hlt⟩ := hJ
  obtain ⟨pre, rest, e, hl⟩ := hp.split
  have hg := Good.suf (pre := pre) (l := p :: rest) (by rw [← e]; exact hG)
  obtain ⟨hgr, hF⟩ := hg
  obtain ⟨o, tm0, hp0, ho, hdst, hdn, htm0, hhp0, hnb0, hrun⟩ := hF.run
  have hle := hG.le hp
  have hN : nxR s0.nx Rs ≤ GB := F.nk.2
  -- facts of the order
  have later : ∀ k q, At Rs k q → i < k → S k = true → i ∉ q.pe.bf := fun k q hq hik hs hb => by
    rw [hdown k q hq hs i hb] at hi; cases hi
  have inRest : ∀ k q, At rest k q → At Rs k q := fun k q hq => by rw [e]; exact At.app (.inr hq)
  have restLt : ∀ k q, At rest k q → k < i := fun k q hq => by have := hq.lt; omega
  have ofRs : ∀ k q, At Rs k q → k < i → At rest k q := fun k q hq hki => by
    rw [e] at hq
    rcases hq.low (by simp; omega) with ⟨h1, _⟩ | h
    · omega
    · exact h
  have undone : ∀ k q, At rest k q → S k = false → k ∉ p.pe.bf := fun k q hq hs hb => by rw [hbf k hb] at hs; cases hs
  have hb0 : p.b = nxR s0.nx rest := hF.b
  -- values of S are below
  have rlt : ∀ t v, lk (tmR S s0.tm rest) t = some v → v.lt p.b := fun t v h => by
    rcases tmR_from h with h | ⟨k, q, h1, h2, h3⟩
    · exact (htm t v h).mono hle.1
    · have := hG.sep (inRest k q h1) hp (restLt k q h1)
      rw [← h3]; exact (hlt k q (inRest k q h1) h2).1.mono this
  have hh0 : ∀ i c, lk s0.hp i = some c → idOk s0.nx i := fun i c h => (hhp i c h).1
  have hlt' : ∀ j c, lk (hpR S s0.hp rest) j = some c → idOk p.b j ∧ c.lt p.b := fun j c h => by
    rcases hpR_from h with h | ⟨k, q, h1, h2, h3⟩
    · exact ⟨(hhp j c h).1.mono hle.1, (hhp j c h).2.mono hle.1⟩
    · have h4 := hG.sep (inRest k q h1) hp (restLt k q h1)
      obtain ⟨pr, rs, e2, hl2⟩ := (inRest k q h1).split
      have h5 := Good.suf (pre := pr) (l := q :: rs) (by rw [← e2]; exact hG)
      refine ⟨?_, ((hlt k q (inRest k q h1) h2).2 j c h3).mono h4⟩
      rcases h5.2.two h5.1 hh0 h3 with h6 | h6
      · exact .inl (Nat.lt_of_lt_of_le h6.2 h4)
      · exact h6.1.mono (Nat.le_trans (hG.le (inRest k q h1)).2.1 h4)
  have factOf : ∀ k q, At Rs k q → ∃ rs, rs.length = k ∧ (Fact P ops s0 q rs ∧ ∀ j c, lk q.nb j = some c → (q.b ≤ j ∧ j < q.b') ∨ (idOk q.b j ∧ j ∈ q.pe.ws ∧ j ∉ q.pe.hd ∧ ∀ k' q', At rs k' q' → k' ∈ q.pe.un → outside q'.b q'.b' j)) ∧ ∀ j x, At Rs j x → j < k → At rs j x := fun k q hq => by
    obtain ⟨pr, rs, e2, hl2⟩ := hq.split
    have h5 := Good.suf (pre := pr) (l := q :: rs) (by rw [← e2]; exact hG)
    refine ⟨rs, hl2, ⟨h5.2, fun j c h => h5.2.two h5.1 hh0 h⟩, fun j x hx hj => ?_⟩
    rw [e2] at hx
    rcases hx.low (by simp; omega) with ⟨h1, _⟩ | h
    · omega
    · exact h
  have part : Part (StR s0 Rs S) tm0 hp0 p.b := by
    refine ⟨fun t v h => ?_, fun j c h => ?_⟩
    · obtain ⟨h1, h2⟩ := htm0 t v h
      have e1 : lk (tmR S s0.tm rest) t = some v := by
        rw [← h1]
        refine tmR_S fun k q hq hd => ?_
        cases hs : S k with
        | true => rfl
        | false => exact absurd ((hP.un k i q p (inRest k q hq) hp (restLt k q hq) (undone k q hq hs)).2.1 t hd) h2
      have e2 : lk (tmR S s0.tm Rs) t = lk (tmR S s0.tm rest) t := by
        rw [e, show pre ++ p :: rest = (pre ++ [p]) ++ rest by simp]
        refine tmR_pre fun k q hq hki hd => ?_
        rw [show (pre ++ [p]) ++ rest = Rs by rw [e]; simp] at hq
        cases hs : S k with
        | false => rfl
        | true =>
          have hne : k ≠ i := fun e => by subst e; rw [hi] at hs; cases hs
          exact absurd ((hP.un i k p q hp hq (by omega) (later k q hq (by omega) hs)).1 t hd) h2
      exact ⟨by show lk (tmR S s0.tm Rs) t = _; rw [e2]; exact e1, rlt t v e1⟩
    · obtain ⟨h1, h2, hhd⟩ := hhp0 j c h
      have e1 : lk (hpR S s0.hp rest) j = some c := by
        rw [← h1]
        refine hpR_S fun k q hq hd => ?_
        cases hs : S k with
        | true => rfl
        | false =>
          have hun := (hP.un k i q p (inRest k q hq) hp (restLt k q hq) (undone k q hq hs)).2.2
          have h3 := h2 k q hq hun.1
          obtain ⟨rs, _, ⟨hf, hf2⟩, _⟩ := factOf k q (inRest k q hq)
          cases hq2 : lk q.nb j with
          | none => exact absurd hq2 hd
          | some c2 =>
            rcases hf2 j c2 hq2 with h4 | h4
            · unfold outside at h3; omega
            · exact absurd (hun.2.1 j h4.2.1) hhd
      have hid := hlt' j c e1
      have e2 : lk (hpR S s0.hp Rs) j = lk (hpR S s0.hp rest) j := by
        rw [e, show pre ++ p :: rest = (pre ++ [p]) ++ rest by simp]
        refine hpR_pre fun k q hq hki hd => ?_
        rw [show (pre ++ [p]) ++ rest = Rs by rw [e]; simp] at hq
        obtain ⟨rs, _, ⟨hf, hf2⟩, _⟩ := factOf k q hq
        cases hs : S k with
        | false => rfl
        | true =>
        have hne : k ≠ i := fun e => by subst e; rw [hi] at hs; cases hs
        cases hq2 : lk q.nb j with
        | none => exact absurd hq2 hd
        | some c2 =>
          exfalso
          have h7 : p.b ≤ q.b := by have := hG.sep hp hq (by omega); omega
          have h8 := (hG.le hq).2.2
          rcases hf2 j c2 hq2 with h6 | h6
          · rcases hid.1 with h9 | h9 <;> omega
          · exact hhd ((hP.un i k p q hp hq (by omega) (later k q hq (by omega) hs)).2.2.2.2 j h6.2.1)
      exact ⟨by show lk (hpR S s0.hp Rs) j = _; rw [e2]; exact e1, hid⟩
  have hbG : p.b' ≤ GB := Nat.le_trans hle.2.2 hN
  have otm : ∀ t v, lk (StR s0 Rs S).tm t = some v → v.all (outside p.b p.b') := fun t v h => by
    have key : ∀ m, m ≤ p.b → ∀ i, idOk m i → outside p.b p.b' i := fun m hm i hi => by unfold idOk at hi; unfold outside; omega
    rcases tmR_from h with h | ⟨k, q, h1, h2, h3⟩
    · exact (AV.lt_all.1 (htm t v h)).mono (key _ hle.1)
    · subst h3
      by_cases hki : k < i
      · exact (AV.lt_all.1 (hlt k q h1 h2).1).mono (key _ (hG.sep h1 hp hki))
      · have hne : k ≠ i := fun e => by subst e; rw [hi] at h2; cases h2
        obtain ⟨rs, _, ⟨hf, _⟩, hrs⟩ := factOf k q h1
        exact (hf.av i p (hrs i p hp (by omega)) (hP.un i k p q hp h1 (by omega) (later k q h1 (by omega) h2)).2.2.1).1
  have ohp : ∀ j c, lk (StR s0 Rs S).hp j = some c → outside p.b p.b' j ∧ c.all (outside p.b p.b') := fun j c h => by
    have key : ∀ m, m ≤ p.b → ∀ i, idOk m i → outside p.b p.b' i := fun m hm i hi => by unfold idOk at hi; unfold outside; omega
    rcases hpR_from h with h | ⟨k, q, h1, h2, h3⟩
    · exact ⟨key _ hle.1 j (hhp j c h).1, (ABlk.lt_all.1 (hhp j c h).2).mono (key _ hle.1)⟩
    · obtain ⟨rs, _, ⟨hf, hf2⟩, hrs⟩ := factOf k q h1
      have h6 := hf2 j c h3
      by_cases hki : k < i
      · have h7 := hG.sep h1 hp hki
        refine ⟨?_, (ABlk.lt_all.1 ((hlt k q h1 h2).2 j c h3)).mono (key _ h7)⟩
        rcases h6 with h6 | h6
        · unfold outside; omega
        · exact key _ (Nat.le_trans (hG.le h1).2.1 h7) j h6.1
      · have hne : k ≠ i := fun e => by subst e; rw [hi] at h2; cases h2
        have h7 := hG.sep hp h1 (by omega)
        have hun := (hP.un i k p q hp h1 (by omega) (later k q h1 (by omega) h2)).2.2.1
        refine ⟨?_, (hf.av i p (hrs i p hp (by omega)) hun).2 j c h3⟩
        rcases h6 with h6 | h6
        · unfold outside; omega
        · exact h6.2.2.2 i p (hrs i p hp (by omega)) hun
  have F1 := F.part part (Nat.le_trans hle.2.1 hbG)
  have hrun := hrun _ _ _ _ n r Q hbG F1
  rw [hl] at hrun
  refine wpOpIn_mono ?_ hrun
  rintro a' w' ⟨u, R2, rfl, F2, hcv, hvl⟩
  obtain ⟨G1, G2, G3, G4⟩ := F.framed part ⟨Nat.le_trans hk hle.1, hle.2.2⟩ F2 hcv hvl (fun j c h => ⟨hnb0 j c h, (hF.nb j c h).2⟩) otm ohp
  -- put
  have F3 : Fit E (mix R R2 p.b p.b') ⟨putT p.dst p.v (tmR S s0.tm Rs), p.nb ++ hpR S s0.hp Rs, nxR s0.nx Rs, s0.nt, s0.k0⟩ (a.put o.dst u) w' := by
    rw [hdst]
    cases hd : o.dst with
    | none => exact G1
    | some d => exact G1.put (hdn d hd) G2 G3
  refine ⟨_, ((F3.tm_sub (tm' := tmR S' s0.tm Rs) ?_).hp_sub (hp' := hpR S' s0.hp Rs) ?_), htm, hhp, hk, ?_⟩
  · intro t v h
    show lk (putT p.dst p.v (tmR S s0.tm Rs)) t = some v
    rw [lk_putT]
    split
    · rename_i hd
      rw [← h, e, tmR_pre (l := p :: rest)]
      · simp only [tmR, hl, hS.1, if_true, lk_putT, if_pos hd]
      · intro k q hq hki hd2
        rw [← e] at hq
        have hki' : i < k := by simp at hki; omega
        rw [hS.2 k (by omega)]
        cases hs : S k with
        | false => rfl
        | true => exact absurd (hP.same i k p q t hp hq hki' hd hd2) (later k q hq hki' hs)
    · rename_i hd
      rw [← h]
      refine tmR_S fun k q hq hd2 => ?_
      have hne : k ≠ i := fun e => by subst e; exact hd (by rw [hp.uniq hq]; exact hd2)
      exact (hS.2 k hne).symm
  · intro j c h
    show lk (p.nb ++ hpR S s0.hp Rs) j = some c
    rw [lk_append]
    cases hd : lk p.nb j with
    | none =>
      show lk (hpR S s0.hp Rs) j = some c
      rw [← h]
      refine hpR_S fun k q hq hd2 => ?_
      have hne : k ≠ i := fun e => by subst e; rw [hp.uniq hq] at hd; exact hd2 hd
      exact (hS.2 k hne).symm
    | some c1 =>
      show some c1 = some c
      rw [← h, e, hpR_pre (l := p :: rest)]
      · simp only [hpR, hl, hS.1, if_true, lk_append, hd]; rfl
      · intro k q hq hki hd2
        rw [← e] at hq
        have hki' : i < k := by simp at hki; omega
        rw [hS.2 k (by omega)]
        cases hs : S k with
        | false => rfl
        | true =>
          exfalso
          have hun := (hP.un i k p q hp hq hki' (later k q hq hki' hs)).2.2
          obtain ⟨rs, _, ⟨hf, hf2⟩, hrs⟩ := factOf k q hq
          obtain ⟨rs', hrl, ⟨hf', hf2'⟩, _⟩ := factOf i p hp
          have h7 := hG.sep hp hq hki'
          have h8 := (hG.le hq).2.2
          cases hq2 : lk q.nb j with
          | none => exact hd2 hq2
          | some c2 =>
            rcases hf2 j c2 hq2 with h6 | h6 <;> rcases hf2' j c1 hd with h5 | h5
            · omega
            · have := h5.1; unfold idOk at this; have := hle.2.1; omega
            · have := h6.2.2.2 i p (hrs i p hp hki') hun.1; unfold outside at this; omega
            · exact h5.2.2.1 (hun.2.2 j h6.2.1)
  · intro k q hq hs
    by_cases hne : k = i
    · subst hne; rw [hq.uniq hp]; exact ⟨hvl, G4⟩
    · exact hlt k q hq (by rw [← hS.2 k hne]; exact hs)

end Go.AH

/-
  A region that draws its order, walked once.
-/
namespace Go.AH
open Go.RowKit

/-! ### Calls that leave what they are handed alone -/
structure CallQOk (P : Program) (f : FuncId) (vs : List AV) (s : AS) (args : List AV) (hp0 : List (Nat × ABlk)) (l : List Nat) (r : AV) (hp1 : List (Nat × ABlk)) (k1 : Nat) (nb : List (Nat × ABlk)) : Prop where
  spec : FSpec P f args hp0 l.length (fun r' hp' k' => r' = r ∧ hp' = hp1 ∧ k' = k1)
  old : ∀ i ∈ l, idOk s.nx i
  args : args.map (AV.ren (qq l s.nx)) = vs
  heap : ∀ i b, lk hp0 i = some b → (i < l.length ∨ GB ≤ i) ∧ ∃ b', lk s.hp (qq l s.nx i) = some b' ∧ Gives b' (b.ren (qq l s.nx))
  inj : ∀ i j b c, lk hp0 i = some b → lk hp0 j = some c → i ≠ j → b.wr = true → qq l s.nx i ≠ qq l s.nx j
  nd : (hp1.map Prod.fst).Nodup
  same : ∀ i b, lk hp0 i = some b → b.wr = true → lk hp1 i = some b ∨ ∃ c, lk nb i = some c
  new : ∀ i b, lk nb i = some b → ((l.length ≤ i ∧ i < k1) ∨ ∃ c0, lk hp0 i = some c0 ∧ c0.wr = true) ∧ b.wr = true ∧ lk hp1 i = some b
  le : l.length ≤ k1 ∧ k1 ≤ GB
  nd0 : (hp0.map Prod.fst).Nodup
  hk1 : ∀ p ∈ hp1, p.1 < k1 ∨ GB ≤ p.1
  oldin : ∀ p ∈ hp1, p.2.wr = true → p.1 < l.length ∨ GB ≤ p.1 → ∃ c0, lk hp0 p.1 = some c0 ∧ c0.wr = true
  room : s.nx + (k1 - l.length) ≤ GB

def CallQ (P : Program) (f : FuncId) (vs : List AV) (s : AS) (k : AV → List (Nat × ABlk) → Nat → Prop) : Prop :=
  ∃ args hp0 l r hp1 k1 nb, CallQOk P f vs s args hp0 l r hp1 k1 nb ∧ k (r.ren (qq l s.nx)) (nb.map fun p => (qq l s.nx p.1, p.2.ren (qq l s.nx))) (s.nx + (k1 - l.length))
theorem callQ_intro {P : Program} {f : FuncId} {vs : List AV} {s : AS} {k : AV → List (Nat × ABlk) → Nat → Prop} (args : List AV) (hp0 : List (Nat × ABlk)) (l : List Nat) (r : AV) (hp1 : List (Nat × ABlk)) (k1 : Nat) (nb : List (Nat × ABlk)) (h : CallQOk P f vs s args hp0 l r hp1 k1 nb)
    (hk : k (r.ren (qq l s.nx)) (nb.map fun p => (qq l s.nx p.1, p.2.ren (qq l s.nx))) (s.nx + (k1 - l.length))) : CallQ P f vs s k := ⟨args, hp0, l, r, hp1, k1, nb, h, hk⟩
theorem callQ_elim {P : Program} {f : FuncId} {vs : List AV} {s : AS} {k : AV → List (Nat × ABlk) → Nat → Prop} (h : CallQ P f vs s k) :
    ∃ args hp0 l r hp1 k1 nb, CallQOk P f vs s args hp0 l r hp1 k1 nb ∧ k (r.ren (qq l s.nx)) (nb.map fun p => (qq l s.nx p.1, p.2.ren (qq l s.nx))) (s.nx + (k1 - l.length)) := h
attribute [irreducible] CallQ

theorem behind_other {l : List Nat} {n : Nat} {hp0 : List (Nat × ABlk)} {i : Nat} : ∀ (hp' H : List (Nat × ABlk)), (∀ p ∈ hp', (∀ cs, lk hp0 p.1 ≠ some (.ro cs)) → p.2.wr = true → qq l n p.1 ≠ i) → lk (behind l n hp0 hp' H) i = lk H i
  | [], H, h => rfl
  | (j, b) :: r, H, h => by
    have ih := behind_other (l := l) (n := n) (hp0 := hp0) (i := i) r H fun p hp => h p (List.mem_cons_of_mem _ hp)
    simp only [behind]
    split
    · exact ih
    · rename_i hx
      split
      · rename_i hw
        rw [lk_up, if_neg]
        · exact ih
        · exact h (j, b) (by simp) (fun cs e => hx cs e) hw
      · exact ih
theorem lk_mem {β : Type} : ∀ {l : List (Nat × β)} {i : Nat} {b : β}, (l.map Prod.fst).Nodup → (i, b) ∈ l → lk l i = some b
  | (j, c) :: r, i, b, hnd, h => by
    rcases List.mem_cons.1 h with e | h
    · injection e with e1 e2; subst e1; subst e2; simp [lk]
    · have h1 := lk_mem (by simpa using (List.nodup_cons.1 hnd).2) h
      simp only [lk]
      rw [if_neg]
      · exact h1
      · intro e; subst e
        rw [lk_none_of_nodup hnd] at h1; cases h1
theorem mem_lk {β : Type} : ∀ {l : List (Nat × β)} {i : Nat} {b : β}, lk l i = some b → (i, b) ∈ l
  | (j, c) :: r, i, b, h => by
    simp only [lk] at h
    split at h
    · rename_i e; subst e; injection h with h; subst h; simp
    · exact List.mem_cons_of_mem _ (mem_lk h)
theorem behind_put {l : List Nat} {n : Nat} {hp0 : List (Nat × ABlk)} {i : Nat} {b : ABlk} : ∀ (hp' H : List (Nat × ABlk)), (i, b) ∈ hp' → (∀ cs, lk hp0 i ≠ some (.ro cs)) → b.wr = true →
    (∀ p ∈ hp', (∀ cs, lk hp0 p.1 ≠ some (.ro cs)) → p.2.wr = true → qq l n p.1 = qq l n i → p = (i, b)) → lk (behind l n hp0 hp' H) (qq l n i) = some (b.ren (qq l n))
  | (j, c) :: r, H, hm, hro, hw, hinj => by
    have hin : ∀ p ∈ r, (∀ cs, lk hp0 p.1 ≠ some (.ro cs)) → p.2.wr = true → qq l n p.1 = qq l n i → p = (i, b) := fun p hp => hinj p (List.mem_cons_of_mem _ hp)
    by_cases e : (j, c) = (i, b)
    · injection e with e1 e2; subst e1; subst e2
      simp only [behind]
      cases hx : lk hp0 j with
      | none => simp only [hw, if_true]; rw [lk_up, if_pos rfl]
      | some b0 => cases b0 with
        | ro cs => exact absurd hx (hro cs)
        | _ => simp only [hw, if_true]; rw [lk_up, if_pos rfl]
    · have hr : (i, b) ∈ r := by
        rcases List.mem_cons.1 hm with h | h
        · exact absurd h.symm e
        · exact h
      have ih := behind_put (l := l) (n := n) (hp0 := hp0) (i := i) (b := b) r H hr hro hw hin
      simp only [behind]
      split
      · exact ih
      · rename_i hx
        split
        · rename_i hw2
          rw [lk_up, if_neg]
          · exact ih
          · intro e2; exact e (hinj (j, c) (by simp) (fun cs e => hx cs e) hw2 e2)
        · exact ih
theorem gone_other {l : List Nat} {n i : Nat} : ∀ (hp0 H : List (Nat × ABlk)), (∀ p ∈ hp0, p.2.wr = true → qq l n p.1 ≠ i) → lk (gone l n hp0 H) i = lk H i
  | [], H, h => rfl
  | (j, b) :: r, H, h => by
    have ih := gone_other (l := l) (n := n) (i := i) r H fun p hp => h p (List.mem_cons_of_mem _ hp)
    simp only [gone]
    split
    · rename_i hw
      rw [lk_del, if_neg (h (j, b) (by simp) hw)]; exact ih
    · exact ih

theorem qq_new {l : List Nat} {n i : Nat} (h : l.length ≤ i) (hG : i < GB) : qq l n i = n + (i - l.length) := by
  simp only [qq]
  rw [if_neg (by omega)]
  have : l[i]? = none := by simp [h]
  rw [this]
theorem qq_old {l : List Nat} {n i : Nat} (h : i < l.length ∨ GB ≤ i) (hl : ∀ j ∈ l, idOk n j) : idOk n (qq l n i) := by
  simp only [qq]
  split
  · rename_i h; exact .inr h
  · rename_i h2
    have h1 : i < l.length := by omega
    rw [List.getElem?_eq_getElem h1]
    exact hl _ (List.getElem_mem h1)

variable {P : Program} {T : Nat → Option TI} {md : Bool} {E : Env} {R R2 : Ren} {s : AS} {a : Act} {w w' : World}

theorem callQ_sound {f : FuncId} {vs : List AV} {args : List AV} {hp0 : List (Nat × ABlk)} {l : List Nat} {r : AV} {hp1 : List (Nat × ABlk)} {k1 : Nat} {nb : List (Nat × ABlk)} (C : CallQOk P f vs s args hp0 l r hp1 k1 nb) (F : Fit E R s a w)
    {us : Array Value} (hus : us.size = vs.length) (hu : ∀ (i : Nat) (v : AV), vs[i]? = some v → ∃ u : Value, us[i]? = some u ∧ conV R v u) :
    Calls P f us w fun e w' => ∃ u R', e = .returned u ∧ Fit E R' ⟨s.tm, (nb.map fun p => (qq l s.nx p.1, p.2.ren (qq l s.nx))) ++ s.hp, s.nx + (k1 - l.length), s.nt, s.k0⟩ a w' ∧ conV R' (r.ren (qq l s.nx)) u ∧ (r.ren (qq l s.nx)).lt (s.nx + (k1 - l.length)) := by
  have C2 : CallOk P f vs s (fun v s' => v = r.ren (qq l s.nx) ∧ s' = { s with hp := behind l s.nx hp0 hp1 (gone l s.nx hp0 s.hp), nx := s.nx + (k1 - l.length) }) args hp0 l (fun r' hp' k' => r' = r ∧ hp' = hp1 ∧ k' = k1) :=
    ⟨C.spec, C.old, C.args, C.heap, C.inj, fun r' hp' k' ⟨e1, e2, e3⟩ => by subst e1; subst e2; subst e3; exact ⟨C.room, rfl, rfl⟩⟩
  refine (callOk_sound C2 F hus hu).mono ?_
  rintro e w' ⟨u, v, s', R', rfl, ⟨rfl, rfl⟩, F', hc, hl⟩
  refine ⟨u, R', rfl, F'.hp_sub (hp' := (nb.map fun p => (qq l s.nx p.1, p.2.ren (qq l s.nx))) ++ s.hp) ?_, hc, hl⟩
  intro i b h
  show lk (behind l s.nx hp0 hp1 (gone l s.nx hp0 s.hp)) i = some b
  have hroom := C.room
  have hle := C.le
  have mapLk : ∀ (nb : List (Nat × ABlk)) (b : ABlk), lk (nb.map fun p => (qq l s.nx p.1, p.2.ren (qq l s.nx))) i = some b → ∃ j c, lk nb j = some c ∧ qq l s.nx j = i ∧ c.ren (qq l s.nx) = b := by
    intro nb
    induction nb with
    | nil => intro b h; cases h
    | cons p nb ih =>
      obtain ⟨j, c⟩ := p
      intro b h
      simp only [List.map_cons, lk] at h
      split at h
      · rename_i e; injection h with h; exact ⟨j, c, by simp [lk], e, h⟩
      · rename_i e
        obtain ⟨j2, c2, h1, h2, h3⟩ := ih b h
        refine ⟨j2, c2, ?_, h2, h3⟩
        simp only [lk]
        rw [if_neg]
        · exact h1
        · intro e2; subst e2; exact e h2
  have qnew : ∀ j, l.length ≤ j → j < k1 → s.nx ≤ qq l s.nx j ∧ qq l s.nx j < GB ∧ qq l s.nx j = s.nx + (j - l.length) := fun j h1 h2 => by
    rw [qq_new h1 (by omega)]; omega
  have qold : ∀ j, j < l.length ∨ GB ≤ j → idOk s.nx (qq l s.nx j) := fun j h => qq_old h C.old
  have hnx : s.nx ≤ GB := by have := F'.nk.2; have h2 : s.nx ≤ s.nx + (k1 - l.length) := Nat.le_add_right _ _; omega
  rw [lk_append] at h
  cases hm : lk (nb.map fun p => (qq l s.nx p.1, p.2.ren (qq l s.nx))) i with
  | some b2 =>
    rw [hm] at h
    have e : b2 = b := by simpa using h
    subst e
    obtain ⟨j, c, h1, h2, h3⟩ := mapLk nb b2 hm
    obtain ⟨hj, hw, hin⟩ := C.new j c h1
    rw [← h2, ← h3]
    refine behind_put hp1 _ (mem_lk hin) ?_ hw ?_
    · intro cs e
      rcases hj with hj | ⟨c0, hj, hjw⟩
      · rcases (C.heap j _ e).1 with h4 | h4 <;> omega
      · rw [hj] at e; injection e with e; subst e; cases hjw
    · intro p hp _ hpw hq
      have hlk : lk hp1 p.1 = some p.2 := lk_mem C.nd hp
      have hpj : p.1 = j := by
        rcases hj with hj | ⟨c0, hj, hjw⟩
        · have q1 := qnew j hj.1 hj.2
          by_cases ho : p.1 < l.length ∨ GB ≤ p.1
          · have h5 := qold p.1 ho
            rw [hq] at h5
            unfold idOk at h5; omega
          · rcases C.hk1 p hp with h6 | h6
            · have q2 := qnew p.1 (by omega) h6; omega
            · omega
        · have q1 := qold j (C.heap j c0 hj).1
          by_cases ho : p.1 < l.length ∨ GB ≤ p.1
          · obtain ⟨c1, g1, g2⟩ := C.oldin p hp hpw ho
            by_cases e : p.1 = j
            · exact e
            · exact absurd hq (C.inj p.1 j c1 c0 g1 hj e g2)
          · rcases C.hk1 p hp with h6 | h6
            · have q2 := qnew p.1 (by omega) h6
              rw [hq] at q2
              unfold idOk at q1; omega
            · omega
      rw [hpj, hin] at hlk
      injection hlk with hlk
      exact Prod.ext hpj hlk.symm
  | none =>
    rw [hm] at h
    have h : lk s.hp i = some b := by simpa using h
    have hid := (F.wf.hp i b h).1
    by_cases hex : ∃ p ∈ hp0, p.2.wr = true ∧ qq l s.nx p.1 = i
    · obtain ⟨⟨j0, c0⟩, hp, hw, hq⟩ := hex
      have hlk : lk hp0 j0 = some c0 := lk_mem C.nd0 hp
      obtain ⟨_, b', g1, g2⟩ := C.heap j0 c0 hlk
      have hb : b = c0.ren (qq l s.nx) := by
        have := g2.eq (by rw [ABlk.ren_wr]; exact hw)
        rw [hq] at g1
        rw [h] at g1; injection g1 with g1; rw [g1]; exact this
      rcases C.same j0 c0 hlk hw with hsame | ⟨cn, hcn⟩
      · rw [← hq, hb]
        refine behind_put hp1 _ (mem_lk hsame) ?_ hw ?_
        · intro cs e; rw [hlk] at e; injection e with e; subst e; cases hw
        · intro p hp1 _ hpw hq2
          have hlk1 := lk_mem C.nd hp1
          by_cases ho : p.1 < l.length ∨ GB ≤ p.1
          · obtain ⟨c1, g1, g2⟩ := C.oldin p hp1 hpw ho
            by_cases e : p.1 = j0
            · rw [e, hsame] at hlk1; injection hlk1 with hlk1; exact Prod.ext e hlk1.symm
            · exact absurd hq2 (C.inj p.1 j0 c1 c0 g1 hlk e g2)
          · rcases C.hk1 p hp1 with h6 | h6
            · have q2 := qnew p.1 (by omega) h6
              rw [hq2, hq] at q2
              unfold idOk at hid; omega
            · omega
      · exfalso
        have : ∀ nb : List (Nat × ABlk), lk nb j0 = some cn → lk (nb.map fun p => (qq l s.nx p.1, p.2.ren (qq l s.nx))) i ≠ none := by
          intro nb
          induction nb with
          | nil => intro h; cases h
          | cons p nb ih =>
            intro h e
            simp only [List.map_cons, lk] at h e
            split at e
            · cases e
            · rename_i hne
              split at h
              · rename_i he; exact hne (by rw [he]; exact hq)
              · exact ih h e
        exact this nb hcn hm
    · rw [behind_other, gone_other]
      · exact h
      · intro p hp hw hq; exact hex ⟨p, hp, hw, hq⟩
      · intro p hp1 _ hpw hq
        by_cases ho : p.1 < l.length ∨ GB ≤ p.1
        · obtain ⟨c1, g1, g2⟩ := C.oldin p hp1 hpw ho
          exact hex ⟨(p.1, c1), mem_lk g1, g2, hq⟩
        · rcases C.hk1 p hp1 with h6 | h6
          · have q2 := qnew p.1 (by omega) h6
            rw [hq] at q2
            unfold idOk at hid; omega
          · omega

end Go.AH

/-
  A region that draws its order, walked once: the walk and its proof.
-/
namespace Go.AH
open Go.RowKit

/-- One operation that leaves what is there alone: k is handed what it gives, the new blocks, the next number. -/
def quietA (P : Program) (T : Nat → Option TI) (md : Bool) (s : AS) (o : Op) (k : AV → List (Nat × ABlk) → Nat → Prop) : Prop :=
  match o with
  | .call c => match c.callee with
    | .value x => onC s x fun p => match p with
      | .fn f fs cs => argsA s c.args.toList fun vs => CallQ P f (fs.map AV.p ++ vs ++ cs.map AV.p) s k
      | _ => False
    | _ => match pureOp (.call c) with
      | true => stepA T md s (.call c) fun v _ => s.on fun _ _ nx _ _ => k v [] nx
      | false => False
  | .store t x y => onC s x fun p => match p with
    | .ptr id _ => stepA T md s (.store t x y) fun v s' => s'.on fun _ hp nx _ _ => match lk hp id with
      | some b => k v [(id, b)] nx
      | none => False
    | _ => False
  | o => match pureOp o with
    | true => stepA T md s o fun v _ => s.on fun _ _ nx _ _ => k v [] nx
    | false => match newOp o with
      | true => stepA T md s o fun v s' => s'.on fun _ hp nx _ _ => match hp with
        | b :: _ => k v [b] nx
        | [] => False
      | false => False

def avAll (hs : List (Nat × Nat)) (i : Nat) : Prop := ∀ p ∈ hs, outside p.1 p.2 i
def avB : List (Nat × Nat) → Nat → Bool
  | [], _ => true
  | (lo, hi) :: r, i => (Nat.blt i lo || Nat.ble hi i) && avB r i
def holes (un : List Nat) : List (Nat × Nat × Nat) → List (Nat × Nat)
  | [] => []
  | (j, lo, hi) :: r => match un.elem j with
    | true => (lo, hi) :: holes un r
    | false => holes un r
def keepT {β : Type} (dl : List Nat) : List (Nat × β) → List (Nat × β)
  | [] => []
  | (t, v) :: r => match dl.elem t with
    | true => keepT dl r
    | false => (t, v) :: keepT dl r
def keepH (hs : List (Nat × Nat)) : List (Nat × ABlk) → List (Nat × ABlk)
  | [] => []
  | (i, b) :: r => match avB hs i with
    | true => (i, b) :: keepH hs r
    | false => keepH hs r
def keepH' (hs : List (Nat × Nat)) (hp : List (Nat × ABlk)) : List (Nat × ABlk) := match hs with
  | [] => hp
  | hs => keepH hs hp
def keepD (hd : List Nat) (hp : List (Nat × ABlk)) : List (Nat × ABlk) := match hd with
  | [] => hp
  | hd => keepT hd hp
def nbB (ws : List Nat) (b b' : Nat) (nb : List (Nat × ABlk)) : Bool := nb.all fun q => (Nat.ble b q.1 && Nat.blt q.1 b') || ws.elem q.1
def dNew (ws : List Nat) (b : Nat) (k : AV → List (Nat × ABlk) → Nat → Prop) (v : AV) (nb : List (Nat × ABlk)) (nx : Nat) : Prop := match nb with
  | [] => k v [] nx
  | nb => lit (nbB ws b nx nb) (k v nb nx)
theorem dNew_elim {ws : List Nat} {b : Nat} {k : AV → List (Nat × ABlk) → Nat → Prop} {v : AV} {nb : List (Nat × ABlk)} {nx : Nat} (h : dNew ws b k v nb nx) :
    (∀ i c, lk nb i = some c → (b ≤ i ∧ i < nx) ∨ i ∈ ws) ∧ k v nb nx := by
  cases nb with
  | nil => exact ⟨fun i c h => (by cases h), h⟩
  | cons p nb =>
    obtain ⟨h1, h2⟩ := lit_iff.1 h
    refine ⟨fun i c hc => ?_, h2⟩
    have := List.all_eq_true.1 h1 (i, c) (mem_lk hc)
    simp only [Bool.or_eq_true, Bool.and_eq_true] at this
    rcases this with h | h
    · exact .inl ⟨by simpa using h.1, by simpa using h.2⟩
    · exact .inr (by simpa using h)
def dNext (hs : List (Nat × Nat)) (k : AV → List (Nat × ABlk) → Nat → Prop) (v : AV) (nb : List (Nat × ABlk)) (nx : Nat) : Prop :=
  lit (Nat.ble nx GB) (match hs with
    | [] => k v nb nx
    | hs => (v.all (avAll hs) ∧ ∀ q ∈ nb, q.2.all (avAll hs)) ∧ k v nb nx)
def dPut (d : Option Nat) (nt : Nat) (v : AV) (tm : List (Nat × AV)) (k : List (Nat × AV) → Prop) : Prop := match d with
  | none => k tm
  | some d => lit (decide (d < nt)) (k ((d, v) :: tm))
def catH (nb hp : List (Nat × ABlk)) : List (Nat × ABlk) := match nb with
  | [] => hp
  | [(i, b)] => match lk hp i with
    | some _ => up hp i b
    | none => (i, b) :: hp
  | b :: c :: r => b :: c :: (r ++ hp)
def dCat (nb hp : List (Nat × ABlk)) (k : List (Nat × ABlk) → Prop) : Prop := match nb with
  | [] => k hp
  | [(i, b)] => match lk hp i with
    | some _ => k (up hp i b)
    | none => k ((i, b) :: hp)
  | b :: c :: r => k (b :: c :: (r ++ hp))
theorem dCat_eq (nb hp : List (Nat × ABlk)) (k : List (Nat × ABlk) → Prop) : dCat nb hp k = k (catH nb hp) := by
  rcases nb with _ | ⟨⟨i, b⟩, _ | ⟨c, r⟩⟩
  · rfl
  · simp only [dCat, catH]
    cases lk hp i <;> rfl
  · rfl
theorem lk_catH (nb hp : List (Nat × ABlk)) (j : Nat) : lk (catH nb hp) j = lk (nb ++ hp) j := by
  rcases nb with _ | ⟨⟨i, b⟩, _ | ⟨c, r⟩⟩
  · rfl
  · simp only [catH]
    cases h : lk hp i with
    | none => rfl
    | some c =>
      simp only [List.cons_append, List.nil_append, lk_up, lk]
  · rfl
def rgN (i nx nx' : Nat) (rg : List (Nat × Nat × Nat)) : List (Nat × Nat × Nat) := match Nat.beq nx' nx with
  | true => rg
  | false => (i, nx, nx') :: rg

def drawA (P : Program) (T : Nat → Option TI) (md : Bool) (all : List Oper) (K : AS → Prop) : List PE → List Oper → Nat → List (Nat × Nat × Nat) → AS → Prop
  | [], l, _, _, s => opsW P T md all l s K
  | _ :: _, [], _, _, _ => False
  | p :: pl, o :: l, i, rg, s => s.on fun tm hp nx nt k0 => match o.guard with
    | none => quietA P T md ⟨keepT p.dl tm, keepD p.hd (keepH' (holes p.un rg) hp), nx, nt, nx⟩ o.op (dNew p.ws nx (dNext (holes p.un rg) fun v nb nx' => dCat nb hp fun hp => dPut o.dst nt v tm fun tm => drawA P T md all K pl l (i + 1) (rgN i nx nx' rg) ⟨tm, hp, nx', nt, k0⟩))
    | some (j, want) => match (all[j]?).bind (·.dst) with
      | some d => match lk (keepT p.dl tm) d with
        | some (.c (.bool b)) =>
          (b = want → quietA P T md ⟨(d, .c (.bool want)) :: keepT p.dl tm, keepD p.hd (keepH' (holes p.un rg) hp), nx, nt, nx⟩ o.op (dNew p.ws nx (dNext (holes p.un rg) fun v nb nx' => dCat nb hp fun hp => dPut o.dst nt v ((d, .c (.bool want)) :: tm) fun tm => drawA P T md all K pl l (i + 1) (rgN i nx nx' rg) ⟨tm, hp, nx', nt, k0⟩))) ∧
          (b = (!want) → dPut o.dst nt (.t []) ((d, .c (.bool (!want))) :: tm) fun tm => drawA P T md all K pl l (i + 1) rg ⟨tm, hp, nx, nt, k0⟩)
        | some (.t []) => dPut o.dst nt (.t []) tm fun tm => drawA P T md all K pl l (i + 1) rg ⟨tm, hp, nx, nt, k0⟩
        | _ => False
      | none => False

variable {P : Program} {T : Nat → Option TI} {md : Bool} {E : Env} {R R2 : Ren} {s : AS} {a : Act} {w w' : World}

theorem onCells_elim {id : Nat} {k : ABlk → List AC → Prop} (h : onCells s id k) : ∃ b cs, lk s.hp id = some b ∧ k b cs ∧ ∀ k' : ABlk → List AC → Prop, k' b cs → onCells s id k' := by
  unfold onCells at h ⊢
  rcases hb : lk s.hp id with _ | ⟨c | c | ⟨e, z, c⟩ | m | m | ⟨b, q⟩ | I⟩ <;> rw [hb] at h <;> first | exact h.elim | exact ⟨_, _, rfl, h, fun k' h' => h'⟩
theorem onC_elim {x : Operand} {k : AC → Prop} (h : onC s x k) : ∃ p, ev s x = some (.c p) ∧ k p ∧ ∀ k' : AC → Prop, k' p → onC s x k' := by
  unfold onC at h ⊢
  cases hx : ev s x with
  | none => rw [hx] at h; exact h.elim
  | some q => cases q with
    | c p => rw [hx] at h; exact ⟨p, rfl, h, fun k' h' => h'⟩
    | g _ => rw [hx] at h; exact h.elim
    | t _ => rw [hx] at h; exact h.elim
theorem store_det {t : Nat} {x y : Operand} {k : AV → AS → Prop} (h : stepA T md s (.store t x y) k) : ∃ id o b bn, ev s x = some (.c (.ptr id o)) ∧ lk s.hp id = some b ∧ b.wr = true ∧ bn.wr = true ∧
    k (.t []) ⟨s.tm, up s.hp id bn, s.nx, s.nt, s.k0⟩ ∧ ∀ k' : AV → AS → Prop, k' (.t []) ⟨s.tm, up s.hp id bn, s.nx, s.nt, s.k0⟩ → stepA T md s (.store t x y) k' := by
  simp only [stepA, AS.on_eq] at h ⊢
  obtain ⟨p, hx, h1, hp⟩ := onC_elim h
  clear h
  obtain ⟨v, h2, hv⟩ := onV_det s y _ h1
  clear h1
  cases p <;> try exact h2.elim
  rename_i id o
  obtain ⟨b, cs, hb, h3, hcs⟩ := onCells_elim h2
  obtain ⟨hw, h⟩ := h3
  rcases hi : T t with _ | i <;> rw [hi] at h
  · exact h.elim
  rcases v with c | gs | _
  · obtain ⟨h0, h⟩ := h
    exact ⟨id, _, b, _, hx, hb, hw, by rw [ABlk.with_wr, hw], h, fun k' h' => hp _ (hv _ (hcs _ (by simp only [hi]; exact ⟨hw, h0, h'⟩)))⟩
  · simp only at h
    split at h
    · rename_i hs
      obtain ⟨h0, h⟩ := h
      exact ⟨id, _, b, _, hx, hb, hw, by rw [ABlk.with_wr, hw], h, fun k' h' => hp _ (hv _ (hcs _ (by simp only [hi, if_pos hs]; exact ⟨hw, h0, h'⟩)))⟩
    · rename_i hs
      cases o with
      | zero =>
        obtain ⟨h0, h⟩ := h
        exact ⟨id, _, b, _, hx, hb, hw, by rw [ABlk.with_wr, hw], h, fun k' h' => hp _ (hv _ (hcs _ (by simp only [hi, if_neg hs]; exact ⟨hw, h0, h'⟩)))⟩
      | succ o =>
        obtain ⟨h0, h⟩ := h
        exact ⟨id, _, b, _, hx, hb, hw, by rw [ABlk.with_wr, hw], h, fun k' h' => hp _ (hv _ (hcs _ (by simp only [hi, if_neg hs]; exact ⟨hw, h0, h'⟩)))⟩
  · exact h.elim

/-- What a quiet operation gives is one thing, and it gives it in every world that fits. -/
theorem quietA_det (hT : TOk P T) {o : Oper} {k : AV → List (Nat × ABlk) → Nat → Prop} (h : quietA P T md s o.op k) :
    ∃ v nb nx', k v nb nx' ∧ s.nx ≤ nx' ∧ (∀ i c, lk nb i = some c → NbOk s.hp s.nx nx' i ∧ c.wr = true) ∧
      ∀ (E : Env) (R : Ren) (a : Act) (w : World) (n : Nat) (r : Option Nat) (Q : Exit → Act → World → Prop), Fit E R s a w →
        o.wpIn (FW r) n P a w (fun a' w' => ∃ u R2, a' = a.put o.dst u ∧ Fit E R2 ⟨s.tm, nb ++ s.hp, nx', s.nt, s.k0⟩ a w' ∧ conV R2 v u ∧ v.lt nx') Q := by
  obtain ⟨dst, op, ty, pos, after, guard⟩ := o
  have pure1 : pureOp op = true → stepA T md s op (fun v _ => s.on fun _ _ nx _ _ => k v [] nx) → (∀ k', opA P T md s op k' = stepA T md s op k') →
      ∃ v nb nx', k v nb nx' ∧ s.nx ≤ nx' ∧ (∀ i c, lk nb i = some c → NbOk s.hp s.nx nx' i ∧ c.wr = true) ∧
      ∀ (E : Env) (R : Ren) (a : Act) (w : World) (n : Nat) (r : Option Nat) (Q : Exit → Act → World → Prop), Fit E R s a w →
        Oper.wpIn (FW r) n P ⟨dst, op, ty, pos, after, guard⟩ a w (fun a' w' => ∃ u R2, a' = a.put dst u ∧ Fit E R2 ⟨s.tm, nb ++ s.hp, nx', s.nt, s.k0⟩ a w' ∧ conV R2 v u ∧ v.lt nx') Q := by
    intro ho h hop
    obtain ⟨v, h1, h2⟩ := pure_det op ho _ h
    refine ⟨v, [], s.nx, h1, Nat.le_refl _, (fun i c h => by cases h), fun E R a w n r Q F => ?_⟩
    refine opA_sound (k := fun v' s' => v' = v ∧ s' = s) hT (o := ⟨dst, op, ty, pos, after, guard⟩) (by rw [hop]; exact h2 _ ⟨rfl, rfl⟩) F ?_
    rintro u w' s' R' v' ⟨rfl, rfl⟩ F' hc hl
    exact ⟨u, R', rfl, F', hc, hl⟩
  have new1 : newOp op = true → stepA T md s op (fun v s' => s'.on fun _ hp nx _ _ => match hp with | b :: _ => k v [b] nx | [] => False) → (∀ k', opA P T md s op k' = stepA T md s op k') →
      ∃ v nb nx', k v nb nx' ∧ s.nx ≤ nx' ∧ (∀ i c, lk nb i = some c → NbOk s.hp s.nx nx' i ∧ c.wr = true) ∧
      ∀ (E : Env) (R : Ren) (a : Act) (w : World) (n : Nat) (r : Option Nat) (Q : Exit → Act → World → Prop), Fit E R s a w →
        Oper.wpIn (FW r) n P ⟨dst, op, ty, pos, after, guard⟩ a w (fun a' w' => ∃ u R2, a' = a.put dst u ∧ Fit E R2 ⟨s.tm, nb ++ s.hp, nx', s.nt, s.k0⟩ a w' ∧ conV R2 v u ∧ v.lt nx') Q := by
    intro ho h hop
    obtain ⟨v, c, h1, hw, h2⟩ := new_det op ho _ h
    refine ⟨v, [(s.nx, c)], s.nx + 1, h1, by omega, (fun i c' h => ?_), fun E R a w n r Q F => ?_⟩
    · simp only [lk] at h
      split at h
      · rename_i e; subst e; injection h with h; subst h; exact ⟨.inl (by omega), hw⟩
      · cases h
    refine opA_sound (k := fun v' s' => v' = v ∧ s' = ⟨s.tm, (s.nx, c) :: s.hp, s.nx + 1, s.nt, s.k0⟩) hT (o := ⟨dst, op, ty, pos, after, guard⟩) (by rw [hop]; exact h2 _ ⟨rfl, rfl⟩) F ?_
    rintro u w' s' R' v' ⟨rfl, rfl⟩ F' hc hl
    exact ⟨u, R', rfl, F', hc, hl⟩
  cases op with
  | call c =>
    obtain ⟨cal, args, tys⟩ := c
    cases cal with
    | value x =>
      simp only [quietA] at h
      obtain ⟨p, h, hp2⟩ := onC_det s x _ h
      cases p <;> try exact h.elim
      rename_i f fs cs
      have argsDet : ∀ (l : List Operand), DetC (argsA s l) := by
        intro l
        induction l with
        | nil => exact DetC.pure _
        | cons x l ih => exact DetC.bind (f := onV s x) (g := fun v k => argsA s l fun vs => k (v :: vs)) (onV_det s x) fun v => DetC.bind (f := argsA s l) (g := fun vs k => k (v :: vs)) ih fun vs => DetC.pure _
      obtain ⟨vs, h, hvs⟩ := argsDet _ _ h
      obtain ⟨as0, hp0, l, r, hp1, k1, nb, C, hk⟩ := callQ_elim h
      refine ⟨_, _, _, hk, by omega, ?_, fun E R a w n r Q F => ?_⟩
      · intro i c hc
        have := mem_lk hc
        obtain ⟨⟨j, c0⟩, hm, e⟩ := List.mem_map.1 this
        injection e with e1 e2
        -- the first entry of number i
        have mapLk : ∀ (nb : List (Nat × ABlk)) (b : ABlk), lk (nb.map fun p => (qq l s.nx p.1, p.2.ren (qq l s.nx))) i = some b → ∃ j c, lk nb j = some c ∧ qq l s.nx j = i ∧ c.ren (qq l s.nx) = b := by
          intro nb
          induction nb with
          | nil => intro b h; cases h
          | cons p nb ih =>
            obtain ⟨j, c⟩ := p
            intro b h
            simp only [List.map_cons, lk] at h
            split at h
            · rename_i e; injection h with h; exact ⟨j, c, by simp [lk], e, h⟩
            · rename_i e
              obtain ⟨j2, c2, h1, h2, h3⟩ := ih b h
              refine ⟨j2, c2, ?_, h2, h3⟩
              simp only [lk]
              rw [if_neg]
              · exact h1
              · intro e2; subst e2; exact e h2
        obtain ⟨j2, c2, g1, g2, g3⟩ := mapLk _ _ hc
        obtain ⟨g4, g5, _⟩ := C.new j2 c2 g1
        have := C.le
        refine ⟨?_, by rw [← g3, ABlk.ren_wr]; exact g5⟩
        rcases g4 with g4 | ⟨c0, g4, g6⟩
        · rw [qq_new g4.1 (by omega)] at g2
          exact .inl (by omega)
        · obtain ⟨_, b', e1, e2⟩ := C.heap j2 c0 g4
          rw [g2] at e1
          exact .inr ⟨b', e1, by rw [e2.eq (by rw [ABlk.ren_wr]; exact g6), ABlk.ren_wr]; exact g6⟩
      · -- the call
        refine ⟨fun f _ => trivial, ?_⟩
        rw [Oper.semAt_eq _ _ _ (by intro c e; cases e)]
        obtain ⟨p, hk2, hc, hp0'⟩ := onC_sound F (hp2 (fun q => q = .fn f fs cs) rfl)
        subst hk2
        obtain ⟨vs2, hk3, hlen, hvs2⟩ := argsA_sound _ F (hvs (fun q => q = vs) rfl)
        subst hk3
        simp only [conC] at hc
        have hcp : ∀ i, conV R (AV.p i) (R.p0 i) := fun i => rfl
        have hcalls := callQ_sound C F (us := (fs.map R.p0).toArray ++ args.map a.eval ++ (cs.map R.p0).toArray) (by simp [hlen]) (fun i v hi => by
          have e1 : ((fs.map R.p0).toArray ++ args.map a.eval ++ (cs.map R.p0).toArray)[i]? = (fs.map R.p0 ++ args.toList.map a.eval ++ cs.map R.p0)[i]? := by
            rw [← Array.getElem?_toList]; simp
          rw [e1]
          rw [List.append_assoc, List.getElem?_append, List.getElem?_append] at hi
          rw [List.append_assoc, List.getElem?_append, List.getElem?_append]
          simp only [List.length_map, hlen] at hi ⊢
          split at hi
          · rename_i q; rw [if_pos q]
            rw [List.getElem?_map] at hi ⊢
            cases hq : fs[i]? with
            | none => simp [hq] at hi
            | some j => simp [hq] at hi; subst hi; exact ⟨_, rfl, hcp j⟩
          · rename_i q; rw [if_neg q]
            split at hi
            · rename_i q2; rw [if_pos q2]; exact hvs2 _ v hi
            · rename_i q2; rw [if_neg q2]
              rw [List.getElem?_map] at hi ⊢
              cases hq : cs[i - fs.length - args.toList.length]? with
              | none => rw [hq] at hi; cases hi
              | some j => rw [hq] at hi; injection hi with hi; subst hi; exact ⟨_, rfl, hcp j⟩)
        have hrun : (execOp a.eval ⟨dst, .call ⟨.value x, args, tys⟩, ty, pos, after, guard⟩).run P w = .ok (.enter f ((fs.map R.p0).toArray ++ args.map a.eval ++ (cs.map R.p0).toArray)) w := by
          have h2 := C.spec.call ((fs.map R.p0).toArray ++ args.map a.eval ++ (cs.map R.p0).toArray) w
          simp [execOp, resolve, hc, Deferred.ofValue, invoke]
          simpa using h2
        rw [hrun]
        refine ⟨fun h => by simp [FW, Fence.wide] at h, callsFW (hcalls.mono ?_)⟩
        rintro e w' ⟨u, R', rfl, F', hc', hl'⟩
        exact ⟨u, R', rfl, F', hc', hl'⟩
    | builtin b =>
      simp only [quietA] at h
      split at h
      · rename_i hp; exact pure1 hp h fun _ => rfl
      · exact h.elim
    | invoke x m =>
      simp only [quietA] at h
      split at h
      · rename_i hp; exact pure1 hp h fun _ => rfl
      · exact h.elim
  | store t x y =>
    simp only [quietA] at h
    obtain ⟨p, hpx, h0, _⟩ := onC_elim h
    clear h
    cases p <;> try exact h0.elim
    obtain ⟨id, o', b, bn, h1, h2, h3, h4, h5, h6⟩ := store_det h0
    rw [hpx] at h1
    injection h1 with h1; injection h1 with h1; injection h1 with h1 h1'
    rw [h1] at h5
    have h5 : k (.t []) [(id, bn)] s.nx := by
      have e : lk (up s.hp id bn) id = some bn := by rw [lk_up, if_pos rfl]
      simp only [AS.on_eq] at h5
      rw [e] at h5
      exact h5
    refine ⟨.t [], [(id, bn)], s.nx, h5, Nat.le_refl _, (fun i c hc => ?_), fun E R a w n r Q F => ?_⟩
    · simp only [lk] at hc
      split at hc
      · rename_i e; subst e; injection hc with hc; subst hc; exact ⟨.inr ⟨b, h2, h3⟩, h4⟩
      · cases hc
    refine opA_sound (k := fun v' s' => v' = .t [] ∧ s' = ⟨s.tm, up s.hp id bn, s.nx, s.nt, s.k0⟩) (md := md) hT (o := ⟨dst, .store t x y, ty, pos, after, guard⟩) (h6 (fun v' s' => v' = .t [] ∧ s' = ⟨s.tm, up s.hp id bn, s.nx, s.nt, s.k0⟩) ⟨rfl, rfl⟩) F ?_
    rintro u w' s' R' v' ⟨rfl, rfl⟩ F' hc hl
    refine ⟨u, R', rfl, F'.hp_sub (hp' := [(id, bn)] ++ s.hp) (fun i c hc => ?_), hc, hl⟩
    show lk (up s.hp id bn) i = some c
    rw [lk_up]
    simp only [List.cons_append, List.nil_append, lk] at hc
    exact hc
  | _ =>
    simp only [quietA] at h
    split at h
    · rename_i hp; exact pure1 hp h fun _ => rfl
    · split at h
      · rename_i hp; exact new1 hp h fun _ => rfl
      · exact h.elim

end Go.AH

/-
  A region that draws its order, walked once: every order.
-/
namespace Go.AH
open Go.RowKit

variable {P : Program} {T : Nat → Option TI} {md : Bool} {E : Env} {R R2 : Ren} {s : AS} {a : Act} {w w' : World}

/-! ### The plan is held against the operations -/
def befB (pl : List PE) (i j : Nat) (o : Oper) : Bool := o.after.any fun e => Region.binds .any e && (Nat.beq e.on j || (Nat.blt e.on i && (match pl[e.on]? with
  | some q => q.bf.elem j
  | none => Nat.blt j e.on)))
def dstIn (d : Option Nat) (l : List Nat) : Bool := match d with | none => true | some d => l.elem d
def sameDst (d e : Option Nat) : Bool := match d, e with | some d, some e => Nat.beq d e | _, _ => false
def subB : List Nat → List Nat → Bool
  | [], _ => true
  | x :: r, l => l.elem x && subB r l
theorem subB_sound : ∀ {l m : List Nat}, subB l m = true → ∀ x ∈ l, x ∈ m
  | [], m, h, x, hx => absurd hx List.not_mem_nil
  | y :: r, m, h, x, hx => by
    simp only [subB, Bool.and_eq_true] at h
    rcases List.mem_cons.1 hx with e | hx
    · subst e; simpa using h.1
    · exact subB_sound h.2 x hx
def planOk (ops : Array Oper) (pl : List PE) : Bool :=
  (List.range ops.size).all fun i => match ops[i]? with
    | none => true
    | some o => (o.after.all fun e => !Region.binds .any e || Nat.blt e.on i) && (match pl[i]? with
      | some p => (p.bf.all fun j => Nat.blt j i && befB pl i j o) && (List.range i).all fun j => (match ops[j]?, pl[j]? with
        | some oj, some q => (p.bf.elem j || ((p.un.elem j && dstIn oj.dst p.dl && dstIn o.dst q.dl) && (subB p.ws q.hd && subB q.ws p.hd))) && (!sameDst oj.dst o.dst || p.bf.elem j)
        | _, _ => false)
      | none => (List.range i).all fun j => befB pl i j o)

structure PlanP (ops : Array Oper) (pl : List PE) : Prop where
  lo : ∀ (i : Nat) (o : Oper), ops[i]? = some o → ∀ e ∈ o.after, Region.binds .any e = true → e.on < i
  bf : ∀ (i : Nat) (o : Oper) (p : PE), ops[i]? = some o → pl[i]? = some p → ∀ j ∈ p.bf, j < i ∧ ∃ e ∈ o.after, Region.binds .any e = true ∧ (e.on = j ∨ (e.on < i ∧ ((∃ q, pl[e.on]? = some q ∧ j ∈ q.bf) ∨ (pl[e.on]? = none ∧ j < e.on))))
  un : ∀ (i : Nat) (o : Oper) (p : PE) (j : Nat) (oj : Oper) (q : PE), ops[i]? = some o → pl[i]? = some p → j < i → ops[j]? = some oj → pl[j]? = some q → j ∉ p.bf → j ∈ p.un ∧ (∀ d, oj.dst = some d → d ∈ p.dl) ∧ (∀ d, o.dst = some d → d ∈ q.dl) ∧ (∀ x ∈ p.ws, x ∈ q.hd) ∧ ∀ x ∈ q.ws, x ∈ p.hd
  same : ∀ (i : Nat) (o : Oper) (p : PE) (j : Nat) (oj : Oper) (q : PE) (d : Nat), ops[i]? = some o → pl[i]? = some p → j < i → ops[j]? = some oj → pl[j]? = some q → oj.dst = some d → o.dst = some d → j ∈ p.bf
  suf : ∀ (i : Nat) (o : Oper), ops[i]? = some o → pl[i]? = none → ∀ j < i, ∃ e ∈ o.after, Region.binds .any e = true ∧ (e.on = j ∨ (e.on < i ∧ ((∃ q, pl[e.on]? = some q ∧ j ∈ q.bf) ∨ (pl[e.on]? = none ∧ j < e.on))))

theorem befB_sound {pl : List PE} {i j : Nat} {o : Oper} (h : befB pl i j o = true) : ∃ e ∈ o.after, Region.binds .any e = true ∧ (e.on = j ∨ (e.on < i ∧ ((∃ q, pl[e.on]? = some q ∧ j ∈ q.bf) ∨ (pl[e.on]? = none ∧ j < e.on)))) := by
  unfold befB at h
  rw [Array.any_eq_true'] at h
  obtain ⟨e, he, h⟩ := h
  simp only [Bool.and_eq_true, Bool.or_eq_true] at h
  refine ⟨e, he, h.1, ?_⟩
  rcases h.2 with h | h
  · exact .inl (Nat.eq_of_beq_eq_true h)
  · refine .inr ⟨by simpa using h.1, ?_⟩
    have h2 := h.2
    cases hq : pl[e.on]? with
    | none => rw [hq] at h2; exact .inr ⟨rfl, by simpa using h2⟩
    | some q => rw [hq] at h2; exact .inl ⟨q, rfl, by simpa using h2⟩
theorem dstIn_sound {d : Option Nat} {l : List Nat} (h : dstIn d l = true) : ∀ x, d = some x → x ∈ l := by
  rintro x rfl; simpa [dstIn] using h
theorem planOk_sound {ops : Array Oper} {pl : List PE} (h : planOk ops pl = true) : PlanP ops pl := by
  unfold planOk at h
  rw [List.all_eq_true] at h
  have h : ∀ i o, ops[i]? = some o → _ := fun i o ho => by
    have := h i (List.mem_range.2 (Array.getElem?_eq_some_iff.1 ho).1)
    rw [ho] at this
    exact Bool.and_eq_true_iff.1 this
  have pf : ∀ i o p, ops[i]? = some o → pl[i]? = some p → _ := fun i o p ho hp => by
    have := (h i o ho).2
    rw [hp] at this
    exact Bool.and_eq_true_iff.1 this
  have pr : ∀ i o p j oj q, ops[i]? = some o → pl[i]? = some p → j < i → ops[j]? = some oj → pl[j]? = some q → _ := fun i o p j oj q ho hp hj hoj hq => by
    have := (pf i o p ho hp).2
    rw [List.all_eq_true] at this
    have := this j (List.mem_range.2 hj)
    rw [hoj, hq] at this
    exact Bool.and_eq_true_iff.1 this
  refine ⟨fun i o ho e he hb => ?_, fun i o p ho hp j hj => ?_, fun i o p j oj q ho hp hj hoj hq hn => ?_, fun i o p j oj q d ho hp hj hoj hq h1 h2 => ?_, fun i o ho hp j hj => ?_⟩
  · have h1 := (h i o ho).1
    rw [Array.all_eq_true'] at h1
    have := h1 e he
    rw [hb] at this
    simpa using this
  · have h1 := (pf i o p ho hp).1
    rw [List.all_eq_true] at h1
    have := h1 j hj
    simp only [Bool.and_eq_true] at this
    exact ⟨by simpa using this.1, befB_sound this.2⟩
  · have h1 := (pr i o p j oj q ho hp hj hoj hq).1
    simp only [Bool.or_eq_true, Bool.and_eq_true] at h1
    rcases h1 with h1 | h1
    · exact absurd (by simpa using h1) hn
    · exact ⟨by simpa using h1.1.1.1, dstIn_sound h1.1.1.2, dstIn_sound h1.1.2, subB_sound h1.2.1, subB_sound h1.2.2⟩
  · have h3 := (pr i o p j oj q ho hp hj hoj hq).2
    simp only [Bool.or_eq_true, Bool.not_eq_true'] at h3
    rcases h3 with h3 | h3
    · simp [h1, h2, sameDst] at h3
    · simpa using h3
  · have h1 := (h i o ho).2
    rw [hp] at h1
    have h1 := List.all_eq_true.1 h1
    exact befB_sound (h1 j (List.mem_range.2 hj))

/-! ### The walk gives the records -/
structure Sub0 (s0 : AS) (rest : List Rc) (s : AS) : Prop where
  nx : s.nx = nxR s0.nx rest
  nt : s.nt = s0.nt
  k0 : s.k0 = s0.k0
  tm : ∀ t v, lk s.tm t = some v → lk (tmR (fun _ => true) s0.tm rest) t = some v
  hp : ∀ i c, lk s.hp i = some c → lk (hpR (fun _ => true) s0.hp rest) i = some c

theorem lk_keepT {β : Type} {dl : List Nat} : ∀ {tm : List (Nat × β)} {t : Nat} {v : β}, lk (keepT dl tm) t = some v → lk tm t = some v ∧ t ∉ dl
  | (j, u) :: r, t, v, h => by
    simp only [keepT] at h
    cases hd : dl.elem j with
    | true =>
      rw [hd] at h
      obtain ⟨h1, h2⟩ := lk_keepT h
      refine ⟨?_, h2⟩
      simp only [lk]
      rw [if_neg]
      · exact h1
      · intro e; subst e; exact h2 (by simpa using hd)
    | false =>
      rw [hd] at h
      simp only [lk] at h ⊢
      split at h
      · rename_i e; subst e; rw [if_pos rfl]; exact ⟨h, by simpa using hd⟩
      · rename_i e; rw [if_neg e]; exact lk_keepT h
theorem avB_sound : ∀ {hs : List (Nat × Nat)} {i : Nat}, avB hs i = true → avAll hs i
  | [], i, h => fun p hp => absurd hp (List.not_mem_nil)
  | (lo, hi) :: r, i, h => by
    simp only [avB, Bool.and_eq_true, Bool.or_eq_true] at h
    intro p hp
    rcases List.mem_cons.1 hp with e | hp
    · subst e
      rcases h.1 with h | h
      · exact .inl (by simpa using h)
      · exact .inr (by simpa using h)
    · exact avB_sound h.2 p hp
theorem lk_keepH {hs : List (Nat × Nat)} : ∀ {hp : List (Nat × ABlk)} {i : Nat} {c : ABlk}, lk (keepH hs hp) i = some c → lk hp i = some c ∧ avAll hs i
  | (j, u) :: r, i, c, h => by
    simp only [keepH] at h
    cases hd : avB hs j with
    | true =>
      rw [hd] at h
      simp only [lk] at h ⊢
      split at h
      · rename_i e; subst e; rw [if_pos rfl]; exact ⟨h, avB_sound hd⟩
      · rename_i e; rw [if_neg e]; exact lk_keepH h
    | false =>
      rw [hd] at h
      obtain ⟨h1, h2⟩ := lk_keepH h
      refine ⟨?_, h2⟩
      simp only [lk]
      by_cases e : j = i
      · subst e
        exfalso
        have : avB hs j = true := by
          clear h1 h hd
          induction hs with
          | nil => rfl
          | cons p hs ih =>
            obtain ⟨lo, hi⟩ := p
            simp only [avB, Bool.and_eq_true, Bool.or_eq_true]
            refine ⟨?_, ih fun p hp => h2 p (List.mem_cons_of_mem _ hp)⟩
            rcases h2 (lo, hi) (by simp) with h | h
            · left; simpa using h
            · right; simpa using h
        rw [hd] at this; cases this
      · rw [if_neg e]; exact h1
theorem lk_keepH' {hs : List (Nat × Nat)} {hp : List (Nat × ABlk)} {i : Nat} {c : ABlk} (h : lk (keepH' hs hp) i = some c) : lk hp i = some c ∧ avAll hs i := by
  cases hs with
  | nil => exact ⟨h, fun p hp => absurd hp (List.not_mem_nil)⟩
  | cons p hs => exact lk_keepH h
theorem lk_keepD {hd : List Nat} {hp : List (Nat × ABlk)} {i : Nat} {c : ABlk} (h : lk (keepD hd hp) i = some c) : lk hp i = some c ∧ i ∉ hd := by
  cases hd with
  | nil => exact ⟨h, List.not_mem_nil⟩
  | cons p hd => exact lk_keepT h
theorem mem_holes {un : List Nat} : ∀ {rg : List (Nat × Nat × Nat)} {k lo hi : Nat}, (k, lo, hi) ∈ rg → k ∈ un → (lo, hi) ∈ holes un rg
  | (j, l, h) :: r, k, lo, hi, hm, hk => by
    simp only [holes]
    rcases List.mem_cons.1 hm with e | hm
    · injection e with e1 e2; injection e2 with e2 e3; subst e1; subst e2; subst e3
      rw [show un.elem k = true by simpa using hk]; simp
    · split
      · exact List.mem_cons_of_mem _ (mem_holes hm hk)
      · exact mem_holes hm hk

structure Rg (rest : List Rc) (rg : List (Nat × Nat × Nat)) : Prop where
  all : ∀ k q, At rest k q → q.b' = q.b ∨ (k, q.b, q.b') ∈ rg
theorem Rg.out {rest : List Rc} {rg : List (Nat × Nat × Nat)} (h : Rg rest rg) {un : List Nat} {i : Nat} (hi : avAll (holes un rg) i) {k : Nat} {q : Rc} (hq : At rest k q) (hk : k ∈ un) : outside q.b q.b' i := by
  rcases h.all k q hq with e | e
  · unfold outside; omega
  · exact hi _ (mem_holes e hk)

theorem dNext_elim {hs : List (Nat × Nat)} {k : AV → List (Nat × ABlk) → Nat → Prop} {v : AV} {nb : List (Nat × ABlk)} {nx : Nat} (h : dNext hs k v nb nx) :
    nx ≤ GB ∧ (v.all (avAll hs) ∧ ∀ q ∈ nb, q.2.all (avAll hs)) ∧ k v nb nx := by
  obtain ⟨h1, h2⟩ := lit_iff.1 h
  refine ⟨by simpa using h1, ?_⟩
  cases hs with
  | nil =>
    have triv : ∀ i, avAll [] i := fun i p hp => absurd hp (List.not_mem_nil)
    refine ⟨⟨?_, fun q hq => ?_⟩, h2⟩
    · have hx : ∀ x : AC, x.all (avAll []) := fun x => by cases x <;> simp only [AC.all] <;> first | exact triv _ | exact ⟨fun i _ => triv i, fun i _ => triv i⟩
      cases v with
      | c x => exact hx x
      | g cs => exact fun x _ => hx x
      | t es => exact fun e _ => by cases e with
        | c x => exact hx x
        | g cs => exact fun x _ => hx x
    · have hx : ∀ x : AC, x.all (avAll []) := fun x => by cases x <;> simp only [AC.all] <;> first | exact triv _ | exact ⟨fun i _ => triv i, fun i _ => triv i⟩
      obtain ⟨_, b⟩ := q
      cases b with
      | ro cs => exact fun x _ => hx x
      | own cs => exact fun x _ => hx x
      | row _ _ cs => exact fun x _ => hx x
      | mp m => exact fun p _ => ⟨fun x _ => hx x, hx _⟩
      | mi I => trivial
      | si s p => trivial
      | li I => trivial
  | cons p hs => exact h2

def Ext (P : Program) (T : Nat → Option TI) (md : Bool) (ops : Array Oper) (K : AS → Prop) (s0 : AS) (rest : List Rc) (pl : List PE) (l : List Oper) : Prop :=
  ∃ ext s', Good P ops s0 (ext ++ rest) ∧ ext.length = pl.length ∧ (∀ k q, At (ext ++ rest) k q → rest.length ≤ k → pl[k - rest.length]? = some q.pe) ∧ Sub0 s0 (ext ++ rest) s' ∧ nxR s0.nx (ext ++ rest) ≤ GB ∧
      opsW P T md ops.toList (l.drop pl.length) s' K ∧ pl.length ≤ l.length

theorem draw_extract (hT : TOk P T) {ops : Array Oper} {K : AS → Prop} {s0 : AS} : ∀ (pl : List PE) (l pre : List Oper) (rest : List Rc) (rg : List (Nat × Nat × Nat)) (s : AS), ops.toList = pre ++ l → pre.length = rest.length →
    Good P ops s0 rest → Rg rest rg → Sub0 s0 rest s → nxR s0.nx rest ≤ GB → drawA P T md ops.toList K pl l rest.length rg s →
    Ext P T md ops K s0 rest pl l
  | [], l, pre, rest, rg, s, hops, hpre, hG, hR, hS, hN, h => ⟨[], s, hG, rfl, (fun k q hq hk => (by have := At.lt hq; simp at this; omega)), hS, hN, h, by simp⟩
  | p :: pl, [], pre, rest, rg, s, hops, hpre, hG, hR, hS, hN, h => by simp only [drawA] at h
  | p :: pl, o :: l, pre, rest, rg, s, hops, hpre, hG, hR, hS, hN, h => by
    have ho : ops[rest.length]? = some o := by
      rw [← Array.getElem?_toList, hops, ← hpre]; simp
    -- one record more
    have go : ∀ (tm1 : List (Nat × AV)) (v : AV) (nb : List (Nat × ABlk)) (nx' : Nat), (∀ t v, lk tm1 t = some v → lk s.tm t = some v) →
        dPut o.dst s.nt v tm1 (fun tm => drawA P T md ops.toList K pl l (rest.length + 1) (rgN rest.length s.nx nx' rg) ⟨tm, catH nb s.hp, nx', s.nt, s.k0⟩) →
        nx' ≤ GB → ((∀ d, o.dst = some d → d < s0.nt) → Fact P ops s0 ⟨o.dst, v, nb, s.nx, nx', p⟩ rest) →
        Ext P T md ops K s0 rest (p :: pl) (o :: l) := by
      intro tm1 v nb nx' htm1 hd hnx hF
      obtain ⟨hdn, hk⟩ : (∀ d, o.dst = some d → d < s0.nt) ∧ drawA P T md ops.toList K pl l (rest.length + 1) (rgN rest.length s.nx nx' rg) ⟨putT o.dst v tm1, catH nb s.hp, nx', s.nt, s.k0⟩ := by
        unfold dPut at hd
        cases hdd : o.dst with
        | none => rw [hdd] at hd; exact ⟨fun d h => (by cases h), hd⟩
        | some d =>
          rw [hdd] at hd
          obtain ⟨h1, h2⟩ := lit_iff.1 hd
          refine ⟨fun d' h => ?_, h2⟩
          injection h with h; subst h
          rw [← hS.nt]; simpa using h1
      have hF := hF hdn
      have hG2 : Good P ops s0 (⟨o.dst, v, nb, s.nx, nx', p⟩ :: rest) := ⟨hG, hF⟩
      have hS2 : Sub0 s0 (⟨o.dst, v, nb, s.nx, nx', p⟩ :: rest) ⟨putT o.dst v tm1, catH nb s.hp, nx', s.nt, s.k0⟩ := by
        refine ⟨rfl, hS.nt, hS.k0, fun t u h => ?_, fun i c h => ?_⟩
        · show lk (putT o.dst v (tmR (fun _ => true) s0.tm rest)) t = some u
          have h : lk (putT o.dst v tm1) t = some u := h
          rw [lk_putT] at h ⊢
          split at h
          · rename_i e; rw [if_pos e]; exact h
          · rename_i e; rw [if_neg e]; exact hS.tm t u (htm1 t u h)
        · show lk (nb ++ hpR (fun _ => true) s0.hp rest) i = some c
          have h : lk (catH nb s.hp) i = some c := h
          rw [lk_catH] at h
          rw [lk_append] at h ⊢
          cases hn : lk nb i with
          | some c2 => rw [hn] at h; exact h
          | none => rw [hn] at h; exact hS.hp i c h
      have hR2 : Rg (⟨o.dst, v, nb, s.nx, nx', p⟩ :: rest) (rgN rest.length s.nx nx' rg) := by
        refine ⟨fun k q hq => ?_⟩
        unfold rgN
        rcases hq with ⟨e1, e2⟩ | hq
        · subst e1; subst e2
          cases hb : Nat.beq nx' s.nx with
          | true => exact .inl (Nat.eq_of_beq_eq_true hb)
          | false => exact .inr (by simp)
        · rcases hR.all k q hq with e | e
          · exact .inl e
          · right; split
            · exact e
            · exact List.mem_cons_of_mem _ e
      obtain ⟨ext, s', g1, g2, g3, g4, g5, g6, g7⟩ := draw_extract hT pl l (pre ++ [o]) (⟨o.dst, v, nb, s.nx, nx', p⟩ :: rest) (rgN rest.length s.nx nx' rg) _ (by simp [hops]) (by simp [hpre]) hG2 hR2 hS2 hnx hk
      refine ⟨ext ++ [⟨o.dst, v, nb, s.nx, nx', p⟩], s', by simpa using g1, by simp [g2], ?_, by simpa using g4, by simpa using g5, by simpa using g6, by simp; omega⟩
      intro k q hq hk
      rw [List.append_assoc] at hq
      by_cases e : k = rest.length
      · subst e
        have h1 : At (⟨o.dst, v, nb, s.nx, nx', p⟩ :: rest) rest.length q := At.low hq (by simp)
        rcases h1 with ⟨_, h1⟩ | h1
        · subst h1; simp
        · have := At.lt h1; omega
      · have := g3 k q hq (by simp; omega)
        rw [show k - rest.length = (k - (rest.length + 1)) + 1 by omega]
        simpa using this
    -- the part that the operation sees
    have hk1 : ∀ t v, lk (keepT p.dl s.tm) t = some v → lk (tmR (fun _ => true) s0.tm rest) t = some v ∧ t ∉ p.dl := fun t v h => by
      obtain ⟨h1, h2⟩ := lk_keepT h; exact ⟨hS.tm t v h1, h2⟩
    have hh1 : ∀ i c, lk (keepD p.hd (keepH' (holes p.un rg) s.hp)) i = some c → lk (hpR (fun _ => true) s0.hp rest) i = some c ∧ (∀ k q, At rest k q → k ∈ p.un → outside q.b q.b' i) ∧ i ∉ p.hd := fun i c h => by
      obtain ⟨h0, h3⟩ := lk_keepD h
      obtain ⟨h1, h2⟩ := lk_keepH' h0; exact ⟨hS.hp i c h1, fun k q hq hk => hR.out h2 hq hk, h3⟩
    -- an operation that runs
    have run : ∀ (tm0 tm1 : List (Nat × AV)), (∀ t v, lk tm0 t = some v → lk (tmR (fun _ => true) s0.tm rest) t = some v ∧ t ∉ p.dl) → (∀ t v, lk tm1 t = some v → lk s.tm t = some v) →
        (∀ (E : Env) (R : Ren) (a : Act) (w : World), Fit E R ⟨tm0, keepD p.hd (keepH' (holes p.un rg) s.hp), s.nx, s.nt, s.nx⟩ a w → Region.wanted o (yielded ops a.tmps) = true) →
        quietA P T md ⟨tm0, keepD p.hd (keepH' (holes p.un rg) s.hp), s.nx, s.nt, s.nx⟩ o.op (dNew p.ws s.nx (dNext (holes p.un rg) fun v nb nx' => dPut o.dst s.nt v tm1 fun tm => drawA P T md ops.toList K pl l (rest.length + 1) (rgN rest.length s.nx nx' rg) ⟨tm, catH nb s.hp, nx', s.nt, s.k0⟩)) → Ext P T md ops K s0 rest (p :: pl) (o :: l) :=
      fun tm0 tm1 h0 h1 hw hq => by
        obtain ⟨v, nb, nx', hk, hle, hnb, hrun⟩ := quietA_det (o := o) hT hq
        obtain ⟨hws, hk⟩ := dNew_elim hk
        obtain ⟨hnx, ⟨av1, av2⟩, hk⟩ := dNext_elim hk
        refine go tm1 v nb nx' h1 hk hnx fun hdn => ⟨⟨o, tm0, keepD p.hd (keepH' (holes p.un rg) s.hp), ho, rfl, hdn, h0, hh1, fun i c hc => (hnb i c hc).1, ?_⟩, hS.nx, hle, fun i c hc => ⟨hws i c hc, (hnb i c hc).2⟩, ?_⟩
        · intro E R a w n r Q hb F
          unfold wpOpIn
          simp only [ho]
          rw [if_pos]
          · have := hrun E R a w n r Q (by rw [hS.nt]; exact F)
            rw [← hS.nt]; exact this
          · exact hw E R a w (by rw [hS.nt]; exact F)
        · intro k q hq hk
          exact ⟨av1.mono fun i hi => hR.out hi hq hk, fun i c hc => (av2 (i, c) (mem_lk hc)).mono fun i hi => hR.out hi hq hk⟩
    -- one that is passed over
    have skip : ∀ (tm0 tm1 : List (Nat × AV)), (∀ t v, lk tm0 t = some v → lk (tmR (fun _ => true) s0.tm rest) t = some v ∧ t ∉ p.dl) → (∀ t v, lk tm1 t = some v → lk s.tm t = some v) →
        (∀ (E : Env) (R : Ren) (a : Act) (w : World), Fit E R ⟨tm0, keepD p.hd (keepH' (holes p.un rg) s.hp), s.nx, s.nt, s.nx⟩ a w → Region.wanted o (yielded ops a.tmps) = false) →
        (dPut o.dst s.nt (.t []) tm1 fun tm => drawA P T md ops.toList K pl l (rest.length + 1) rg ⟨tm, s.hp, s.nx, s.nt, s.k0⟩) → Ext P T md ops K s0 rest (p :: pl) (o :: l) :=
      fun tm0 tm1 h0 h1 hw hq => by
        refine go tm1 (.t []) [] s.nx h1 ?_ (by rw [hS.nx]; exact hN) fun hdn => ⟨⟨o, tm0, keepD p.hd (keepH' (holes p.un rg) s.hp), ho, rfl, hdn, h0, hh1, (fun i c h => by cases h), ?_⟩, hS.nx, Nat.le_refl _, (fun i c h => by cases h), ?_⟩
        · have : rgN rest.length s.nx s.nx rg = rg := by simp [rgN]
          rw [this]; exact hq
        · intro E R a w n r Q hb F
          unfold wpOpIn
          simp only [ho]
          rw [if_neg]
          · exact ⟨fun f _ => trivial, undef, R, rfl, F, conV_undef R, fun e he => by cases he⟩
          · have := hw E R a w (by rw [hS.nt]; exact F)
            rw [this]; simp
        · intro k q hq hk
          exact ⟨(fun e he => (by cases he)), fun i c hc => (by cases hc)⟩
    simp only [drawA, AS.on_eq, dCat_eq] at h
    split at h
    · rename_i hg
      exact run _ _ hk1 (fun _ _ h => h) (fun E R a w F => by simp [Region.wanted, hg]) h
    · rename_i j want hg
      split at h <;> try exact h.elim
      rename_i d hd
      have hy : ∀ (a : Act), yielded ops a.tmps j = match a.tmps[d]? with | some (.bool b) => some b | _ => none := fun a => by
        have : (ops[j]?).bind (·.dst) = some d := by rw [← Array.getElem?_toList]; exact hd
        simp only [yielded, this, Option.bind_some]
        cases a.tmps[d]? with
        | none => rfl
        | some v => cases v <;> rfl
      split at h <;> try exact h.elim
      · rename_i b hb
        have ext : ∀ b2, b = b2 → ∀ (tm : List (Nat × AV)) t v, lk tm d = some (.c (.bool b)) → lk ((d, .c (.bool b2)) :: tm) t = some v → lk tm t = some v := by
          intro b2 e tm t v h1 h2
          simp only [lk] at h2
          split at h2
          · rename_i e2; subst e2; rw [h1, e]; exact h2
          · exact h2
        have hb' := (lk_keepT hb).1
        have yb : ∀ (b2 : Bool), b = b2 → ∀ (E : Env) (R : Ren) (a : Act) (w : World), Fit E R ⟨(d, .c (.bool b2)) :: keepT p.dl s.tm, keepD p.hd (keepH' (holes p.un rg) s.hp), s.nx, s.nt, s.nx⟩ a w → yielded ops a.tmps j = some b2 := fun b2 e E R a w F => by
          obtain ⟨u, hu, hc⟩ := F.tm d (.c (.bool b2)) (by simp [lk])
          simp only [conV, conC] at hc
          subst hc
          rw [hy, hu]
        by_cases hbw : b = want
        · refine run _ _ (fun t v ht => hk1 t v (ext want hbw _ t v hb ht)) (fun t v ht => ext want hbw _ t v hb' ht) (fun E R a w F => ?_) (h.1 hbw)
          have := yb want hbw E R a w F
          simp [Region.wanted, hg, this]
        · have hb2 : b = !want := by cases b <;> cases want <;> simp_all
          refine skip ((d, .c (.bool (!want))) :: keepT p.dl s.tm) _ (fun t v ht => hk1 t v (ext (!want) hb2 _ t v hb ht)) (fun t v ht => ext (!want) hb2 _ t v hb' ht) (fun E R a w F => ?_) (h.2 hb2)
          have := yb (!want) hb2 E R a w F
          cases want <;> simp [Region.wanted, hg, this]
      · rename_i hb
        refine skip _ _ hk1 (fun _ _ h => h) (fun E R a w F => ?_) h
        obtain ⟨u, hu, hc⟩ := F.tm d _ hb
        obtain ⟨vs, rfl, _, _⟩ := hc
        have hy2 : yielded ops a.tmps j = none := by rw [hy, hu]
        simp [Region.wanted, hg, hy2]

end Go.AH

/-
  A region that draws its order: the rule.
-/
namespace Go.AH
open Go.RowKit

variable {P : Program} {T : Nat → Option TI} {md : Bool} {E : Env} {R R2 : Ren} {s : AS} {a : Act} {w w' : World} {n : Nat} {r : Option Nat}

/-- How many of the first N have not come up. -/
def unl (listed : Array Bool) : Nat → Nat
  | 0 => 0
  | k + 1 => unl listed k + (if listed.getD k false = true then 0 else 1)
theorem getD_set {listed : Array Bool} {i k : Nat} (hi : i < listed.size) : (listed.setIfInBounds i true).getD k false = if k = i then true else listed.getD k false := by
  by_cases e : k = i
  · subst e; simp [hi]
  · rw [if_neg e, getD_set_ne false (fun h => e h.symm)]
theorem unl_set {listed : Array Bool} {i : Nat} (hi : i < listed.size) (hn : listed.getD i false = false) : ∀ N, unl (listed.setIfInBounds i true) N + (if i < N then 1 else 0) = unl listed N
  | 0 => by simp [unl]
  | k + 1 => by
    have ih := unl_set hi hn k
    simp only [unl, getD_set hi]
    by_cases e : k = i
    · subst e
      rw [if_neg (Nat.lt_irrefl _)] at ih
      rw [hn]; simp; omega
    · rw [if_neg e]
      by_cases h : i < k
      · rw [if_pos h] at ih; rw [if_pos (show i < k + 1 by omega)]; omega
      · rw [if_neg h] at ih; rw [if_neg (show ¬ i < k + 1 by omega)]; omega
theorem unl_zero {listed : Array Bool} : ∀ {N : Nat}, unl listed N = 0 → ∀ k, k < N → listed.getD k false = true
  | N + 1, h, k, hk => by
    simp only [unl] at h
    by_cases e : listed.getD N false = true
    · by_cases e2 : k = N
      · subst e2; exact e
      · exact unl_zero (N := N) (by omega) k (by omega)
    · rw [if_neg e] at h; omega
theorem unl_le (listed : Array Bool) : ∀ N, unl listed N ≤ N
  | 0 => Nat.le_refl _
  | k + 1 => by have := unl_le listed k; simp only [unl]; split <;> omega

variable {ops : Array Oper} {pl : List PE} {Q : Exit → Act → World → Prop}

/-- Behind the plan the text's order is the only one. -/
theorem tail_any (hP : PlanP ops pl) : ∀ (d q fuel : Nat) (listed : Array Bool) (a : Act) (w : World), q + d = ops.size → pl.length ≤ q → d ≤ fuel → listed.size = ops.size → (∀ k, k < ops.size → (listed.getD k false = true ↔ k < q)) →
    wpOpsIn (FW r) n P ops Q (List.range' q d) a w → wpAnyIn (FW r) n P .any ops Q fuel listed a w := by
  have ready : ∀ (q : Nat) (listed : Array Bool), pl.length ≤ q → listed.size = ops.size → (∀ k, k < ops.size → (listed.getD k false = true ↔ k < q)) → ∀ i, i ∈ Region.ready .any ops listed ↔ (i = q ∧ q < ops.size) := by
    intro q listed hq hsz hl i
    rw [mem_ready]
    constructor
    · rintro ⟨h0, o, ho, hall⟩
      have hi : i < ops.size := (Array.getElem?_eq_some_iff.1 ho).1
      have h0' : listed.getD i false = false := by
        have : listed.getD i true = listed.getD i false := by simp [hsz, hi]
        rw [← this]; exact h0
      have hqi : q ≤ i := by
        by_cases h : i < q
        · rw [(hl i hi).2 h] at h0'; cases h0'
        · omega
      by_cases e : i = q
      · exact ⟨e, by omega⟩
      · exfalso
        obtain ⟨e, he, hb, h⟩ := hP.suf i o ho (by simp; omega) q (by omega)
        have h1 := hall e he hb
        have h2 := hP.lo i o ho e he hb
        have h3 := (hl e.on (by omega)).1 h1
        rcases h with h | ⟨_, ⟨p, hp, hj⟩ | ⟨_, hj⟩⟩
        · omega
        · have hlt := (List.getElem?_eq_some_iff.1 hp).1
          have hx : e.on < ops.size := by omega
          have := (hP.bf e.on _ p (Array.getElem?_eq_getElem hx) hp q hj).1
          omega
        · omega
    · rintro ⟨rfl, hi⟩
      have h0 : listed.getD i true = false := by
        have h1 : ¬ listed.getD i false = true := fun h => by have := (hl i hi).1 h; omega
        have : listed.getD i true = listed.getD i false := by simp [hsz, hi]
        rw [this]; simpa using h1
      exact ⟨h0, ops[i], Array.getElem?_eq_getElem hi, fun e he hb => by
        have h2 := hP.lo i _ (Array.getElem?_eq_getElem hi) e he hb
        exact (hl e.on (by omega)).2 h2⟩
  intro d
  induction d with
  | zero =>
    intro q fuel listed a w hqd hq hf hsz hl h
    have hr : Region.ready .any ops listed = [] := List.eq_nil_iff_forall_not_mem.2 fun i hi => by
      have := (ready q listed hq hsz hl i).1 hi; omega
    have h : Q .normal a w := by simpa [wpOpsIn] using h
    cases fuel with
    | zero => exact ⟨hr, h⟩
    | succ f => exact ⟨fun _ => h, fun i hi => by rw [hr] at hi; cases hi⟩
  | succ d ih =>
    intro q fuel listed a w hqd hq hf hsz hl h
    cases fuel with
    | zero => omega
    | succ f =>
      refine ⟨fun hr => ?_, fun i hi => ?_⟩
      · have := (ready q listed hq hsz hl q).2 ⟨rfl, by omega⟩
        rw [hr] at this; cases this
      · obtain ⟨rfl, hi2⟩ := (ready q listed hq hsz hl i).1 hi
        rw [List.range'_succ, wpOpsIn_cons] at h
        refine wpOpIn_mono (fun a w h => ih (i + 1) f _ a w (by omega) (by omega) (by omega) (by simp [hsz]) (fun k hk => ?_) h) h
        rw [getD_set (by omega)]
        by_cases e : k = i
        · simp [e]
        · rw [if_neg e, hl k hk]; omega

theorem any_of_walk {s0 : AS} {Rs : List Rc} (hP : PlanP ops pl) (hlen : Rs.length = pl.length) (hsz' : pl.length ≤ ops.size) (hpe : ∀ k q, At Rs k q → pl[k]? = some q.pe) (hG : Good P ops s0 Rs)
    (hfin : ∀ a w, JJ s0 Rs E (fun _ => true) a w → wpOpsIn (FW r) n P ops Q (List.range' pl.length (ops.size - pl.length)) a w) :
    ∀ (fuel : Nat) (listed : Array Bool) (a : Act) (w : World), listed.size = ops.size → unl listed pl.length + (ops.size - pl.length) ≤ fuel → (∀ k, pl.length ≤ k → k < ops.size → listed.getD k false = false) →
      (∀ k q, At Rs k q → listed.getD k false = true → ∀ j ∈ q.pe.bf, listed.getD j false = true) → JJ s0 Rs E (fun k => listed.getD k false) a w → wpAnyIn (FW r) n P .any ops Q fuel listed a w := by
  have opsAt : ∀ k q, At Rs k q → ∃ o, ops[k]? = some o ∧ q.dst = o.dst := fun k q hq => by
    obtain ⟨pre, rest, e, hl⟩ := hq.split
    have := (Good.suf (pre := pre) (l := q :: rest) (by rw [← e]; exact hG)).2.run
    obtain ⟨o, _, _, ho, hd, _⟩ := this
    exact ⟨o, by rw [← hl]; exact ho, hd⟩
  have plan : Plan ops Rs := ⟨fun i k p q hp hq hik hn => by
      obtain ⟨oi, hoi, hdi⟩ := opsAt i p hp
      obtain ⟨ok, hok, hdk⟩ := opsAt k q hq
      have := hP.un k ok q.pe i oi p.pe hok (hpe k q hq) hik hoi (hpe i p hp) hn
      exact ⟨fun d h => this.2.2.1 d (by rw [← hdk]; exact h), fun d h => this.2.1 d (by rw [← hdi]; exact h), this.1, this.2.2.2.2, this.2.2.2.1⟩,
    fun i k p q d hp hq hik h1 h2 => by
      obtain ⟨oi, hoi, hdi⟩ := opsAt i p hp
      obtain ⟨ok, hok, hdk⟩ := opsAt k q hq
      exact hP.same k ok q.pe i oi p.pe d hok (hpe k q hq) hik hoi (hpe i p hp) (by rw [← hdi]; exact h1) (by rw [← hdk]; exact h2)⟩
  intro fuel
  induction fuel with
  | zero =>
    intro listed a w hsz hf hno hdown hJ
    have hall := unl_zero (listed := listed) (N := pl.length) (by omega)
    have hJ' : JJ s0 Rs E (fun _ => true) a w := by
      obtain ⟨R, F, h1, h2, h3, h4⟩ := hJ
      have e1 : ∀ k q, At Rs k q → (fun k => listed.getD k false) k = (fun _ => true) k := fun k q hq => hall k (by have := hq.lt; omega)
      refine ⟨R, ((F.tm_sub (tm' := tmR (fun _ => true) s0.tm Rs) fun t v h => ?_).hp_sub (hp' := hpR (fun _ => true) s0.hp Rs) fun i c h => ?_), h1, h2, h3, fun i q hq _ => h4 i q hq (e1 i q hq)⟩
      · rw [← h]; exact tmR_S fun k q hq _ => e1 k q hq
      · show lk (hpR _ s0.hp Rs) i = some c
        rw [← h]; exact hpR_S fun k q hq _ => e1 k q hq
    refine tail_any hP (ops.size - pl.length) pl.length 0 listed a w (by omega) (Nat.le_refl _) (by omega) hsz (fun k hk => ?_) (hfin a w hJ')
    constructor
    · intro h; by_cases e : k < pl.length
      · exact e
      · rw [hno k (by omega) hk] at h; cases h
    · exact hall k
  | succ f ih =>
    intro listed a w hsz hf hno hdown hJ
    by_cases hz : unl listed pl.length = 0
    · have hall := unl_zero (listed := listed) (N := pl.length) hz
      have hJ' : JJ s0 Rs E (fun _ => true) a w := by
        obtain ⟨R, F, h1, h2, h3, h4⟩ := hJ
        have e1 : ∀ k q, At Rs k q → (fun k => listed.getD k false) k = (fun _ => true) k := fun k q hq => hall k (by have := hq.lt; omega)
        refine ⟨R, ((F.tm_sub (tm' := tmR (fun _ => true) s0.tm Rs) fun t v h => ?_).hp_sub (hp' := hpR (fun _ => true) s0.hp Rs) fun i c h => ?_), h1, h2, h3, fun i q hq _ => h4 i q hq (e1 i q hq)⟩
        · rw [← h]; exact tmR_S fun k q hq _ => e1 k q hq
        · show lk (hpR _ s0.hp Rs) i = some c
          rw [← h]; exact hpR_S fun k q hq _ => e1 k q hq
      refine tail_any hP (ops.size - pl.length) pl.length (f + 1) listed a w (by omega) (Nat.le_refl _) (by omega) hsz (fun k hk => ?_) (hfin a w hJ')
      constructor
      · intro h; by_cases e : k < pl.length
        · exact e
        · rw [hno k (by omega) hk] at h; cases h
      · exact hall k
    · -- some of the plan have not come up
      have least : ∃ i, i < pl.length ∧ listed.getD i false = false ∧ ∀ k, k < i → listed.getD k false = true := by
        have : ∀ N, unl listed N ≠ 0 → ∃ i, i < N ∧ listed.getD i false = false ∧ ∀ k, k < i → listed.getD k false = true := by
          intro N
          induction N with
          | zero => intro h; exact absurd rfl h
          | succ N ih2 =>
            intro h
            by_cases h2 : unl listed N = 0
            · refine ⟨N, by omega, ?_, unl_zero h2⟩
              cases e : listed.getD N false with
              | false => rfl
              | true => simp only [unl, h2, e] at h; simp at h
            · obtain ⟨i, h3, h4⟩ := ih2 h2
              exact ⟨i, by omega, h4⟩
        exact this _ hz
      obtain ⟨i0, hi0, hun0, hlow⟩ := least
      refine ⟨fun hr => ?_, fun i hi => ?_⟩
      · exfalso
        have hlt : i0 < ops.size := by omega
        have : i0 ∈ Region.ready .any ops listed := mem_ready.2 ⟨by
          have : listed.getD i0 true = listed.getD i0 false := by simp [hsz, hlt]
          rw [this]; exact hun0, ops[i0], Array.getElem?_eq_getElem hlt, fun e he hb => hlow _ (hP.lo i0 _ (Array.getElem?_eq_getElem hlt) e he hb)⟩
        rw [hr] at this; cases this
      · obtain ⟨h0, o, ho, hall⟩ := mem_ready.1 hi
        have hlt : i < ops.size := (Array.getElem?_eq_some_iff.1 ho).1
        have h0' : listed.getD i false = false := by
          have : listed.getD i true = listed.getD i false := by simp [hsz, hlt]
          rw [← this]; exact h0
        -- what comes before has come up
        have before : ∀ j, (∃ e ∈ o.after, Region.binds .any e = true ∧ (e.on = j ∨ (e.on < i ∧ ((∃ q, pl[e.on]? = some q ∧ j ∈ q.bf) ∨ (pl[e.on]? = none ∧ j < e.on))))) → listed.getD j false = true := by
          rintro j ⟨e, he, hb, h⟩
          have h1 := hall e he hb
          rcases h with h | ⟨h2, ⟨q, hq, hj⟩ | ⟨hq, hj⟩⟩
          · rw [← h]; exact h1
          · obtain ⟨q', hq'⟩ := At.of_lt (l := Rs) (i := e.on) (by rw [hlen]; exact (List.getElem?_eq_some_iff.1 hq).1)
            have h3 := hpe _ q' hq'
            rw [hq] at h3; injection h3 with h3
            exact hdown e.on q' hq' h1 j (by rw [← h3]; exact hj)
          · have : pl.length ≤ e.on := by simpa using hq
            rw [hno e.on this (by omega)] at h1; cases h1
        have him : i < pl.length := by
          by_cases h : i < pl.length
          · exact h
          · exfalso
            have := before i0 (hP.suf i o ho (by simp; omega) i0 (by omega))
            rw [hun0] at this; cases this
        obtain ⟨p, hp⟩ := At.of_lt (l := Rs) (i := i) (by omega)
        have hbf : ∀ j ∈ p.pe.bf, listed.getD j false = true := fun j hj => before j (hP.bf i o p.pe ho (hpe i p hp) j hj).2
        refine wpOpIn_mono (fun a' w' hJ' => ih (listed.setIfInBounds i true) a' w' (by simp [hsz]) ?_ ?_ ?_ hJ') (sched_step (S' := fun k => (listed.setIfInBounds i true).getD k false) hG plan hJ hdown hp h0' hbf ⟨?_, ?_⟩)
        · have := unl_set (listed := listed) (i := i) (by omega) h0' pl.length
          rw [if_pos him] at this; omega
        · intro k hk hk2
          rw [getD_set (by omega), if_neg (by omega)]; exact hno k hk hk2
        · intro k q hq hs j hj
          rw [getD_set (by omega)] at hs ⊢
          split
          · rfl
          · by_cases e : k = i
            · subst e
              have e2 : q = p := hq.uniq hp
              subst e2; exact hbf j hj
            · rw [if_neg e] at hs; exact hdown k q hq hs j hj
        · show (listed.setIfInBounds i true).getD i false = true
          rw [getD_set (by omega), if_pos rfl]
        · intro k hk
          show (listed.setIfInBounds i true).getD k false = _
          rw [getD_set (by omega), if_neg hk]

theorem tmR_false (tm : List (Nat × AV)) : ∀ Rs : List Rc, tmR (fun _ => false) tm Rs = tm
  | [] => rfl
  | r :: rest => by simp [tmR, tmR_false tm rest]
theorem hpR_false (hp : List (Nat × ABlk)) : ∀ Rs : List Rc, hpR (fun _ => false) hp Rs = hp
  | [] => rfl
  | r :: rest => by simp [hpR, hpR_false hp rest]

theorem Tr.draw {id : Nat} {Q : Exit → AS → Prop} (pl : List PE) (hT : TOk P T) (hm : P.follows .mixedOrders = true) (hc : planOk ops pl = true) (h : drawA P T md ops.toList (Q .normal) pl ops.toList 0 [] s) : Tr P (.region id ops true) s Q := Tr.intro fun E R a w n r F ht => by
  refine wpIn_region_any hm ?_
  have Fd : Fit E R s a { w with drawn := w.drawn + 1 } := F.keep0 ⟨rfl, rfl, rfl, Nat.le_refl _, fun _ _ _ => rfl⟩
  have hP := planOk_sound hc
  have rep0 : ∀ k, (Array.replicate ops.size false).getD k false = false := fun k => by
    by_cases h : k < ops.size <;> simp [h]
  obtain ⟨Rs, s', hG, hlen, hpe, hS, hN, hops, hle⟩ := draw_extract (s0 := s) hT pl ops.toList [] [] [] s (by simp) rfl trivial ⟨fun k q h => h.elim⟩ ⟨rfl, rfl, rfl, fun _ _ h => h, fun _ _ h => h⟩ Fd.nk.2 h
  rw [List.append_nil] at hG hpe hS hN
  have hle' : pl.length ≤ ops.size := by simpa using hle
  refine any_of_walk (E := E) hP hlen hle' (fun k q hq => by simpa using hpe k q hq (Nat.zero_le _)) hG ?_ ops.size _ a _ (by simp) ?_ ?_ ?_ ?_
  · rintro a' w' ⟨R', F', _⟩
    have F2 : Fit E R' s' a' w' := by
      have := (F'.tm_sub (tm' := s'.tm) hS.tm).hp_sub (hp' := s'.hp) hS.hp
      obtain ⟨tm, hp, nx, nt, k0⟩ := s'
      obtain ⟨e1, e2, e3, _, _⟩ := hS
      simp only at e1 e2 e3
      subst e1; subst e2; subst e3
      exact this
    have hpre : ops.toList = ops.toList.take pl.length ++ ops.toList.drop pl.length := (List.take_append_drop _ _).symm
    have := opsW_sound (P := P) (n := n) (r := r) hT (ops := ops) (K := Q .normal) (Q := fun e a' w' => ∃ R' s', Q e s' ∧ Fit E R' s' a' w') (fun s' R' a' w' hk F' => ⟨R', s', hk, F'⟩) (ops.toList.drop pl.length) (ops.toList.take pl.length) s' R' a' w' hpre hops F2
    have e1 : (List.take pl.length ops.toList).length = pl.length := by simp; omega
    have e2 : (List.drop pl.length ops.toList).length = ops.size - pl.length := by simp
    rw [e1, e2] at this
    exact this
  · have := unl_le (Array.replicate ops.size false) pl.length; omega
  · intro k _ hk; simp [hk]
  · intro k q hq hs; rw [rep0] at hs; cases hs
  · have e : (fun k => (Array.replicate ops.size false).getD k false) = fun _ => false := by funext k; exact rep0 k
    have hnx : s.nx ≤ nxR s.nx Rs := Good.nx0 hG
    refine ⟨R, ?_, Fd.wf.tm, Fd.wf.hp, Fd.nk.1, fun i q hq hs => by rw [e] at hs; cases hs⟩
    have := Fd.ren (R' := R) (m := nxR s.nx Rs) (Agree.refl _ _) Fd.ok hnx hN
    rw [e]
    unfold StR
    rw [tmR_false, hpR_false]
    exact this

#print axioms Tr.draw
end Go.AH

/-
  Handling: weakening where nothing is renumbered, names for blocks of numbers.
-/
namespace Go.AH
open Go.RowKit

theorem AC.ren_id {q : Nat → Nat} (h : ∀ i, q i = i) (x : AC) : x.ren q = x := by
  have hl : ∀ l : List Nat, l.map q = l := fun l => by rw [show q = id from funext h]; simp
  cases x <;> simp only [AC.ren, h, hl]
theorem LL_ren_id {q : Nat → Nat} (h : ∀ i, q i = i) (cs : List AC) : cs.map (AC.ren q) = cs := by
  rw [show AC.ren q = id from funext (AC.ren_id h)]; simp
theorem AE.ren_id {q : Nat → Nat} (h : ∀ i, q i = i) (x : AE) : x.ren q = x := by
  cases x <;> simp only [AE.ren, AC.ren_id h, LL_ren_id h]
theorem AV.ren_id {q : Nat → Nat} (h : ∀ i, q i = i) (x : AV) : x.ren q = x := by
  cases x <;> simp only [AV.ren, AC.ren_id h, LL_ren_id h]
  rw [show AE.ren q = id from funext (AE.ren_id h)]; simp
theorem ABlk.ren_id {q : Nat → Nat} (h : ∀ i, q i = i) (x : ABlk) : x.ren q = x := by
  cases x <;> simp only [ABlk.ren, LL_ren_id h]
  rename_i m
  rw [show (fun p : List AC × AC => (p.1, p.2.ren q)) = id from funext fun p => by simp only [AC.ren_id h]; rfl]
  simp

/-- t's knowledge is in s, number for number. -/
def eqT (tm : List (Nat × AV)) : List (Nat × AV) → Prop
  | [] => True
  | (t, v) :: r => (match lk tm t with | some u => u = v | none => False) ∧ eqT tm r
def eqH (hp : List (Nat × ABlk)) : List (Nat × ABlk) → Prop
  | [] => True
  | (i, b) :: r => (match lk hp i with | some c => c = b | none => False) ∧ eqH hp r
theorem eqT_all {tm : List (Nat × AV)} {q : Nat → Nat} (hq : ∀ i, q i = i) : ∀ {l : List (Nat × AV)}, eqT tm l → lkAll tm q l
  | [], _ => trivial
  | (t, v) :: r, h => ⟨by
      have := h.1
      rw [AV.ren_id hq]
      cases hk : lk tm t with
      | none => rw [hk] at this; exact this.elim
      | some u => rw [hk] at this; rw [this], eqT_all hq h.2⟩
theorem eqH_all {hp : List (Nat × ABlk)} {q : Nat → Nat} (hq : ∀ i, q i = i) : ∀ {l : List (Nat × ABlk)}, eqH hp l → hpAll hp q l
  | [], _ => trivial
  | (t, v) :: r, h => ⟨by
      have := h.1
      rw [ABlk.ren_id hq, hq]
      cases hk : lk hp t with
      | none => rw [hk] at this; exact this.elim
      | some u => rw [hk] at this; rw [this], eqH_all hq h.2⟩

theorem rn_nil (i : Nat) : rn [] i = i := rfl

def nodB : List Nat → Bool
  | [] => true
  | i :: r => !r.elem i && nodB r
theorem nodB_sound : ∀ {l : List Nat}, nodB l = true → l.Nodup
  | [], _ => List.nodup_nil
  | i :: r, h => by
    simp only [nodB, Bool.and_eq_true, Bool.not_eq_true'] at h
    exact List.nodup_cons.2 ⟨by simpa using h.1, nodB_sound h.2⟩

def Sub0T (s t : AS) : Prop := t.nt = s.nt ∧ t.k0 = s.k0 ∧ (t.k0 ≤ t.nx ∧ t.nx ≤ s.nx) ∧ nodB (t.hp.map Prod.fst) = true ∧ tmLt t.nx t.tm ∧ hpLt t.nx t.hp
theorem Sub.nil {s t : AS} (h : Sub0T s t) (htm : eqT s.tm t.tm) (hhp : eqH s.hp t.hp) : Sub s t [] :=
  ⟨h.1, h.2.1, h.2.2.1, (fun p hp => absurd hp (List.not_mem_nil)), eqT_all rn_nil htm, eqH_all rn_nil hhp, nodB_sound h.2.2.2.1, h.2.2.2.2.1, h.2.2.2.2.2⟩

theorem AC.ren_lt_id {q : Nat → Nat} {n : Nat} (h : ∀ i, idOk n i → q i = i) {x : AC} (hx : x.lt n) : x.ren q = x := by
  cases x <;> simp only [AC.ren, AC.lt] at hx ⊢ <;> first | rw [h _ hx] | skip
  rename_i f fs cs
  have : ∀ l : List Nat, (∀ i ∈ l, idOk n i) → l.map q = l := fun l hl => by
    conv => rhs; rw [← List.map_id l]
    exact List.map_congr_left fun i hi => h i (hl i hi)
  rw [this fs hx.1, this cs hx.2]
theorem LL.ren_lt_id {q : Nat → Nat} {n : Nat} (h : ∀ i, idOk n i → q i = i) {cs : List AC} (hx : LL n cs) : cs.map (AC.ren q) = cs := by
  conv => rhs; rw [← List.map_id cs]
  exact List.map_congr_left fun x hi => AC.ren_lt_id h (hx x hi)
theorem AE.ren_lt_id {q : Nat → Nat} {n : Nat} (h : ∀ i, idOk n i → q i = i) {x : AE} (hx : x.lt n) : x.ren q = x := by
  cases x with
  | c x => simp only [AE.ren, AC.ren_lt_id h hx]
  | g cs => simp only [AE.ren, LL.ren_lt_id h hx]
theorem AV.ren_lt_id {q : Nat → Nat} {n : Nat} (h : ∀ i, idOk n i → q i = i) {x : AV} (hx : x.lt n) : x.ren q = x := by
  cases x with
  | c x => simp only [AV.ren, AC.ren_lt_id h hx]
  | g cs => simp only [AV.ren, LL.ren_lt_id h hx]
  | t es =>
    simp only [AV.ren]
    congr 1
    conv => rhs; rw [← List.map_id es]
    exact List.map_congr_left fun e hi => AE.ren_lt_id h (hx e hi)
theorem ABlk.ren_lt_id {q : Nat → Nat} {n : Nat} (h : ∀ i, idOk n i → q i = i) {x : ABlk} (hx : x.lt n) : x.ren q = x := by
  cases x with
  | ro cs => simp only [ABlk.ren, LL.ren_lt_id h hx]
  | own cs => simp only [ABlk.ren, LL.ren_lt_id h hx]
  | row e z cs => simp only [ABlk.ren, LL.ren_lt_id h hx]
  | mp m =>
    simp only [ABlk.ren]
    congr 1
    conv => rhs; rw [← List.map_id m]
    exact List.map_congr_left fun p hi => by rw [LL.ren_lt_id h (hx p hi).1, AC.ren_lt_id h (hx p hi).2]; rfl
  | mi I => rfl
  | si s p => rfl
  | li I => rfl
theorem qf_id {k : Nat} (i : Nat) (h : idOk k i) : qf k [] i = i := by
  unfold qf
  rcases h with h | h
  · rw [if_pos h]
  · by_cases h2 : i < k
    · rw [if_pos h2]
    · rw [if_neg h2, if_pos h]

/-- Nothing new is handed back. -/
theorem Fin.nil {s : AS} {r : AV} {Post : AV → List (Nat × ABlk) → Nat → Prop} (hp' : List (Nat × ABlk)) (hpost : Post r hp' s.k0) (hr : r.lt s.k0) (hh : eqH s.hp hp') (hl : hpLt s.k0 hp') (hn : nodB (hp'.map Prod.fst) = true) (hk : s.k0 ≤ GB) : Fin s r Post := by
  refine Fin.mk [] r hp' ⟨by simpa using hpost, AV.ren_lt_id qf_id hr, ?_, ?_, nodB_sound hn, by simpa using hr, by simpa using hl, by simpa using hk⟩
  · clear hpost hn
    induction hp' with
    | nil => trivial
    | cons p r ih =>
      obtain ⟨i, b⟩ := p
      obtain ⟨h1, h2, h3⟩ := hl
      refine ⟨?_, ih hh.2 h3⟩
      rw [qf_id i h1, ABlk.ren_lt_id qf_id h2]
      have := hh.1
      cases hk : lk s.hp i with
      | none => rw [hk] at this; exact this.elim
      | some u => rw [hk] at this; rw [this]
  · have : (hp'.map fun p => qf s.k0 [] p.1) = hp'.map Prod.fst := by
      clear hpost hh hn
      induction hp' with
      | nil => rfl
      | cons p r ih =>
        obtain ⟨i, b⟩ := p
        simp only [List.map_cons, qf_id i hl.1, ih hl.2.2]
    rw [this]; exact nodB_sound hn

/-! ### Blocks of numbers -/
def ints (xs : List Int) : List AC := xs.map (AC.int .i64)
theorem ints_len (xs : List Int) : (ints xs).length = xs.length := by simp [ints]
theorem ints_LL (n : Nat) (xs : List Int) : LL n (ints xs) := fun x hx => by
  obtain ⟨y, _, rfl⟩ := List.mem_map.1 hx; trivial
theorem ints_ren (q : Nat → Nat) (xs : List Int) : (ints xs).map (AC.ren q) = ints xs := by
  simp [ints, Function.comp_def, AC.ren]
theorem ints_getD (xs : List Int) (i : Nat) (d : Int) : (ints xs).getD i (.int .i64 d) = .int .i64 (xs.getD i d) := by
  simp [ints, List.getD_eq_getElem?_getD]
theorem ints_set (xs : List Int) (i : Nat) (d : Int) : (ints xs).set i (.int .i64 d) = ints (xs.set i d) := by
  simp [ints, List.map_set]
theorem ints_app (xs ys : List Int) : ints xs ++ ints ys = ints (xs ++ ys) := by simp [ints]
theorem ints_nil : [] = ints [] := rfl

end Go.AH

/-
  Handling: calls whose contract says all.
-/
namespace Go.AH
open Go.RowKit

/-- A contract that says all. -/
def FDet (P : Program) (f : FuncId) (args : List AV) (hp : List (Nat × ABlk)) (k : Nat) (r : AV) (hp1 : List (Nat × ABlk)) (k1 : Nat) : Prop :=
  FSpec P f args hp k (fun r' hp' k' => r' = r ∧ hp' = hp1 ∧ k' = k1)

variable {P : Program} {f : FuncId} {vs : List AV} {s : AS} {kk : AV → AS → Prop} {kq : AV → List (Nat × ABlk) → Nat → Prop}

/-- What is handed over lies there. -/
def lies (l : List Nat) (n : Nat) (hp : List (Nat × ABlk)) : List (Nat × ABlk) → Prop
  | [] => True
  | (i, b) :: r => ((i < l.length ∨ GB ≤ i) ∧ match lk hp (qq l n i) with
    | some b' => (match b with
      | .ro cs => b'.cells = some (cs.map (AC.ren (qq l n))) ∨ (cs = [] ∧ b'.cells.isSome = true)
      | b => b' = b.ren (qq l n))
    | none => False) ∧ lies l n hp r
theorem lies_get {l : List Nat} {n : Nat} {hp : List (Nat × ABlk)} : ∀ {hp0 : List (Nat × ABlk)}, lies l n hp hp0 → ∀ i b, lk hp0 i = some b → (i < l.length ∨ GB ≤ i) ∧ ∃ b', lk hp (qq l n i) = some b' ∧ Gives b' (b.ren (qq l n))
  | (j, c) :: r, h, i, b, hb => by
    simp only [lk] at hb
    split at hb
    · rename_i e; subst e; injection hb with hb; subst hb
      obtain ⟨⟨h1, h2⟩, _⟩ := h
      refine ⟨h1, ?_⟩
      cases hq : lk hp (qq l n j) with
      | none => rw [hq] at h2; exact h2.elim
      | some b' =>
        rw [hq] at h2
        refine ⟨b', rfl, ?_⟩
        cases c with
        | ro cs =>
          rcases h2 with h2 | ⟨h2, h3⟩
          · exact .inr ⟨_, _, rfl, h2, .inl rfl⟩
          · obtain ⟨cs', hcs⟩ := Option.isSome_iff_exists.1 h3
            subst h2
            exact .inr ⟨_, _, rfl, hcs, .inr rfl⟩
        | own cs => exact .inl h2
        | row e z cs => exact .inl h2
        | mp m => exact .inl h2
        | mi I => exact .inl h2
        | si s p => exact .inl h2
        | li I => exact .inl h2
    · exact lies_get h.2 i b hb
def oldB (n : Nat) : List Nat → Bool
  | [] => true
  | i :: r => (Nat.blt i n || Nat.ble GB i) && oldB n r
theorem oldB_sound {n : Nat} : ∀ {l : List Nat}, oldB n l = true → ∀ i ∈ l, idOk n i
  | j :: r, h, i, hi => by
    simp only [oldB, Bool.and_eq_true, Bool.or_eq_true] at h
    rcases List.mem_cons.1 hi with e | hi
    · subst e
      rcases h.1 with h | h
      · exact .inl (by simpa using h)
      · exact .inr (by simpa using h)
    · exact oldB_sound h.2 i hi
def allRo : List (Nat × ABlk) → Bool
  | [] => true
  | (_, b) :: r => !b.wr && allRo r
theorem allRo_sound : ∀ {hp0 : List (Nat × ABlk)}, allRo hp0 = true → ∀ i b, lk hp0 i = some b → b.wr = false
  | (j, c) :: r, h, i, b, hb => by
    simp only [allRo, Bool.and_eq_true, Bool.not_eq_true'] at h
    simp only [lk] at hb
    split at hb
    · injection hb with hb; subst hb; exact h.1
    · exact allRo_sound h.2 i b hb

/-- Different numbers are handed over. -/
theorem qq_inj {l : List Nat} {n i j : Nat} (hl : nodB l = true) (hG : ∀ k ∈ l, k < GB) (hi : i < l.length ∨ GB ≤ i) (hj : j < l.length ∨ GB ≤ j) (hne : i ≠ j) : qq l n i ≠ qq l n j := by
  have hnd := nodB_sound hl
  intro e
  simp only [qq] at e
  by_cases h1 : GB ≤ i <;> by_cases h2 : GB ≤ j
  · rw [if_pos h1, if_pos h2] at e; exact hne e
  · have hj' : j < l.length := by omega
    rw [if_pos h1, if_neg h2, List.getElem?_eq_getElem hj'] at e
    have := hG _ (List.getElem_mem hj'); simp only at e; omega
  · have hi' : i < l.length := by omega
    rw [if_neg h1, if_pos h2, List.getElem?_eq_getElem hi'] at e
    have := hG _ (List.getElem_mem hi'); simp only at e; omega
  · have hi' : i < l.length := by omega
    have hj' : j < l.length := by omega
    rw [if_neg h1, if_neg h2, List.getElem?_eq_getElem hi', List.getElem?_eq_getElem hj'] at e
    simp only at e
    exact hne ((List.getElem_inj hnd).1 e)

/-- A call that reads alone, in a region that draws its order; it hands back nothing new. -/
theorem CallQ.ro {args : List AV} {hp0 : List (Nat × ABlk)} (l : List Nat) {r : AV} (r' : AV) (h : FDet P f args hp0 l.length r [] l.length) (ha : args.map (AV.ren (qq l s.nx)) = vs) (hb : (oldB s.nx l && allRo hp0 && nodB (hp0.map Prod.fst) && Nat.ble s.nx GB && Nat.ble l.length GB) = true)
    (hl : lies l s.nx s.hp hp0) (hr : r.ren (qq l s.nx) = r') (hk : s.on fun _ _ nx _ _ => kq r' [] nx) : CallQ P f vs s kq := by
  simp only [Bool.and_eq_true] at hb
  obtain ⟨⟨⟨⟨b1, b2⟩, b3⟩, b4⟩, b5⟩ := hb
  have b4 : s.nx ≤ GB := by simpa using b4
  have b5 : l.length ≤ GB := by simpa using b5
  refine callQ_intro args hp0 l r [] l.length [] ⟨h, oldB_sound b1, ha, lies_get hl, ?_, List.nodup_nil, ?_, (fun i b h => by cases h), ⟨Nat.le_refl _, b5⟩, nodB_sound b3, (fun p hp => by cases hp), (fun p hp => by cases hp), by simpa using b4⟩ ?_
  · intro i j b c hi _ _ hw
    rw [allRo_sound b2 i b hi] at hw; cases hw
  · intro i b hi hw
    rw [allRo_sound b2 i b hi] at hw; cases hw
  · rw [AS.on_eq] at hk; simpa [hr] using hk

/-- A call that reads alone and hands back nothing new. -/
theorem CallA.ro {args : List AV} {hp0 : List (Nat × ABlk)} (l : List Nat) {r : AV} (r' : AV) (h : FDet P f args hp0 l.length r [] l.length) (ha : args.map (AV.ren (qq l s.nx)) = vs) (hb : (oldB s.nx l && allRo hp0 && Nat.ble s.nx GB) = true)
    (hl : lies l s.nx s.hp hp0) (hr : r.ren (qq l s.nx) = r') (hk : kk r' s) : CallA P f vs s kk := by
  simp only [Bool.and_eq_true] at hb
  obtain ⟨⟨b1, b2⟩, b4⟩ := hb
  have b4 : s.nx ≤ GB := by simpa using b4
  refine callA_intro (args := args) (hp0 := hp0) (l := l) ⟨h, oldB_sound b1, ha, lies_get hl, ?_, ?_⟩
  · intro i j b c hi _ _ hw
    rw [allRo_sound b2 i b hi] at hw; cases hw
  · rintro r2 hp' k' ⟨rfl, rfl, rfl⟩
    have e : gone l s.nx hp0 s.hp = s.hp := by
      clear h hl
      induction hp0 with
      | nil => rfl
      | cons p hp0 ih =>
        obtain ⟨i, b⟩ := p
        simp only [allRo, Bool.and_eq_true, Bool.not_eq_true'] at b2
        simp only [gone, b2.1]
        exact ih b2.2
    have e2 : s.nx + (l.length - l.length) = s.nx := by omega
    refine ⟨by omega, ?_⟩
    rw [hr, e2, behind, e]; exact hk

/-- A call by a contract that says all. -/
theorem CallA.det {args : List AV} {hp0 : List (Nat × ABlk)} (l : List Nat) {r : AV} {hp1 : List (Nat × ABlk)} {k1 : Nat} (r' : AV) (hp2 : List (Nat × ABlk)) (h : FDet P f args hp0 l.length r hp1 k1) (ha : args.map (AV.ren (qq l s.nx)) = vs)
    (hb : (oldB s.nx l && nodB l && (l.all fun i => Nat.blt i GB) && Nat.ble (s.nx + (k1 - l.length)) GB) = true)
    (hl : lies l s.nx s.hp hp0) (hr : r.ren (qq l s.nx) = r') (hh : behind l s.nx hp0 hp1 (gone l s.nx hp0 s.hp) = hp2) (hk : s.on fun tm hp nx nt k0 => kk r' ⟨tm, hp2, nx + (k1 - l.length), nt, k0⟩) : CallA P f vs s kk := by
  simp only [Bool.and_eq_true] at hb
  obtain ⟨⟨⟨b1, b2⟩, b3⟩, b4⟩ := hb
  have b4 : s.nx + (k1 - l.length) ≤ GB := by simpa using b4
  have b3 : ∀ k ∈ l, k < GB := fun k hk => by simpa using List.all_eq_true.1 b3 k hk
  refine callA_intro (args := args) (hp0 := hp0) (l := l) ⟨h, oldB_sound b1, ha, lies_get hl, ?_, ?_⟩
  · intro i j b c hi hj hne _
    exact qq_inj b2 b3 (lies_get hl i b hi).1 (lies_get hl j c hj).1 hne
  · rintro r2 hp' k' ⟨rfl, rfl, rfl⟩
    exact ⟨b4, by rw [hr, hh]; exact hk⟩

end Go.AH
