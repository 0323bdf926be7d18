/-
  A region that draws its order, walked once.
-/
import Derived.Test.YtfphkpdobbffeaaDoorAh15
set_option linter.unusedSimpArgs false
set_option linter.unusedVariables false
namespace Go.AH
open Go.RowKit

/-! ### Calls that leave what they are handed alone -/
structure CallQOk (P : Program) (f : FuncId) (vs : List AV) (s : AS) (args : List AV) (hp0 : List (Nat × ABlk)) (l : List Nat) (r : AV) (hp1 : List (Nat × ABlk)) (k1 : Nat) (nb : List (Nat × ABlk)) : Prop where
  spec : FSpec P f args hp0 l.length (fun r' hp' k' => r' = r ∧ hp' = hp1 ∧ k' = k1)
  old : ∀ i ∈ l, idOk s.nx i
  args : args.map (AV.ren (qq l s.nx)) = vs
  heap : ∀ i b, lk hp0 i = some b → (i < l.length ∨ GB ≤ i) ∧ ∃ b', lk s.hp (qq l s.nx i) = some b' ∧ Gives b' (b.ren (qq l s.nx))
  inj : ∀ i j b c, lk hp0 i = some b → lk hp0 j = some c → i ≠ j → b.wr = true → qq l s.nx i ≠ qq l s.nx j
  nd : (hp1.map Prod.fst).Nodup
  same : ∀ i b, lk hp0 i = some b → b.wr = true → lk hp1 i = some b
  new : ∀ i b, lk nb i = some b → (l.length ≤ i ∧ i < k1) ∧ b.wr = true ∧ lk hp1 i = some b
  le : l.length ≤ k1 ∧ k1 ≤ GB
  nd0 : (hp0.map Prod.fst).Nodup
  hk1 : ∀ p ∈ hp1, p.1 < k1 ∨ GB ≤ p.1
  oldin : ∀ p ∈ hp1, p.2.wr = true → p.1 < l.length ∨ GB ≤ p.1 → lk hp0 p.1 = some p.2
  room : s.nx + (k1 - l.length) ≤ GB

def CallQ (P : Program) (f : FuncId) (vs : List AV) (s : AS) (k : AV → List (Nat × ABlk) → Nat → Prop) : Prop :=
  ∃ args hp0 l r hp1 k1 nb, CallQOk P f vs s args hp0 l r hp1 k1 nb ∧ k (r.ren (qq l s.nx)) (nb.map fun p => (qq l s.nx p.1, p.2.ren (qq l s.nx))) (s.nx + (k1 - l.length))
theorem callQ_intro {P : Program} {f : FuncId} {vs : List AV} {s : AS} {k : AV → List (Nat × ABlk) → Nat → Prop} (args : List AV) (hp0 : List (Nat × ABlk)) (l : List Nat) (r : AV) (hp1 : List (Nat × ABlk)) (k1 : Nat) (nb : List (Nat × ABlk)) (h : CallQOk P f vs s args hp0 l r hp1 k1 nb)
    (hk : k (r.ren (qq l s.nx)) (nb.map fun p => (qq l s.nx p.1, p.2.ren (qq l s.nx))) (s.nx + (k1 - l.length))) : CallQ P f vs s k := ⟨args, hp0, l, r, hp1, k1, nb, h, hk⟩
theorem callQ_elim {P : Program} {f : FuncId} {vs : List AV} {s : AS} {k : AV → List (Nat × ABlk) → Nat → Prop} (h : CallQ P f vs s k) :
    ∃ args hp0 l r hp1 k1 nb, CallQOk P f vs s args hp0 l r hp1 k1 nb ∧ k (r.ren (qq l s.nx)) (nb.map fun p => (qq l s.nx p.1, p.2.ren (qq l s.nx))) (s.nx + (k1 - l.length)) := h
attribute [irreducible] CallQ

theorem behind_other {l : List Nat} {n : Nat} {hp0 : List (Nat × ABlk)} {i : Nat} : ∀ (hp' H : List (Nat × ABlk)), (∀ p ∈ hp', (∀ cs, lk hp0 p.1 ≠ some (.ro cs)) → p.2.wr = true → qq l n p.1 ≠ i) → lk (behind l n hp0 hp' H) i = lk H i
  | [], H, h => rfl
  | (j, b) :: r, H, h => by
    have ih := behind_other (l := l) (n := n) (hp0 := hp0) (i := i) r H fun p hp => h p (List.mem_cons_of_mem _ hp)
    simp only [behind]
    split
    · exact ih
    · rename_i hx
      split
      · rename_i hw
        rw [lk_up, if_neg]
        · exact ih
        · exact h (j, b) (by simp) (fun cs e => hx cs e) hw
      · exact ih
theorem lk_mem {β : Type} : ∀ {l : List (Nat × β)} {i : Nat} {b : β}, (l.map Prod.fst).Nodup → (i, b) ∈ l → lk l i = some b
  | (j, c) :: r, i, b, hnd, h => by
    rcases List.mem_cons.1 h with e | h
    · injection e with e1 e2; subst e1; subst e2; simp [lk]
    · have h1 := lk_mem (by simpa using (List.nodup_cons.1 hnd).2) h
      simp only [lk]
      rw [if_neg]
      · exact h1
      · intro e; subst e
        rw [lk_none_of_nodup hnd] at h1; cases h1
theorem mem_lk {β : Type} : ∀ {l : List (Nat × β)} {i : Nat} {b : β}, lk l i = some b → (i, b) ∈ l
  | (j, c) :: r, i, b, h => by
    simp only [lk] at h
    split at h
    · rename_i e; subst e; injection h with h; subst h; simp
    · exact List.mem_cons_of_mem _ (mem_lk h)
theorem behind_put {l : List Nat} {n : Nat} {hp0 : List (Nat × ABlk)} {i : Nat} {b : ABlk} : ∀ (hp' H : List (Nat × ABlk)), (i, b) ∈ hp' → (∀ cs, lk hp0 i ≠ some (.ro cs)) → b.wr = true →
    (∀ p ∈ hp', (∀ cs, lk hp0 p.1 ≠ some (.ro cs)) → p.2.wr = true → qq l n p.1 = qq l n i → p = (i, b)) → lk (behind l n hp0 hp' H) (qq l n i) = some (b.ren (qq l n))
  | (j, c) :: r, H, hm, hro, hw, hinj => by
    have hin : ∀ p ∈ r, (∀ cs, lk hp0 p.1 ≠ some (.ro cs)) → p.2.wr = true → qq l n p.1 = qq l n i → p = (i, b) := fun p hp => hinj p (List.mem_cons_of_mem _ hp)
    by_cases e : (j, c) = (i, b)
    · injection e with e1 e2; subst e1; subst e2
      simp only [behind]
      cases hx : lk hp0 j with
      | none => simp only [hw, if_true]; rw [lk_up, if_pos rfl]
      | some b0 => cases b0 with
        | ro cs => exact absurd hx (hro cs)
        | _ => simp only [hw, if_true]; rw [lk_up, if_pos rfl]
    · have hr : (i, b) ∈ r := by
        rcases List.mem_cons.1 hm with h | h
        · exact absurd h.symm e
        · exact h
      have ih := behind_put (l := l) (n := n) (hp0 := hp0) (i := i) (b := b) r H hr hro hw hin
      simp only [behind]
      split
      · exact ih
      · rename_i hx
        split
        · rename_i hw2
          rw [lk_up, if_neg]
          · exact ih
          · intro e2; exact e (hinj (j, c) (by simp) (fun cs e => hx cs e) hw2 e2)
        · exact ih
theorem gone_other {l : List Nat} {n i : Nat} : ∀ (hp0 H : List (Nat × ABlk)), (∀ p ∈ hp0, p.2.wr = true → qq l n p.1 ≠ i) → lk (gone l n hp0 H) i = lk H i
  | [], H, h => rfl
  | (j, b) :: r, H, h => by
    have ih := gone_other (l := l) (n := n) (i := i) r H fun p hp => h p (List.mem_cons_of_mem _ hp)
    simp only [gone]
    split
    · rename_i hw
      rw [lk_del, if_neg (h (j, b) (by simp) hw)]; exact ih
    · exact ih

theorem qq_new {l : List Nat} {n i : Nat} (h : l.length ≤ i) (hG : i < GB) : qq l n i = n + (i - l.length) := by
  simp only [qq]
  rw [if_neg (by omega)]
  have : l[i]? = none := by simp [h]
  rw [this]
theorem qq_old {l : List Nat} {n i : Nat} (h : i < l.length ∨ GB ≤ i) (hl : ∀ j ∈ l, idOk n j) : idOk n (qq l n i) := by
  simp only [qq]
  split
  · rename_i h; exact .inr h
  · rename_i h2
    have h1 : i < l.length := by omega
    rw [List.getElem?_eq_getElem h1]
    exact hl _ (List.getElem_mem h1)

variable {P : Program} {T : Nat → Option TI} {md : Bool} {E : Env} {R R2 : Ren} {s : AS} {a : Act} {w w' : World}

theorem callQ_sound {f : FuncId} {vs : List AV} {args : List AV} {hp0 : List (Nat × ABlk)} {l : List Nat} {r : AV} {hp1 : List (Nat × ABlk)} {k1 : Nat} {nb : List (Nat × ABlk)} (C : CallQOk P f vs s args hp0 l r hp1 k1 nb) (F : Fit E R s a w)
    {us : Array Value} (hus : us.size = vs.length) (hu : ∀ (i : Nat) (v : AV), vs[i]? = some v → ∃ u : Value, us[i]? = some u ∧ conV R v u) :
    Calls P f us w fun e w' => ∃ u R', e = .returned u ∧ Fit E R' ⟨s.tm, (nb.map fun p => (qq l s.nx p.1, p.2.ren (qq l s.nx))) ++ s.hp, s.nx + (k1 - l.length), s.nt, s.k0⟩ a w' ∧ conV R' (r.ren (qq l s.nx)) u ∧ (r.ren (qq l s.nx)).lt (s.nx + (k1 - l.length)) := by
  have C2 : CallOk P f vs s (fun v s' => v = r.ren (qq l s.nx) ∧ s' = { s with hp := behind l s.nx hp0 hp1 (gone l s.nx hp0 s.hp), nx := s.nx + (k1 - l.length) }) args hp0 l (fun r' hp' k' => r' = r ∧ hp' = hp1 ∧ k' = k1) :=
    ⟨C.spec, C.old, C.args, C.heap, C.inj, fun r' hp' k' ⟨e1, e2, e3⟩ => by subst e1; subst e2; subst e3; exact ⟨C.room, rfl, rfl⟩⟩
  refine (callOk_sound C2 F hus hu).mono ?_
  rintro e w' ⟨u, v, s', R', rfl, ⟨rfl, rfl⟩, F', hc, hl⟩
  refine ⟨u, R', rfl, F'.hp_sub (hp' := (nb.map fun p => (qq l s.nx p.1, p.2.ren (qq l s.nx))) ++ s.hp) ?_, hc, hl⟩
  intro i b h
  show lk (behind l s.nx hp0 hp1 (gone l s.nx hp0 s.hp)) i = some b
  have hroom := C.room
  have hle := C.le
  have mapLk : ∀ (nb : List (Nat × ABlk)) (b : ABlk), lk (nb.map fun p => (qq l s.nx p.1, p.2.ren (qq l s.nx))) i = some b → ∃ j c, lk nb j = some c ∧ qq l s.nx j = i ∧ c.ren (qq l s.nx) = b := by
    intro nb
    induction nb with
    | nil => intro b h; cases h
    | cons p nb ih =>
      obtain ⟨j, c⟩ := p
      intro b h
      simp only [List.map_cons, lk] at h
      split at h
      · rename_i e; injection h with h; exact ⟨j, c, by simp [lk], e, h⟩
      · rename_i e
        obtain ⟨j2, c2, h1, h2, h3⟩ := ih b h
        refine ⟨j2, c2, ?_, h2, h3⟩
        simp only [lk]
        rw [if_neg]
        · exact h1
        · intro e2; subst e2; exact e h2
  have qnew : ∀ j, l.length ≤ j → j < k1 → s.nx ≤ qq l s.nx j ∧ qq l s.nx j < GB ∧ qq l s.nx j = s.nx + (j - l.length) := fun j h1 h2 => by
    rw [qq_new h1 (by omega)]; omega
  have qold : ∀ j, j < l.length ∨ GB ≤ j → idOk s.nx (qq l s.nx j) := fun j h => qq_old h C.old
  have hnx : s.nx ≤ GB := by have := F'.nk.2; have h2 : s.nx ≤ s.nx + (k1 - l.length) := Nat.le_add_right _ _; omega
  rw [lk_append] at h
  cases hm : lk (nb.map fun p => (qq l s.nx p.1, p.2.ren (qq l s.nx))) i with
  | some b2 =>
    rw [hm] at h
    have e : b2 = b := by simpa using h
    subst e
    obtain ⟨j, c, h1, h2, h3⟩ := mapLk nb b2 hm
    obtain ⟨hj, hw, hin⟩ := C.new j c h1
    rw [← h2, ← h3]
    refine behind_put hp1 _ (mem_lk hin) ?_ hw ?_
    · intro cs e
      rcases (C.heap j _ e).1 with h4 | h4 <;> omega
    · intro p hp _ hpw hq
      have hlk : lk hp1 p.1 = some p.2 := lk_mem C.nd hp
      have q1 := qnew j hj.1 hj.2
      have hpj : p.1 = j := by
        by_cases ho : p.1 < l.length ∨ GB ≤ p.1
        · have h5 := qold p.1 ho
          rw [hq] at h5
          unfold idOk at h5; omega
        · rcases C.hk1 p hp with h6 | h6
          · have q2 := qnew p.1 (by omega) h6; omega
          · omega
      rw [hpj, hin] at hlk
      injection hlk with hlk
      exact Prod.ext hpj hlk.symm
  | none =>
    rw [hm] at h
    have h : lk s.hp i = some b := by simpa using h
    have hid := (F.wf.hp i b h).1
    by_cases hex : ∃ p ∈ hp0, p.2.wr = true ∧ qq l s.nx p.1 = i
    · obtain ⟨⟨j0, c0⟩, hp, hw, hq⟩ := hex
      have hlk : lk hp0 j0 = some c0 := lk_mem C.nd0 hp
      obtain ⟨_, b', g1, g2⟩ := C.heap j0 c0 hlk
      have hb : b = c0.ren (qq l s.nx) := by
        have := g2.eq (by rw [ABlk.ren_wr]; exact hw)
        rw [hq] at g1
        rw [h] at g1; injection g1 with g1; rw [g1]; exact this
      rw [← hq, hb]
      refine behind_put hp1 _ (mem_lk (C.same j0 c0 hlk hw)) ?_ hw ?_
      · intro cs e; rw [hlk] at e; injection e with e; subst e; cases hw
      · intro p hp1 _ hpw hq2
        by_cases ho : p.1 < l.length ∨ GB ≤ p.1
        · have h7 := C.oldin p hp1 hpw ho
          by_cases e : p.1 = j0
          · rw [e, hlk] at h7; injection h7 with h7; exact Prod.ext e h7.symm
          · exact absurd hq2 (C.inj p.1 j0 p.2 c0 h7 hlk e hpw)
        · rcases C.hk1 p hp1 with h6 | h6
          · have q2 := qnew p.1 (by omega) h6
            rw [hq2, hq] at q2
            unfold idOk at hid; omega
          · omega
    · rw [behind_other, gone_other]
      · exact h
      · intro p hp hw hq; exact hex ⟨p, hp, hw, hq⟩
      · intro p hp1 _ hpw hq
        by_cases ho : p.1 < l.length ∨ GB ≤ p.1
        · exact hex ⟨p, mem_lk (C.oldin p hp1 hpw ho), hpw, hq⟩
        · rcases C.hk1 p hp1 with h6 | h6
          · have q2 := qnew p.1 (by omega) h6
            rw [hq] at q2
            unfold idOk at hid; omega
          · omega

end Go.AH
