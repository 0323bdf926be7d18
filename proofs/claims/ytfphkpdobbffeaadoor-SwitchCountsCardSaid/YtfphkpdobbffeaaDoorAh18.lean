/-
  A region that draws its order, walked once: every order.
-/
import Derived.Test.YtfphkpdobbffeaaDoorAh17
set_option linter.unusedSimpArgs false
set_option linter.unusedVariables false
namespace Go.AH
open Go.RowKit

variable {P : Program} {T : Nat → Option TI} {md : Bool} {E : Env} {R R2 : Ren} {s : AS} {a : Act} {w w' : World}

/-! ### The plan is held against the operations -/
def befB (pl : List PE) (i j : Nat) (o : Oper) : Bool := o.after.any fun e => Region.binds .any e && (Nat.beq e.on j || (Nat.blt e.on i && (match pl[e.on]? with
  | some q => q.bf.elem j
  | none => Nat.blt j e.on)))
def dstIn (d : Option Nat) (l : List Nat) : Bool := match d with | none => true | some d => l.elem d
def sameDst (d e : Option Nat) : Bool := match d, e with | some d, some e => Nat.beq d e | _, _ => false
def planOk (ops : Array Oper) (pl : List PE) : Bool :=
  (List.range ops.size).all fun i => match ops[i]? with
    | none => true
    | some o => (o.after.all fun e => !Region.binds .any e || Nat.blt e.on i) && (match pl[i]? with
      | some p => (p.bf.all fun j => Nat.blt j i && befB pl i j o) && (List.range i).all fun j => (match ops[j]?, pl[j]? with
        | some oj, some q => (p.bf.elem j || (p.un.elem j && dstIn oj.dst p.dl && dstIn o.dst q.dl)) && (!sameDst oj.dst o.dst || p.bf.elem j)
        | _, _ => false)
      | none => (List.range i).all fun j => befB pl i j o)

structure PlanP (ops : Array Oper) (pl : List PE) : Prop where
  lo : ∀ (i : Nat) (o : Oper), ops[i]? = some o → ∀ e ∈ o.after, Region.binds .any e = true → e.on < i
  bf : ∀ (i : Nat) (o : Oper) (p : PE), ops[i]? = some o → pl[i]? = some p → ∀ j ∈ p.bf, j < i ∧ ∃ e ∈ o.after, Region.binds .any e = true ∧ (e.on = j ∨ (e.on < i ∧ ((∃ q, pl[e.on]? = some q ∧ j ∈ q.bf) ∨ (pl[e.on]? = none ∧ j < e.on))))
  un : ∀ (i : Nat) (o : Oper) (p : PE) (j : Nat) (oj : Oper) (q : PE), ops[i]? = some o → pl[i]? = some p → j < i → ops[j]? = some oj → pl[j]? = some q → j ∉ p.bf → j ∈ p.un ∧ (∀ d, oj.dst = some d → d ∈ p.dl) ∧ (∀ d, o.dst = some d → d ∈ q.dl)
  same : ∀ (i : Nat) (o : Oper) (p : PE) (j : Nat) (oj : Oper) (q : PE) (d : Nat), ops[i]? = some o → pl[i]? = some p → j < i → ops[j]? = some oj → pl[j]? = some q → oj.dst = some d → o.dst = some d → j ∈ p.bf
  suf : ∀ (i : Nat) (o : Oper), ops[i]? = some o → pl[i]? = none → ∀ j < i, ∃ e ∈ o.after, Region.binds .any e = true ∧ (e.on = j ∨ (e.on < i ∧ ((∃ q, pl[e.on]? = some q ∧ j ∈ q.bf) ∨ (pl[e.on]? = none ∧ j < e.on))))

theorem befB_sound {pl : List PE} {i j : Nat} {o : Oper} (h : befB pl i j o = true) : ∃ e ∈ o.after, Region.binds .any e = true ∧ (e.on = j ∨ (e.on < i ∧ ((∃ q, pl[e.on]? = some q ∧ j ∈ q.bf) ∨ (pl[e.on]? = none ∧ j < e.on)))) := by
  unfold befB at h
  rw [Array.any_eq_true'] at h
  obtain ⟨e, he, h⟩ := h
  simp only [Bool.and_eq_true, Bool.or_eq_true] at h
  refine ⟨e, he, h.1, ?_⟩
  rcases h.2 with h | h
  · exact .inl (Nat.eq_of_beq_eq_true h)
  · refine .inr ⟨by simpa using h.1, ?_⟩
    have h2 := h.2
    cases hq : pl[e.on]? with
    | none => rw [hq] at h2; exact .inr ⟨rfl, by simpa using h2⟩
    | some q => rw [hq] at h2; exact .inl ⟨q, rfl, by simpa using h2⟩
theorem dstIn_sound {d : Option Nat} {l : List Nat} (h : dstIn d l = true) : ∀ x, d = some x → x ∈ l := by
  rintro x rfl; simpa [dstIn] using h
theorem planOk_sound {ops : Array Oper} {pl : List PE} (h : planOk ops pl = true) : PlanP ops pl := by
  unfold planOk at h
  rw [List.all_eq_true] at h
  have h : ∀ i o, ops[i]? = some o → _ := fun i o ho => by
    have := h i (List.mem_range.2 (Array.getElem?_eq_some_iff.1 ho).1)
    rw [ho] at this
    exact Bool.and_eq_true_iff.1 this
  have pf : ∀ i o p, ops[i]? = some o → pl[i]? = some p → _ := fun i o p ho hp => by
    have := (h i o ho).2
    rw [hp] at this
    exact Bool.and_eq_true_iff.1 this
  have pr : ∀ i o p j oj q, ops[i]? = some o → pl[i]? = some p → j < i → ops[j]? = some oj → pl[j]? = some q → _ := fun i o p j oj q ho hp hj hoj hq => by
    have := (pf i o p ho hp).2
    rw [List.all_eq_true] at this
    have := this j (List.mem_range.2 hj)
    rw [hoj, hq] at this
    exact Bool.and_eq_true_iff.1 this
  refine ⟨fun i o ho e he hb => ?_, fun i o p ho hp j hj => ?_, fun i o p j oj q ho hp hj hoj hq hn => ?_, fun i o p j oj q d ho hp hj hoj hq h1 h2 => ?_, fun i o ho hp j hj => ?_⟩
  · have h1 := (h i o ho).1
    rw [Array.all_eq_true'] at h1
    have := h1 e he
    rw [hb] at this
    simpa using this
  · have h1 := (pf i o p ho hp).1
    rw [List.all_eq_true] at h1
    have := h1 j hj
    simp only [Bool.and_eq_true] at this
    exact ⟨by simpa using this.1, befB_sound this.2⟩
  · have h1 := (pr i o p j oj q ho hp hj hoj hq).1
    simp only [Bool.or_eq_true, Bool.and_eq_true] at h1
    rcases h1 with h1 | h1
    · exact absurd (by simpa using h1) hn
    · exact ⟨by simpa using h1.1.1, dstIn_sound h1.1.2, dstIn_sound h1.2⟩
  · have h3 := (pr i o p j oj q ho hp hj hoj hq).2
    simp only [Bool.or_eq_true, Bool.not_eq_true'] at h3
    rcases h3 with h3 | h3
    · simp [h1, h2, sameDst] at h3
    · simpa using h3
  · have h1 := (h i o ho).2
    rw [hp] at h1
    have h1 := List.all_eq_true.1 h1
    exact befB_sound (h1 j (List.mem_range.2 hj))

/-! ### The walk gives the records -/
structure Sub0 (s0 : AS) (rest : List Rc) (s : AS) : Prop where
  nx : s.nx = nxR s0.nx rest
  nt : s.nt = s0.nt
  k0 : s.k0 = s0.k0
  tm : ∀ t v, lk s.tm t = some v → lk (tmR (fun _ => true) s0.tm rest) t = some v
  hp : ∀ i c, lk s.hp i = some c → lk (hpR (fun _ => true) s0.hp rest) i = some c

theorem lk_keepT {dl : List Nat} : ∀ {tm : List (Nat × AV)} {t : Nat} {v : AV}, lk (keepT dl tm) t = some v → lk tm t = some v ∧ t ∉ dl
  | (j, u) :: r, t, v, h => by
    simp only [keepT] at h
    cases hd : dl.elem j with
    | true =>
      rw [hd] at h
      obtain ⟨h1, h2⟩ := lk_keepT h
      refine ⟨?_, h2⟩
      simp only [lk]
      rw [if_neg]
      · exact h1
      · intro e; subst e; exact h2 (by simpa using hd)
    | false =>
      rw [hd] at h
      simp only [lk] at h ⊢
      split at h
      · rename_i e; subst e; rw [if_pos rfl]; exact ⟨h, by simpa using hd⟩
      · rename_i e; rw [if_neg e]; exact lk_keepT h
theorem avB_sound : ∀ {hs : List (Nat × Nat)} {i : Nat}, avB hs i = true → avAll hs i
  | [], i, h => fun p hp => absurd hp (List.not_mem_nil)
  | (lo, hi) :: r, i, h => by
    simp only [avB, Bool.and_eq_true, Bool.or_eq_true] at h
    intro p hp
    rcases List.mem_cons.1 hp with e | hp
    · subst e
      rcases h.1 with h | h
      · exact .inl (by simpa using h)
      · exact .inr (by simpa using h)
    · exact avB_sound h.2 p hp
theorem lk_keepH {hs : List (Nat × Nat)} : ∀ {hp : List (Nat × ABlk)} {i : Nat} {c : ABlk}, lk (keepH hs hp) i = some c → lk hp i = some c ∧ avAll hs i
  | (j, u) :: r, i, c, h => by
    simp only [keepH] at h
    cases hd : avB hs j with
    | true =>
      rw [hd] at h
      simp only [lk] at h ⊢
      split at h
      · rename_i e; subst e; rw [if_pos rfl]; exact ⟨h, avB_sound hd⟩
      · rename_i e; rw [if_neg e]; exact lk_keepH h
    | false =>
      rw [hd] at h
      obtain ⟨h1, h2⟩ := lk_keepH h
      refine ⟨?_, h2⟩
      simp only [lk]
      by_cases e : j = i
      · subst e
        exfalso
        have : avB hs j = true := by
          clear h1 h hd
          induction hs with
          | nil => rfl
          | cons p hs ih =>
            obtain ⟨lo, hi⟩ := p
            simp only [avB, Bool.and_eq_true, Bool.or_eq_true]
            refine ⟨?_, ih fun p hp => h2 p (List.mem_cons_of_mem _ hp)⟩
            rcases h2 (lo, hi) (by simp) with h | h
            · left; simpa using h
            · right; simpa using h
        rw [hd] at this; cases this
      · rw [if_neg e]; exact h1
theorem lk_keepH' {hs : List (Nat × Nat)} {hp : List (Nat × ABlk)} {i : Nat} {c : ABlk} (h : lk (keepH' hs hp) i = some c) : lk hp i = some c ∧ avAll hs i := by
  cases hs with
  | nil => exact ⟨h, fun p hp => absurd hp (List.not_mem_nil)⟩
  | cons p hs => exact lk_keepH h
theorem mem_holes {un : List Nat} : ∀ {rg : List (Nat × Nat × Nat)} {k lo hi : Nat}, (k, lo, hi) ∈ rg → k ∈ un → (lo, hi) ∈ holes un rg
  | (j, l, h) :: r, k, lo, hi, hm, hk => by
    simp only [holes]
    rcases List.mem_cons.1 hm with e | hm
    · injection e with e1 e2; injection e2 with e2 e3; subst e1; subst e2; subst e3
      rw [show un.elem k = true by simpa using hk]; simp
    · split
      · exact List.mem_cons_of_mem _ (mem_holes hm hk)
      · exact mem_holes hm hk

structure Rg (rest : List Rc) (rg : List (Nat × Nat × Nat)) : Prop where
  all : ∀ k q, At rest k q → q.b' = q.b ∨ (k, q.b, q.b') ∈ rg
theorem Rg.out {rest : List Rc} {rg : List (Nat × Nat × Nat)} (h : Rg rest rg) {un : List Nat} {i : Nat} (hi : avAll (holes un rg) i) {k : Nat} {q : Rc} (hq : At rest k q) (hk : k ∈ un) : outside q.b q.b' i := by
  rcases h.all k q hq with e | e
  · unfold outside; omega
  · exact hi _ (mem_holes e hk)

theorem dNext_elim {hs : List (Nat × Nat)} {k : AV → List (Nat × ABlk) → Nat → Prop} {v : AV} {nb : List (Nat × ABlk)} {nx : Nat} (h : dNext hs k v nb nx) :
    nx ≤ GB ∧ (v.all (avAll hs) ∧ ∀ q ∈ nb, q.2.all (avAll hs)) ∧ k v nb nx := by
  obtain ⟨h1, h2⟩ := lit_iff.1 h
  refine ⟨by simpa using h1, ?_⟩
  cases hs with
  | nil =>
    have triv : ∀ i, avAll [] i := fun i p hp => absurd hp (List.not_mem_nil)
    refine ⟨⟨?_, fun q hq => ?_⟩, h2⟩
    · have hx : ∀ x : AC, x.all (avAll []) := fun x => by cases x <;> simp only [AC.all] <;> first | exact triv _ | exact ⟨fun i _ => triv i, fun i _ => triv i⟩
      cases v with
      | c x => exact hx x
      | g cs => exact fun x _ => hx x
      | t es => exact fun e _ => by cases e with
        | c x => exact hx x
        | g cs => exact fun x _ => hx x
    · have hx : ∀ x : AC, x.all (avAll []) := fun x => by cases x <;> simp only [AC.all] <;> first | exact triv _ | exact ⟨fun i _ => triv i, fun i _ => triv i⟩
      obtain ⟨_, b⟩ := q
      cases b with
      | ro cs => exact fun x _ => hx x
      | own cs => exact fun x _ => hx x
      | row _ _ cs => exact fun x _ => hx x
      | mp m => exact fun p _ => ⟨fun x _ => hx x, hx _⟩
      | mi I => trivial
  | cons p hs => exact h2

def Ext (P : Program) (T : Nat → Option TI) (md : Bool) (ops : Array Oper) (K : AS → Prop) (s0 : AS) (rest : List Rc) (pl : List PE) (l : List Oper) : Prop :=
  ∃ ext s', Good P ops s0 (ext ++ rest) ∧ ext.length = pl.length ∧ (∀ k q, At (ext ++ rest) k q → rest.length ≤ k → pl[k - rest.length]? = some q.pe) ∧ Sub0 s0 (ext ++ rest) s' ∧ nxR s0.nx (ext ++ rest) ≤ GB ∧
      opsW P T md ops.toList (l.drop pl.length) s' K ∧ pl.length ≤ l.length

theorem draw_extract (hT : TOk P T) {ops : Array Oper} {K : AS → Prop} {s0 : AS} : ∀ (pl : List PE) (l pre : List Oper) (rest : List Rc) (rg : List (Nat × Nat × Nat)) (s : AS), ops.toList = pre ++ l → pre.length = rest.length →
    Good P ops s0 rest → Rg rest rg → Sub0 s0 rest s → nxR s0.nx rest ≤ GB → drawA P T md ops.toList K pl l rest.length rg s →
    Ext P T md ops K s0 rest pl l
  | [], l, pre, rest, rg, s, hops, hpre, hG, hR, hS, hN, h => ⟨[], s, hG, rfl, (fun k q hq hk => (by have := At.lt hq; simp at this; omega)), hS, hN, h, by simp⟩
  | p :: pl, [], pre, rest, rg, s, hops, hpre, hG, hR, hS, hN, h => by simp only [drawA] at h
  | p :: pl, o :: l, pre, rest, rg, s, hops, hpre, hG, hR, hS, hN, h => by
    have ho : ops[rest.length]? = some o := by
      rw [← Array.getElem?_toList, hops, ← hpre]; simp
    -- one record more
    have go : ∀ (tm1 : List (Nat × AV)) (v : AV) (nb : List (Nat × ABlk)) (nx' : Nat), (∀ t v, lk tm1 t = some v → lk s.tm t = some v) →
        dPut o.dst s.nt v tm1 (fun tm => drawA P T md ops.toList K pl l (rest.length + 1) (rgN rest.length s.nx nx' rg) ⟨tm, nb ++ s.hp, nx', s.nt, s.k0⟩) →
        nx' ≤ GB → ((∀ d, o.dst = some d → d < s0.nt) → Fact P ops s0 ⟨o.dst, v, nb, s.nx, nx', p⟩ rest) →
        Ext P T md ops K s0 rest (p :: pl) (o :: l) := by
      intro tm1 v nb nx' htm1 hd hnx hF
      obtain ⟨hdn, hk⟩ : (∀ d, o.dst = some d → d < s0.nt) ∧ drawA P T md ops.toList K pl l (rest.length + 1) (rgN rest.length s.nx nx' rg) ⟨putT o.dst v tm1, nb ++ s.hp, nx', s.nt, s.k0⟩ := by
        unfold dPut at hd
        cases hdd : o.dst with
        | none => rw [hdd] at hd; exact ⟨fun d h => (by cases h), hd⟩
        | some d =>
          rw [hdd] at hd
          obtain ⟨h1, h2⟩ := lit_iff.1 hd
          refine ⟨fun d' h => ?_, h2⟩
          injection h with h; subst h
          rw [← hS.nt]; simpa using h1
      have hF := hF hdn
      have hG2 : Good P ops s0 (⟨o.dst, v, nb, s.nx, nx', p⟩ :: rest) := ⟨hG, hF⟩
      have hS2 : Sub0 s0 (⟨o.dst, v, nb, s.nx, nx', p⟩ :: rest) ⟨putT o.dst v tm1, nb ++ s.hp, nx', s.nt, s.k0⟩ := by
        refine ⟨rfl, hS.nt, hS.k0, fun t u h => ?_, fun i c h => ?_⟩
        · show lk (putT o.dst v (tmR (fun _ => true) s0.tm rest)) t = some u
          have h : lk (putT o.dst v tm1) t = some u := h
          rw [lk_putT] at h ⊢
          split at h
          · rename_i e; rw [if_pos e]; exact h
          · rename_i e; rw [if_neg e]; exact hS.tm t u (htm1 t u h)
        · show lk (nb ++ hpR (fun _ => true) s0.hp rest) i = some c
          have h : lk (nb ++ s.hp) i = some c := h
          rw [lk_append] at h ⊢
          cases hn : lk nb i with
          | some c2 => rw [hn] at h; exact h
          | none => rw [hn] at h; exact hS.hp i c h
      have hR2 : Rg (⟨o.dst, v, nb, s.nx, nx', p⟩ :: rest) (rgN rest.length s.nx nx' rg) := by
        refine ⟨fun k q hq => ?_⟩
        unfold rgN
        rcases hq with ⟨e1, e2⟩ | hq
        · subst e1; subst e2
          cases hb : Nat.beq nx' s.nx with
          | true => exact .inl (Nat.eq_of_beq_eq_true hb)
          | false => exact .inr (by simp)
        · rcases hR.all k q hq with e | e
          · exact .inl e
          · right; split
            · exact e
            · exact List.mem_cons_of_mem _ e
      obtain ⟨ext, s', g1, g2, g3, g4, g5, g6, g7⟩ := draw_extract hT pl l (pre ++ [o]) (⟨o.dst, v, nb, s.nx, nx', p⟩ :: rest) (rgN rest.length s.nx nx' rg) _ (by simp [hops]) (by simp [hpre]) hG2 hR2 hS2 hnx hk
      refine ⟨ext ++ [⟨o.dst, v, nb, s.nx, nx', p⟩], s', by simpa using g1, by simp [g2], ?_, by simpa using g4, by simpa using g5, by simpa using g6, by simp; omega⟩
      intro k q hq hk
      rw [List.append_assoc] at hq
      by_cases e : k = rest.length
      · subst e
        have h1 : At (⟨o.dst, v, nb, s.nx, nx', p⟩ :: rest) rest.length q := At.low hq (by simp)
        rcases h1 with ⟨_, h1⟩ | h1
        · subst h1; simp
        · have := At.lt h1; omega
      · have := g3 k q hq (by simp; omega)
        rw [show k - rest.length = (k - (rest.length + 1)) + 1 by omega]
        simpa using this
    -- the part that the operation sees
    have hk1 : ∀ t v, lk (keepT p.dl s.tm) t = some v → lk (tmR (fun _ => true) s0.tm rest) t = some v ∧ t ∉ p.dl := fun t v h => by
      obtain ⟨h1, h2⟩ := lk_keepT h; exact ⟨hS.tm t v h1, h2⟩
    have hh1 : ∀ i c, lk (keepH' (holes p.un rg) s.hp) i = some c → lk (hpR (fun _ => true) s0.hp rest) i = some c ∧ ∀ k q, At rest k q → k ∈ p.un → outside q.b q.b' i := fun i c h => by
      obtain ⟨h1, h2⟩ := lk_keepH' h; exact ⟨hS.hp i c h1, fun k q hq hk => hR.out h2 hq hk⟩
    -- an operation that runs
    have run : ∀ (tm0 tm1 : List (Nat × AV)), (∀ t v, lk tm0 t = some v → lk (tmR (fun _ => true) s0.tm rest) t = some v ∧ t ∉ p.dl) → (∀ t v, lk tm1 t = some v → lk s.tm t = some v) →
        (∀ (E : Env) (R : Ren) (a : Act) (w : World), Fit E R ⟨tm0, keepH' (holes p.un rg) s.hp, s.nx, s.nt, s.nx⟩ a w → Region.wanted o (yielded ops a.tmps) = true) →
        quietA P T md ⟨tm0, keepH' (holes p.un rg) s.hp, s.nx, s.nt, s.nx⟩ o.op (dNext (holes p.un rg) fun v nb nx' => dPut o.dst s.nt v tm1 fun tm => drawA P T md ops.toList K pl l (rest.length + 1) (rgN rest.length s.nx nx' rg) ⟨tm, nb ++ s.hp, nx', s.nt, s.k0⟩) → Ext P T md ops K s0 rest (p :: pl) (o :: l) :=
      fun tm0 tm1 h0 h1 hw hq => by
        obtain ⟨v, nb, nx', hk, hle, hnb, hrun⟩ := quietA_det (o := o) hT hq
        obtain ⟨hnx, ⟨av1, av2⟩, hk⟩ := dNext_elim hk
        refine go tm1 v nb nx' h1 hk hnx fun hdn => ⟨⟨o, tm0, keepH' (holes p.un rg) s.hp, ho, rfl, hdn, h0, hh1, ?_⟩, hS.nx, hle, hnb, ?_⟩
        · intro E R a w n r Q hb F
          unfold wpOpIn
          simp only [ho]
          rw [if_pos]
          · have := hrun E R a w n r Q (by rw [hS.nt]; exact F)
            rw [← hS.nt]; exact this
          · exact hw E R a w (by rw [hS.nt]; exact F)
        · intro k q hq hk
          exact ⟨av1.mono fun i hi => hR.out hi hq hk, fun i c hc => (av2 (i, c) (mem_lk hc)).mono fun i hi => hR.out hi hq hk⟩
    -- one that is passed over
    have skip : ∀ (tm0 tm1 : List (Nat × AV)), (∀ t v, lk tm0 t = some v → lk (tmR (fun _ => true) s0.tm rest) t = some v ∧ t ∉ p.dl) → (∀ t v, lk tm1 t = some v → lk s.tm t = some v) →
        (∀ (E : Env) (R : Ren) (a : Act) (w : World), Fit E R ⟨tm0, keepH' (holes p.un rg) s.hp, s.nx, s.nt, s.nx⟩ a w → Region.wanted o (yielded ops a.tmps) = false) →
        (dPut o.dst s.nt (.t []) tm1 fun tm => drawA P T md ops.toList K pl l (rest.length + 1) rg ⟨tm, s.hp, s.nx, s.nt, s.k0⟩) → Ext P T md ops K s0 rest (p :: pl) (o :: l) :=
      fun tm0 tm1 h0 h1 hw hq => by
        refine go tm1 (.t []) [] s.nx h1 ?_ (by rw [hS.nx]; exact hN) fun hdn => ⟨⟨o, tm0, keepH' (holes p.un rg) s.hp, ho, rfl, hdn, h0, hh1, ?_⟩, hS.nx, Nat.le_refl _, (fun i c h => by cases h), ?_⟩
        · have : rgN rest.length s.nx s.nx rg = rg := by simp [rgN]
          rw [this]; exact hq
        · intro E R a w n r Q hb F
          unfold wpOpIn
          simp only [ho]
          rw [if_neg]
          · exact ⟨fun f _ => trivial, undef, R, rfl, F, conV_undef R, fun e he => by cases he⟩
          · have := hw E R a w (by rw [hS.nt]; exact F)
            rw [this]; simp
        · intro k q hq hk
          exact ⟨(fun e he => (by cases he)), fun i c hc => (by cases hc)⟩
    simp only [drawA, AS.on_eq, dCat_eq] at h
    split at h
    · rename_i hg
      exact run _ _ hk1 (fun _ _ h => h) (fun E R a w F => by simp [Region.wanted, hg]) h
    · rename_i j want hg
      split at h <;> try exact h.elim
      rename_i d hd
      have hy : ∀ (a : Act), yielded ops a.tmps j = match a.tmps[d]? with | some (.bool b) => some b | _ => none := fun a => by
        have : (ops[j]?).bind (·.dst) = some d := by rw [← Array.getElem?_toList]; exact hd
        simp only [yielded, this, Option.bind_some]
        cases a.tmps[d]? with
        | none => rfl
        | some v => cases v <;> rfl
      split at h <;> try exact h.elim
      · rename_i b hb
        have ext : ∀ b2, b = b2 → ∀ (tm : List (Nat × AV)) t v, lk tm d = some (.c (.bool b)) → lk ((d, .c (.bool b2)) :: tm) t = some v → lk tm t = some v := by
          intro b2 e tm t v h1 h2
          simp only [lk] at h2
          split at h2
          · rename_i e2; subst e2; rw [h1, e]; exact h2
          · exact h2
        have hb' := (lk_keepT hb).1
        have yb : ∀ (b2 : Bool), b = b2 → ∀ (E : Env) (R : Ren) (a : Act) (w : World), Fit E R ⟨(d, .c (.bool b2)) :: keepT p.dl s.tm, keepH' (holes p.un rg) s.hp, s.nx, s.nt, s.nx⟩ a w → yielded ops a.tmps j = some b2 := fun b2 e E R a w F => by
          obtain ⟨u, hu, hc⟩ := F.tm d (.c (.bool b2)) (by simp [lk])
          simp only [conV, conC] at hc
          subst hc
          rw [hy, hu]
        by_cases hbw : b = want
        · refine run _ _ (fun t v ht => hk1 t v (ext want hbw _ t v hb ht)) (fun t v ht => ext want hbw _ t v hb' ht) (fun E R a w F => ?_) (h.1 hbw)
          have := yb want hbw E R a w F
          simp [Region.wanted, hg, this]
        · have hb2 : b = !want := by cases b <;> cases want <;> simp_all
          refine skip ((d, .c (.bool (!want))) :: keepT p.dl s.tm) _ (fun t v ht => hk1 t v (ext (!want) hb2 _ t v hb ht)) (fun t v ht => ext (!want) hb2 _ t v hb' ht) (fun E R a w F => ?_) (h.2 hb2)
          have := yb (!want) hb2 E R a w F
          cases want <;> simp [Region.wanted, hg, this]
      · rename_i hb
        refine skip _ _ hk1 (fun _ _ h => h) (fun E R a w F => ?_) h
        obtain ⟨u, hu, hc⟩ := F.tm d _ hb
        obtain ⟨vs, rfl, _, _⟩ := hc
        have hy2 : yielded ops a.tmps j = none := by rw [hy, hu]
        simp [Region.wanted, hg, hy2]

end Go.AH
