/-
  Loops, weakening, and a function's contract out of its body.
-/
import Derived.Test.YtfphkpdobbffeaaDoorAh10
set_option linter.unusedSimpArgs false
set_option linter.unusedVariables false
namespace Go.AH
open Go.RowKit

variable {P : Program} {T : Nat → Option TI} {md : Bool} {E : Env} {R R' : Ren} {s t : AS} {a : Act} {w w' : World} {n : Nat} {r : Option Nat}

/-- t says no more than s does, its blocks by other numbers: number i of t is number (rn l i) of s. -/
def rn (l : List (Nat × Nat)) (i : Nat) : Nat := (lk l i).getD i

def lkAll (tm : List (Nat × AV)) (q : Nat → Nat) : List (Nat × AV) → Prop
  | [] => True
  | (t, v) :: r => lk tm t = some (v.ren q) ∧ lkAll tm q r
def hpAll (hp : List (Nat × ABlk)) (q : Nat → Nat) : List (Nat × ABlk) → Prop
  | [] => True
  | (i, b) :: r => lk hp (q i) = some (b.ren q) ∧ hpAll hp q r
theorem lkAll_get {tm : List (Nat × AV)} {q : Nat → Nat} : ∀ {l : List (Nat × AV)} {t : Nat} {v : AV}, lkAll tm q l → lk l t = some v → lk tm t = some (v.ren q)
  | (t', v') :: r, t, v, h, hv => by
    simp only [lk] at hv
    split at hv
    · rename_i e; subst e; injection hv with hv; subst hv; exact h.1
    · exact lkAll_get h.2 hv
theorem hpAll_get {hp : List (Nat × ABlk)} {q : Nat → Nat} : ∀ {l : List (Nat × ABlk)} {i : Nat} {b : ABlk}, hpAll hp q l → lk l i = some b → lk hp (q i) = some (b.ren q)
  | (t', v') :: r, t, v, h, hv => by
    simp only [lk] at hv
    split at hv
    · rename_i e; subst e; injection hv with hv; subst hv; exact h.1
    · exact hpAll_get h.2 hv

/-- Numbers named in a state. -/
def tmLt (n : Nat) : List (Nat × AV) → Prop
  | [] => True
  | (_, v) :: r => v.lt n ∧ tmLt n r
def hpLt (n : Nat) : List (Nat × ABlk) → Prop
  | [] => True
  | (i, b) :: r => idOk n i ∧ b.lt n ∧ hpLt n r
theorem tmLt_get {n : Nat} : ∀ {l : List (Nat × AV)} {t : Nat} {v : AV}, tmLt n l → lk l t = some v → v.lt n
  | (t', v') :: r, t, v, h, hv => by
    simp only [lk] at hv
    split at hv
    · injection hv with hv; subst hv; exact h.1
    · exact tmLt_get h.2 hv
theorem hpLt_get {n : Nat} : ∀ {l : List (Nat × ABlk)} {t : Nat} {v : ABlk}, hpLt n l → lk l t = some v → idOk n t ∧ v.lt n
  | (t', v') :: r, t, v, h, hv => by
    simp only [lk] at hv
    split at hv
    · rename_i e; subst e; injection hv with hv; subst hv; exact ⟨h.1, h.2.1⟩
    · exact hpLt_get h.2.2 hv

structure Sub (s t : AS) (l : List (Nat × Nat)) : Prop where
  nt : t.nt = s.nt
  k0 : t.k0 = s.k0
  k : t.k0 ≤ t.nx ∧ t.nx ≤ s.nx
  fix : ∀ p ∈ l, s.k0 ≤ p.1 ∧ p.1 < GB
  tm : lkAll s.tm (rn l) t.tm
  hp : hpAll s.hp (rn l) t.hp
  inj : (t.hp.map fun p => rn l p.1).Nodup
  tlt : tmLt t.nx t.tm
  hlt : hpLt t.nx t.hp

theorem nodup_inj {q : Nat → Nat} : ∀ {l : List (Nat × ABlk)} {i j : Nat} {b c : ABlk}, (l.map fun p => q p.1).Nodup → lk l i = some b → lk l j = some c → i ≠ j → q i ≠ q j
  | (x, y) :: r, i, j, b, c, h, hi, hj, hne => by
    have hm : ∀ {k : Nat} {d : ABlk}, lk r k = some d → q k ∈ r.map fun p => q p.1 := by
      intro k d hk
      have : ∃ d, (k, d) ∈ r := by
        clear h hi hj
        induction r with
        | nil => cases hk
        | cons p r ih =>
          obtain ⟨u, v⟩ := p
          simp only [lk] at hk
          split at hk
          · rename_i e; subst e; exact ⟨v, by simp⟩
          · obtain ⟨d', hd'⟩ := ih hk; exact ⟨d', by simp [hd']⟩
      obtain ⟨d', hd'⟩ := this
      exact List.mem_map.2 ⟨_, hd', rfl⟩
    have h1 := List.nodup_cons.1 (by simpa using h : (q x :: r.map fun p => q p.1).Nodup)
    simp only [lk] at hi hj
    split at hi
    · rename_i e; subst e
      rw [if_neg hne] at hj
      intro e; exact h1.1 (e ▸ hm hj)
    · split at hj
      · rename_i e; subst e
        intro e; exact h1.1 (e ▸ hm hi)
      · exact nodup_inj h1.2 hi hj hne

theorem lk_none_lt {l : List (Nat × Nat)} {i : Nat} (h : ∀ p ∈ l, p.1 ≠ i) : lk l i = none := by
  induction l with
  | nil => rfl
  | cons p r ih =>
    obtain ⟨x, y⟩ := p
    simp only [lk]
    rw [if_neg (h (x, y) (by simp))]
    exact ih fun p hp => h p (by simp [hp])

theorem Sub.fit {l : List (Nat × Nat)} (S : Sub s t l) (F : Fit E R s a w) : Fit E (R.comp (rn l)) t a w where
  ok := by
    have : ∀ i, rn l (GB + i) = GB + i := fun i => by
      unfold rn; rw [lk_none_lt fun p hp => by have := (S.fix p hp).2; omega]; rfl
    exact ⟨fun i => by simp [Ren.comp, this, F.ok.g], fun i => by simp [Ren.comp, this, F.ok.d], fun i => by simp [Ren.comp, this, F.ok.c]⟩
  nt := by rw [S.nt]; exact F.nt
  tm := fun t' v hv => by
    obtain ⟨u, hu, hc⟩ := F.tm t' _ (lkAll_get S.tm hv)
    exact ⟨u, hu, conV_ren.1 hc⟩
  hp := ⟨fun id b hb => BRel_ren.1 (F.hp.blk _ _ (hpAll_get S.hp hb)), fun i j b c hi hj hne hw =>
    F.hp.inj _ _ _ _ (hpAll_get S.hp hi) (hpAll_get S.hp hj) (nodup_inj S.inj hi hj hne) (by rw [ABlk.ren_wr]; exact hw)⟩
  old := fun i hi => by
    have : rn l i = i := by
      unfold rn; rw [lk_none_lt fun p hp => by have := (S.fix p hp).1; have := F.kk; omega]; rfl
    simp only [Ren.comp, this]; exact F.old i hi
  wr := fun id b hb hw => F.wr _ _ (hpAll_get S.hp hb) (by rw [ABlk.ren_wr]; exact hw)
  nx := fun id b hb => (hpLt_get S.hlt hb).1
  nk := ⟨by have := S.k.1; have := F.kk; have := S.k0; omega, Nat.le_trans S.k.2 F.nk.2⟩
  kk := by rw [S.k0]; exact F.kk
  fr := F.fr
  df := F.df
  wf := ⟨fun t' v hv => tmLt_get S.tlt hv, fun i b hb => hpLt_get S.hlt hb⟩

/-- Weakened at an exit. -/
theorem Tr.mono {c : Code} {Q Q' : Exit → AS → Prop} (h : Tr P c s Q) (hq : ∀ e s, Q e s → Q' e s) : Tr P c s Q' := Tr.intro fun E R a w n r F ht =>
  wpIn_mono (h.elim F ht) fun e a' w' ⟨R', s', hk, F'⟩ => ⟨R', s', hq _ _ hk, F'⟩

theorem Tr.sub {c : Code} {Q : Exit → AS → Prop} {l : List (Nat × Nat)} (S : Sub s t l) (h : Tr P c t Q) : Tr P c s Q := Tr.intro fun E R a w n r F ht => h.elim (S.fit F) ht

theorem exists_least {p : Nat → Prop} (h : ∃ n, p n) : ∃ n, p n ∧ ∀ m, p m → n ≤ m := by
  obtain ⟨n, hn⟩ := h
  induction n using Nat.strongRecOn with
  | _ n ih =>
    by_cases hx : ∃ m, m < n ∧ p m
    · obtain ⟨m, h1, h2⟩ := hx; exact ih m h1 h2
    · exact ⟨n, hn, fun m hm => Nat.le_of_not_lt fun hlt => hx ⟨m, hlt, hm⟩⟩

open Classical in
/-- A loop whose measure is that of a ghost. -/
theorem wpIn_loop_ghost {F : Fence} {X : Type} {c : Code} {Q : Exit → Act → World → Prop} (I : X → Act → World → Prop) (μ : X → Nat) (x0 : X) (h0 : I x0 a w)
    (round : ∀ x a w, I x a w → c.wpIn F n P (Exit.then (fun a' w' => ∃ x', I x' a' w' ∧ μ x' < μ x) Q) a w) : (Code.loop c).wpIn F n P Q a w := by
  let p : Act → World → Nat → Prop := fun a w m => ∃ x, I x a w ∧ μ x = m
  let ν : Act → World → Nat := fun a w => if h : ∃ m, p a w m then Classical.choose (exists_least h) else 0
  have hν : ∀ a w, (∃ m, p a w m) → p a w (ν a w) ∧ ∀ m, p a w m → ν a w ≤ m := fun a w h => by
    have := Classical.choose_spec (exists_least h)
    simp only [ν, dif_pos h]; exact this
  refine wpIn_loop (fun a w => ∃ x, I x a w) ν ⟨x0, h0⟩ ?_
  rintro a w ⟨x, hx⟩
  obtain ⟨⟨y, hy, hm⟩, _⟩ := hν a w ⟨μ x, x, hx, rfl⟩
  refine wpIn_mono (round y a w hy) ?_
  intro e a' w' h
  cases e with
  | normal =>
    obtain ⟨x', h1, h2⟩ := h
    refine ⟨⟨x', h1⟩, ?_⟩
    have := (hν a' w' ⟨μ x', x', h1, rfl⟩).2 (μ x') ⟨x', h1, rfl⟩
    omega
  | _ => exact h

/-- At the loop's head once more. -/
def Again {X : Type} (st : X → AS) (inv : X → Prop) (μ : X → Nat) (m : Nat) (s : AS) : Prop := ∃ x' l', Sub s (st x') l' ∧ inv x' ∧ μ x' < m
theorem Again.mk {X : Type} {st : X → AS} {inv : X → Prop} {μ : X → Nat} {m : Nat} (x' : X) {l' : List (Nat × Nat)} (h : Sub s (st x') l') (hi : inv x') (hm : μ x' < m) : Again st inv μ m s := ⟨x', l', h, hi, hm⟩
theorem Again.elim {X : Type} {st : X → AS} {inv : X → Prop} {μ : X → Nat} {m : Nat} (h : Again st inv μ m s) : ∃ x' l', Sub s (st x') l' ∧ inv x' ∧ μ x' < m := h
attribute [irreducible] Again

/-- A loop: the states at its head are st x, x such that inv x; μ goes down. -/
theorem Tr.loop {X : Type} (st : X → AS) (inv : X → Prop) (μ : X → Nat) (x0 : X) {c : Code} {Q : Exit → AS → Prop} {l : List (Nat × Nat)} (hT : TOk P T) (h0 : inv x0) (hs : Sub s (st x0) l)
    (round : ∀ x, inv x → wpC P T md c (st x) (thenA (Again st inv μ (μ x)) Q)) : Tr P (.loop c) s Q := Tr.intro fun E R a w n r F ht => by
  refine wpIn_loop_ghost (fun x a w => ∃ R, inv x ∧ Fit E R (st x) a w) μ x0 ⟨_, h0, hs.fit F⟩ ?_
  rintro x a w ⟨R, hx, F⟩
  refine wpIn_mono ((wpC_sound hT c _ _ (round x hx)).elim F ht) ?_
  rintro e a' w' ⟨R', s', hk, F'⟩
  cases e with
  | normal =>
    obtain ⟨x', l', h1, h2, h3⟩ := Again.elim hk
    exact ⟨x', ⟨_, h2, h1.fit F'⟩, h3⟩
  | _ => exact ⟨R', s', hk, F'⟩

/-! ### Results -/
def resA (T : Nat → Option TI) (md : Bool) (s : AS) : List ResultVar → (List AE → Prop) → Prop
  | [], k => k []
  | .tmp t :: r, k => onV s (.tmp t) fun v => match v with
    | .c x => resA T md s r fun es => k (.c x :: es)
    | .g cs => resA T md s r fun es => k (.g cs :: es)
    | .t _ => False
  | .cell p t :: r, k => stepA T md s (.load t (.tmp p)) fun v _ => match v with
    | .c x => resA T md s r fun es => k (.c x :: es)
    | .g cs => resA T md s r fun es => k (.g cs :: es)
    | .t _ => False

def tupA : List AE → AV
  | [.c x] => .c x
  | [.g cs] => .g cs
  | es => .t es

/-- Numbers in what is handed back: below k what came in; k + i is number l[i] of the state. -/
def qf (k : Nat) (l : List Nat) (i : Nat) : Nat := if i < k then i else if GB ≤ i then i else (l[i - k]?).getD 0

structure FinOk (s : AS) (r : AV) (Post : AV → List (Nat × ABlk) → Nat → Prop) (l : List Nat) (r0 : AV) (hp' : List (Nat × ABlk)) : Prop where
  post : Post r0 hp' (s.k0 + l.length)
  res : r0.ren (qf s.k0 l) = r
  hp : hpAll s.hp (qf s.k0 l) hp'
  inj : (hp'.map fun p => qf s.k0 l p.1).Nodup
  nd : (hp'.map Prod.fst).Nodup
  rlt : r0.lt (s.k0 + l.length)
  hlt : hpLt (s.k0 + l.length) hp'
  le : s.k0 + l.length ≤ GB

def Fin (s : AS) (r : AV) (Post : AV → List (Nat × ABlk) → Nat → Prop) : Prop := ∃ l r0 hp', FinOk s r Post l r0 hp'

def argTm : Nat → List AV → List (Nat × AV)
  | _, [] => []
  | i, v :: r => (i, v) :: argTm (i + 1) r

def bodyQ (T : Nat → Option TI) (md : Bool) (fn : Func) (Post : AV → List (Nat × ABlk) → Nat → Prop) : Exit → AS → Prop
  | .ret, s => resA T md s fn.results.toList fun es => Fin s (tupA es) Post
  | .normal, s => resA T md s fn.results.toList fun es => Fin s (tupA es) Post
  | _, _ => False

/-! ### A contract out of a body -/
theorem argTm_get : ∀ (l : List AV) (i t : Nat) (v : AV), lk (argTm i l) t = some v → i ≤ t ∧ l[t - i]? = some v
  | x :: r, i, t, v, h => by
    simp only [argTm, lk] at h
    split at h
    · rename_i e; subst e; injection h with h; subst h; exact ⟨Nat.le_refl _, by simp⟩
    · rename_i e
      obtain ⟨h1, h2⟩ := argTm_get r (i + 1) t v h
      refine ⟨by omega, ?_⟩
      rw [show t - i = (t - (i + 1)) + 1 by omega]; simpa using h2

def rdRes (tmps : Array Value) : ResultVar → Sem Value
  | .tmp t => pure (tmps.getD t undef)
  | .cell p t => do loadVar t (← asAddr (tmps.getD p undef))

theorem resA_sound (hT : TOk P T) : ∀ (rs : List ResultVar) {k : List AE → Prop}, Fit E R s a w → resA T md s rs k → ∃ es, k es ∧ ∃ us : List Value, us.length = es.length ∧ us.length = rs.length ∧
      (rs.mapM (rdRes a.tmps)).run P w = .ok us w ∧ (∀ (i : Nat) (e : AE), es[i]? = some e → ∃ u : Value, us[i]? = some u ∧ conE R e u) ∧ ∀ e ∈ es, e.lt s.nx
  | [], k, F, h => ⟨[], h, [], rfl, rfl, rfl, by simp, fun _ h => (List.not_mem_nil h).elim⟩
  | rv :: rs, k, F, h => by
    have join : ∀ (e : AE) (u : Value), conE R e u → e.lt s.nx → (rdRes a.tmps rv).run P w = .ok u w →
        (resA T md s rs fun es => k (e :: es)) → ∃ es, k es ∧ ∃ us : List Value, us.length = es.length ∧ us.length = (rv :: rs).length ∧
      ((rv :: rs).mapM (rdRes a.tmps)).run P w = .ok us w ∧ (∀ (i : Nat) (e : AE), es[i]? = some e → ∃ u : Value, us[i]? = some u ∧ conE R e u) ∧ ∀ e ∈ es, e.lt s.nx := by
      intro e u hc hl hr hk
      obtain ⟨es, h1, us, h2, h3, h4, h5, h6⟩ := resA_sound hT rs F hk
      refine ⟨e :: es, h1, u :: us, by simp [h2], by simp [h3], ?_, ?_, ?_⟩
      · rw [List.mapM_cons]
        simp only [Sem.run_bind]
        rw [hr]
        simp only [Result.andThen_ok, h4, Sem.run_pure]
      · intro i e' hi
        cases i with
        | zero => simp at hi; subst hi; exact ⟨u, rfl, hc⟩
        | succ i => simp at hi ⊢; exact h5 i e' hi
      · intro e' he
        rcases List.mem_cons.1 he with h | h
        · exact h ▸ hl
        · exact h6 e' h
    cases rv with
    | tmp t =>
      simp only [resA] at h
      obtain ⟨v, hk, hc, hl⟩ := onV_sound F h
      have he : a.eval (.tmp t) = a.tmps.getD t undef := rfl
      rw [he] at hc
      split at hk <;> try exact hk.elim
      · exact join (.c _) _ hc hl rfl hk
      · exact join (.g _) _ hc hl rfl hk
    | cell p t =>
      simp only [resA] at h
      obtain ⟨u, v, ad, h1, h2, hk, h4, h5⟩ := load_sound (P := P) hT F h
      have he : a.eval (.tmp p) = a.tmps.getD p undef := rfl
      rw [he] at h1
      have hr : (rdRes a.tmps (.cell p t)).run P w = .ok u w := by
        simp only [rdRes, h1, asAddr, Sem.run_bind, Sem.run_pure, Result.andThen_ok, h2]
      split at hk <;> try exact hk.elim
      · exact join (.c _) _ h4 h5 hr hk
      · exact join (.g _) _ h4 h5 hr hk

theorem run_results {fn : Func} {tmps : Array Value} {us : List Value} (h : (fn.results.toList.mapM (rdRes tmps)).run P w = .ok us w) :
    (results fn tmps).run P w = .ok (if h : us.length = 1 then us[0] else .tuple us.toArray) w := by
  have e : results fn tmps = (do let vs ← fn.results.mapM (rdRes tmps); pure (if h : vs.size = 1 then vs[0] else .tuple vs)) := rfl
  rw [e, Array.mapM_eq_mapM_toList]
  simp only [Sem.run_bind, Sem.run_map, h, Result.andThen_ok, Sem.run_pure]
  simp

theorem tupA_sound {es : List AE} {us : List Value} (hl : us.length = es.length) (hc : ∀ (i : Nat) (e : AE), es[i]? = some e → ∃ u : Value, us[i]? = some u ∧ conE R e u) : conV R (tupA es) (if h : us.length = 1 then us[0] else .tuple us.toArray) := by
  have gen : us.length ≠ 1 → conV R (.t es) (if h : us.length = 1 then us[0] else .tuple us.toArray) := fun hn => by
    rw [dif_neg hn]
    exact ⟨us.toArray, rfl, by simpa using hl, fun i e hi => by simpa using hc i e hi⟩
  cases es with
  | nil => exact gen (by simp [hl])
  | cons e r => cases r with
    | cons e2 r => cases e <;> exact gen (by simp [hl])
    | nil =>
      have h1 : us.length = 1 := by simpa using hl
      obtain ⟨u, hu, hcu⟩ := hc 0 e rfl
      rw [dif_pos h1]
      have : us[0] = u := by
        have := (List.getElem?_eq_some_iff.1 hu).2; exact this
      rw [this]
      cases e <;> exact hcu
theorem tupA_lt {es : List AE} {n : Nat} (h : ∀ e ∈ es, e.lt n) : (tupA es).lt n := by
  cases es with
  | nil => exact h
  | cons e r => cases r with
    | cons e2 r => cases e <;> exact h
    | nil => have := h e (by simp); cases e <;> exact this

/-- The marks of the loops over functions are taken away: nothing that is known turns. -/
theorem leavesM {fn : Func} {tmps : Array Value} {X : Ending → World → Prop} {hp : List (Nat × ABlk)} {M : Nat → Prop} {W0 : World}
    (hX : ∀ w, HRel R hp w → Fr M W0 w → ∃ v, (results fn tmps).run P w = .ok v w ∧ X (.returned v) w) :
    ∀ (ds : List Nat) (w : World), HRel R hp w → Fr M W0 w → ds.Nodup → (∀ d ∈ ds, (M d ∨ W0.heap.size ≤ d) ∧ w.heap[d]? = some (.deferred (some []))) → LeavesInM (FW r) n P fn tmps X (ds.map fun d => { target := .collected d, args := #[] }) .returning w
  | [], w, H, hf, _, hd => hX w H hf
  | d :: ds, w, H, hf, hnd, hd => by
    obtain ⟨h1, h2⟩ := hd d (by simp)
    have hne : ∀ i b, lk hp i = some b → R.ρ i ≠ d := by
      intro i b hb e
      have hB := H.blk i b hb
      rw [← e] at h2
      cases b <;> simp only [BRel] at hB <;> simp_all
    refine ⟨by simp, .inl ⟨d, w.putObj d (.deferred none), rfl, run_takeDeferred h2, ?_⟩⟩
    refine leavesM hX ds _ ⟨fun i b hb => (H.blk i b hb).of_block (World.putObj_heap_other (hne i b hb)), H.inj⟩ ?_ (List.nodup_cons.1 hnd).2 ?_
    · exact ⟨hf.os, hf.tape, hf.output, by rw [World.putObj_size]; exact hf.size, fun k hk hn => (World.putObj_heap_other (by intro e; subst e; exact h1.elim hn (fun h => by omega))).trans (hf.block k hk hn)⟩
    · intro d' hd'
      have hne' : d' ≠ d := fun e => (List.nodup_cons.1 hnd).1 (e ▸ hd')
      exact ⟨(hd d' (by simp [hd'])).1, (World.putObj_heap_other hne').trans (hd d' (by simp [hd'])).2⟩

theorem Fin.mk {Post : AV → List (Nat × ABlk) → Nat → Prop} {r : AV} (l : List Nat) (r0 : AV) (hp' : List (Nat × ABlk)) (h : FinOk s r Post l r0 hp') : Fin s r Post := ⟨l, r0, hp', h⟩

theorem FSpec.of_body {f : FuncId} {fn : Func} {c : Code} (hT : TOk P T) (md : Bool) (hf : P.funcs[f]? = some fn) (hb : fn.body = some c) (hn : (fn.name == "runtime.NumGoroutine") = false) {args : List AV} {hp : List (Nat × ABlk)} {k : Nat}
    {Post : AV → List (Nat × ABlk) → Nat → Prop} (hk : k ≤ GB) (hal : ∀ v ∈ args, v.lt k) (hhl : hpLt k hp) (hnt : args.length ≤ fn.ntmps)
    (h : wpC P T md c ⟨argTm 0 args, hp, k, fn.ntmps, k⟩ (bodyQ T md fn Post)) : FSpec P f args hp k Post where
  call := Go.Proofs.enters_of hf hn hb
  run := fun w R vs hok hvs hcon H => by
    let E : Env := ⟨w, R, k, fun j => ∃ i b, lk hp i = some b ∧ b.wr = true ∧ R.ρ i = j⟩
    have F : Fit E R ⟨argTm 0 args, hp, k, fn.ntmps, k⟩ { tmps := vs ++ Array.replicate (fn.ntmps - vs.size) undef, defers := [] } w := {
      ok := hok
      nt := by simp [hvs]; omega
      tm := fun t v hv => by
        obtain ⟨_, h2⟩ := argTm_get args 0 t v hv
        obtain ⟨u, hu, hc⟩ := hcon t v (by simpa using h2)
        refine ⟨u, ?_, hc⟩
        have := (Array.getElem?_eq_some_iff.1 hu).1
        rw [Array.getElem?_append_left this]; exact hu
      hp := H
      old := fun _ _ => ⟨rfl, rfl, rfl⟩
      wr := fun id b hb hw => .inl ⟨id, b, hb, hw, rfl⟩
      nx := fun id b hb => (hpLt_get hhl hb).1
      nk := ⟨Nat.le_refl _, hk⟩
      kk := rfl
      fr := Fr.refl _ _
      df := ⟨[], rfl, List.nodup_nil, fun d hd => (List.not_mem_nil hd).elim⟩
      wf := ⟨fun t v hv => by
          obtain ⟨_, h2⟩ := argTm_get args 0 t v hv
          exact hal v (List.mem_of_getElem? h2), fun i b hb => hpLt_get hhl hb⟩ }
    have key := (wpC_sound hT c _ _ h).elim (n := 3) (r := none) F (.inl ⟨rfl, Nat.le_refl _⟩)
    refine callsIn_wide.1 (callsIn_of_wp_marks hf hb trivial (wpIn_mono key ?_) rfl)
    rintro e a' w' ⟨R', s', hq, F'⟩
    have fin : (resA T md s' fn.results.toList fun es => Fin s' (tupA es) Post) → LeavesInM (FW none) 3 P fn a'.tmps (fun e w' => ∃ u r hp' k' R', e = .returned u ∧ Post r hp' k' ∧ R'.ok ∧ Agree k R R' ∧ k ≤ k' ∧ conV R' r u ∧ r.lt k' ∧ HRel R' hp' w' ∧ (hp'.map Prod.fst).Nodup ∧
      (∀ i b, lk hp' i = some b → (i < k' ∨ GB ≤ i) ∧ b.lt k') ∧
      (∀ i b, lk hp' i = some b → b.wr = true → (∃ i0 b0, lk hp i0 = some b0 ∧ b0.wr = true ∧ R.ρ i0 = R'.ρ i) ∨ w.heap.size ≤ R'.ρ i) ∧
      Fr (fun j => ∃ i b, lk hp i = some b ∧ b.wr = true ∧ R.ρ i = j) w w') a'.defers .returning w' := by
      intro hq
      obtain ⟨ds, hd1, hd2, hd3⟩ := F'.df
      rw [hd1]
      refine leavesM (R := R') (hp := s'.hp) (M := E.M) (W0 := w) ?_ ds w' F'.hp F'.fr hd2 hd3
      intro w2 H2 Fr2
      have F2 : Fit E R' s' { a' with defers := [] } w2 := { F' with hp := H2, fr := Fr2, df := ⟨[], rfl, List.nodup_nil, fun d hd => (List.not_mem_nil hd).elim⟩ }
      obtain ⟨es, ⟨l, r0, hp', fo⟩, us, h1, h2, h3, h4, h5⟩ := resA_sound (P := P) hT _ F2 hq
      have hk0 : s'.k0 = k := F'.kk
      have ltk : ∀ i, i < k → qf s'.k0 l i = i := fun i hi => by simp [qf, hk0, hi]
      have ltG : ∀ i, qf s'.k0 l (GB + i) = GB + i := fun i => by simp [qf, hk0, show ¬ (GB + i < k) by omega]
      have hold := F2.old
      refine ⟨_, run_results h3, _, r0, hp', s'.k0 + l.length, R'.comp (qf s'.k0 l), rfl, fo.post, ⟨fun i => by simp [Ren.comp, ltG, F2.ok.g], fun i => by simp [Ren.comp, ltG, F2.ok.d], fun i => by simp [Ren.comp, ltG, F2.ok.c]⟩, ?_, by omega, ?_, fo.rlt, ?_, fo.nd, fun i b hb => hpLt_get fo.hlt hb, ?_, Fr2⟩
      · intro i hi
        rcases hi with hi | hi
        · simp only [Ren.comp, ltk i hi]; exact hold i hi
        · obtain ⟨j, rfl⟩ := Nat.exists_eq_add_of_le hi
          simp only [Ren.comp, ltG, F2.ok.g, F2.ok.d, F2.ok.c, hok.g, hok.d, hok.c, and_self]
      · have := tupA_sound (by omega) h4
        rw [← fo.res] at this
        exact conV_ren.1 this
      · exact ⟨fun i b hb => BRel_ren.1 (H2.blk _ _ (hpAll_get fo.hp hb)), fun i j b c hi hj hne hw =>
          H2.inj _ _ _ _ (hpAll_get fo.hp hi) (hpAll_get fo.hp hj) (nodup_inj fo.inj hi hj hne) (by rw [ABlk.ren_wr]; exact hw)⟩
      · intro i b hb hw
        rcases F2.wr _ _ (hpAll_get fo.hp hb) (by rw [ABlk.ren_wr]; exact hw) with ⟨i0, b0, g1, g2, g3⟩ | g
        · exact .inl ⟨i0, b0, g1, g2, g3⟩
        · exact .inr g
    cases e <;> first | exact fin hq | exact hq.elim

attribute [irreducible] Fin
end Go.AH
