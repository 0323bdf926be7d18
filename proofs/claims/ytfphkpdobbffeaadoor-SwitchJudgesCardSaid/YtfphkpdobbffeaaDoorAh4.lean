/-
  Loops, weakening, and a function's contract out of its body.
-/
import Derived.Test.YtfphkpdobbffeaaDoorAh3
set_option linter.unusedSimpArgs false
set_option linter.unusedVariables false
namespace Go.AH
open Go.RowKit

variable {P : Program} {T : Nat → Option TI} {md : Bool} {E : Env} {R R' : Ren} {s t : AS} {a : Act} {w w' : World} {n : Nat} {r : Option Nat}

def rn (l : List (Nat × Nat)) (i : Nat) : Nat := (lk l i).getD i

def lkAll (tm : List (Nat × AV)) (q : Nat → Nat) : List (Nat × AV) → Prop
  | [] => True
  | (t, v) :: r => lk tm t = some (v.ren q) ∧ lkAll tm q r
def hpAll (hp : List (Nat × ABlk)) (q : Nat → Nat) : List (Nat × ABlk) → Prop
  | [] => True
  | (i, b) :: r => lk hp (q i) = some (b.ren q) ∧ hpAll hp q r
theorem lkAll_get {tm : List (Nat × AV)} {q : Nat → Nat} : ∀ {l : List (Nat × AV)} {t : Nat} {v : AV}, lkAll tm q l → lk l t = some v → lk tm t = some (v.ren q)
  | (t', v') :: r, t, v, h, hv => by
    simp only [lk] at hv
    split at hv
    · rename_i e; subst e; injection hv with hv; subst hv; exact h.1
    · exact lkAll_get h.2 hv
theorem hpAll_get {hp : List (Nat × ABlk)} {q : Nat → Nat} : ∀ {l : List (Nat × ABlk)} {i : Nat} {b : ABlk}, hpAll hp q l → lk l i = some b → lk hp (q i) = some (b.ren q)
  | (t', v') :: r, t, v, h, hv => by
    simp only [lk] at hv
    split at hv
    · rename_i e; subst e; injection hv with hv; subst hv; exact h.1
    · exact hpAll_get h.2 hv

def tmLt (n : Nat) : List (Nat × AV) → Prop
  | [] => True
  | (_, v) :: r => v.lt n ∧ tmLt n r
def hpLt (n : Nat) : List (Nat × ABlk) → Prop
  | [] => True
  | (i, b) :: r => idOk n i ∧ b.lt n ∧ hpLt n r
theorem tmLt_get {n : Nat} : ∀ {l : List (Nat × AV)} {t : Nat} {v : AV}, tmLt n l → lk l t = some v → v.lt n
  | (t', v') :: r, t, v, h, hv => by
    simp only [lk] at hv
    split at hv
    · injection hv with hv; subst hv; exact h.1
    · exact tmLt_get h.2 hv
theorem hpLt_get {n : Nat} : ∀ {l : List (Nat × ABlk)} {t : Nat} {v : ABlk}, hpLt n l → lk l t = some v → idOk n t ∧ v.lt n
  | (t', v') :: r, t, v, h, hv => by
    simp only [lk] at hv
    split at hv
    · rename_i e; subst e; injection hv with hv; subst hv; exact ⟨h.1, h.2.1⟩
    · exact hpLt_get h.2.2 hv

structure Sub (s t : AS) (l : List (Nat × Nat)) : Prop where
  nt : t.nt = s.nt
  k0 : t.k0 = s.k0
  k : t.k0 ≤ t.nx ∧ t.nx ≤ s.nx
  fix : ∀ p ∈ l, s.k0 ≤ p.1 ∧ p.1 < GB
  tm : lkAll s.tm (rn l) t.tm
  hp : hpAll s.hp (rn l) t.hp
  inj : (t.hp.map fun p => rn l p.1).Nodup
  tlt : tmLt t.nx t.tm
  hlt : hpLt t.nx t.hp

theorem nodup_inj {q : Nat → Nat} : ∀ {l : List (Nat × ABlk)} {i j : Nat} {b c : ABlk}, (l.map fun p => q p.1).Nodup → lk l i = some b → lk l j = some c → i ≠ j → q i ≠ q j
  | (x, y) :: r, i, j, b, c, h, hi, hj, hne => by
    have hm : ∀ {k : Nat} {d : ABlk}, lk r k = some d → q k ∈ r.map fun p => q p.1 := by
      intro k d hk
      have : ∃ d, (k, d) ∈ r := by
        clear h hi hj
        induction r with
        | nil => cases hk
        | cons p r ih =>
          obtain ⟨u, v⟩ := p
          simp only [lk] at hk
          split at hk
          · rename_i e; subst e; exact ⟨v, by simp⟩
          · obtain ⟨d', hd'⟩ := ih hk; exact ⟨d', by simp [hd']⟩
      obtain ⟨d', hd'⟩ := this
      exact List.mem_map.2 ⟨_, hd', rfl⟩
    have h1 := List.nodup_cons.1 (by simpa using h : (q x :: r.map fun p => q p.1).Nodup)
    simp only [lk] at hi hj
    split at hi
    · rename_i e; subst e
      rw [if_neg hne] at hj
      intro e; exact h1.1 (e ▸ hm hj)
    · split at hj
      · rename_i e; subst e
        intro e; exact h1.1 (e ▸ hm hi)
      · exact nodup_inj h1.2 hi hj hne

theorem lk_none_lt {l : List (Nat × Nat)} {i : Nat} (h : ∀ p ∈ l, p.1 ≠ i) : lk l i = none := by
  induction l with
  | nil => rfl
  | cons p r ih =>
    obtain ⟨x, y⟩ := p
    simp only [lk]
    rw [if_neg (h (x, y) (by simp))]
    exact ih fun p hp => h p (by simp [hp])

theorem Sub.fit {l : List (Nat × Nat)} (S : Sub s t l) (F : Fit E R s a w) : Fit E (R.comp (rn l)) t a w where
  ok := by
    have : ∀ i, rn l (GB + i) = GB + i := fun i => by
      unfold rn; rw [lk_none_lt fun p hp => by have := (S.fix p hp).2; omega]; rfl
    exact ⟨fun i => by simp [Ren.comp, this, F.ok.g], fun i => by simp [Ren.comp, this, F.ok.d], fun i => by simp [Ren.comp, this, F.ok.c]⟩
  nt := by rw [S.nt]; exact F.nt
  tm := fun t' v hv => by
    obtain ⟨u, hu, hc⟩ := F.tm t' _ (lkAll_get S.tm hv)
    exact ⟨u, hu, conV_ren.1 hc⟩
  hp := ⟨fun id b hb => BRel_ren.1 (F.hp.blk _ _ (hpAll_get S.hp hb)), fun i j b c hi hj hne hw =>
    F.hp.inj _ _ _ _ (hpAll_get S.hp hi) (hpAll_get S.hp hj) (nodup_inj S.inj hi hj hne) (by rw [ABlk.ren_wr]; exact hw), F.hp.zw, fun id b hb hw => F.hp.zn _ _ (hpAll_get S.hp hb) (by rw [ABlk.ren_wr]; exact hw)⟩
  old := fun i hi => by
    have : rn l i = i := by
      unfold rn; rw [lk_none_lt fun p hp => by have := (S.fix p hp).1; have := F.kk; omega]; rfl
    simp only [Ren.comp, this]; exact F.old i hi
  wr := fun id b hb hw => F.wr _ _ (hpAll_get S.hp hb) (by rw [ABlk.ren_wr]; exact hw)
  nx := fun id b hb => (hpLt_get S.hlt hb).1
  nk := ⟨by have := S.k.1; have := F.kk; have := S.k0; omega, Nat.le_trans S.k.2 F.nk.2⟩
  kk := by rw [S.k0]; exact F.kk
  fr := F.fr
  zg := F.zg
  df := F.df
  wf := ⟨fun t' v hv => tmLt_get S.tlt hv, fun i b hb => hpLt_get S.hlt hb⟩

theorem Tr.mono {c : Code} {Q Q' : Exit → AS → Prop} (h : Tr P c s Q) (hq : ∀ e s, Q e s → Q' e s) : Tr P c s Q' := Tr.intro fun E R a w n r F ht =>
  wpIn_mono (h.elim F ht) fun e a' w' ⟨R', s', hk, F'⟩ => ⟨R', s', hq _ _ hk, F'⟩

theorem Tr.sub {c : Code} {Q : Exit → AS → Prop} {l : List (Nat × Nat)} (S : Sub s t l) (h : Tr P c t Q) : Tr P c s Q := Tr.intro fun E R a w n r F ht => h.elim (S.fit F) ht

theorem exists_least {p : Nat → Prop} (h : ∃ n, p n) : ∃ n, p n ∧ ∀ m, p m → n ≤ m := by
  obtain ⟨n, hn⟩ := h
  induction n using Nat.strongRecOn with
  | _ n ih =>
    by_cases hx : ∃ m, m < n ∧ p m
    · obtain ⟨m, h1, h2⟩ := hx; exact ih m h1 h2
    · exact ⟨n, hn, fun m hm => Nat.le_of_not_lt fun hlt => hx ⟨m, hlt, hm⟩⟩

open Classical in
theorem wpIn_loop_ghost {F : Fence} {X : Type} {c : Code} {Q : Exit → Act → World → Prop} (I : X → Act → World → Prop) (μ : X → Nat) (x0 : X) (h0 : I x0 a w)
    (round : ∀ x a w, I x a w → c.wpIn F n P (Exit.then (fun a' w' => ∃ x', I x' a' w' ∧ μ x' < μ x) Q) a w) : (Code.loop c).wpIn F n P Q a w := by
  let p : Act → World → Nat → Prop := fun a w m => ∃ x, I x a w ∧ μ x = m
  let ν : Act → World → Nat := fun a w => if h : ∃ m, p a w m then Classical.choose (exists_least h) else 0
  have hν : ∀ a w, (∃ m, p a w m) → p a w (ν a w) ∧ ∀ m, p a w m → ν a w ≤ m := fun a w h => by
    have := Classical.choose_spec (exists_least h)
    simp only [ν, dif_pos h]; exact this
  refine wpIn_loop (fun a w => ∃ x, I x a w) ν ⟨x0, h0⟩ ?_
  rintro a w ⟨x, hx⟩
  obtain ⟨⟨y, hy, hm⟩, _⟩ := hν a w ⟨μ x, x, hx, rfl⟩
  refine wpIn_mono (round y a w hy) ?_
  intro e a' w' h
  cases e with
  | normal =>
    obtain ⟨x', h1, h2⟩ := h
    refine ⟨⟨x', h1⟩, ?_⟩
    have := (hν a' w' ⟨μ x', x', h1, rfl⟩).2 (μ x') ⟨x', h1, rfl⟩
    omega
  | _ => exact h

def Under (s t : AS) : Prop := ∀ (E : Env) (R : Ren) (a : Act) (w : World), Fit E R s a w → ∃ R', Fit E R' t a w
theorem Sub.under {l : List (Nat × Nat)} (S : Sub s t l) : Under s t := fun E R a w F => ⟨_, S.fit F⟩
def Again {X : Type} (st : X → AS) (inv : X → Prop) (μ : X → Nat) (m : Nat) (s : AS) : Prop := ∃ x', Under s (st x') ∧ inv x' ∧ μ x' < m
theorem Again.mk {X : Type} {st : X → AS} {inv : X → Prop} {μ : X → Nat} {m : Nat} (x' : X) {l' : List (Nat × Nat)} (h : Sub s (st x') l') (hi : inv x') (hm : μ x' < m) : Again st inv μ m s := ⟨x', h.under, hi, hm⟩
theorem Again.under {X : Type} {st : X → AS} {inv : X → Prop} {μ : X → Nat} {m : Nat} (x' : X) (h : Under s (st x')) (hi : inv x') (hm : μ x' < m) : Again st inv μ m s := ⟨x', h, hi, hm⟩
theorem Again.elim {X : Type} {st : X → AS} {inv : X → Prop} {μ : X → Nat} {m : Nat} (h : Again st inv μ m s) : ∃ x', Under s (st x') ∧ inv x' ∧ μ x' < m := h
attribute [irreducible] Again

theorem Tr.loopU {X : Type} (st : X → AS) (inv : X → Prop) (μ : X → Nat) (x0 : X) {c : Code} {Q : Exit → AS → Prop} (hT : TOk P T) (h0 : inv x0) (hs : Under s (st x0))
    (round : ∀ x, inv x → wpC P T md c (st x) (thenA (Again st inv μ (μ x)) Q)) : Tr P (.loop c) s Q := Tr.intro fun E R a w n r F ht => by
  refine wpIn_loop_ghost (fun x a w => ∃ R, inv x ∧ Fit E R (st x) a w) μ x0 (by obtain ⟨R', F'⟩ := hs _ _ _ _ F; exact ⟨R', h0, F'⟩) ?_
  rintro x a w ⟨R, hx, F⟩
  refine wpIn_mono ((wpC_sound hT c _ _ (round x hx)).elim F ht) ?_
  rintro e a' w' ⟨R', s', hk, F'⟩
  cases e with
  | normal =>
    obtain ⟨x', h1, h2, h3⟩ := Again.elim hk
    obtain ⟨R2, F2⟩ := h1 _ _ _ _ F'
    exact ⟨x', ⟨R2, h2, F2⟩, h3⟩
  | _ => exact ⟨R', s', hk, F'⟩

theorem Tr.loop {X : Type} (st : X → AS) (inv : X → Prop) (μ : X → Nat) (x0 : X) {c : Code} {Q : Exit → AS → Prop} {l : List (Nat × Nat)} (hT : TOk P T) (h0 : inv x0) (hs : Sub s (st x0) l)
    (round : ∀ x, inv x → wpC P T md c (st x) (thenA (Again st inv μ (μ x)) Q)) : Tr P (.loop c) s Q := Tr.loopU st inv μ x0 hT h0 hs.under round

/-! ### Results -/
def resA (T : Nat → Option TI) (md : Bool) (s : AS) : List ResultVar → (List AE → Prop) → Prop
  | [], k => k []
  | .tmp t :: r, k => onV s (.tmp t) fun v => match v with
    | .c x => resA T md s r fun es => k (.c x :: es)
    | .g cs => resA T md s r fun es => k (.g cs :: es)
    | .t _ => False
  | .cell p t :: r, k => stepA T md s (.load t (.tmp p)) fun v _ => match v with
    | .c x => resA T md s r fun es => k (.c x :: es)
    | .g cs => resA T md s r fun es => k (.g cs :: es)
    | .t _ => False

def tupA : List AE → AV
  | [.c x] => .c x
  | [.g cs] => .g cs
  | es => .t es

def qf (k : Nat) (l : List Nat) (i : Nat) : Nat := if i < k then i else if GB ≤ i then i else (l[i - k]?).getD 0

structure FinOk (s : AS) (r : AV) (Post : AV → List (Nat × ABlk) → Nat → Prop) (l : List Nat) (r0 : AV) (hp' : List (Nat × ABlk)) : Prop where
  post : Post r0 hp' (s.k0 + l.length)
  res : r0.ren (qf s.k0 l) = r
  hp : hpAll s.hp (qf s.k0 l) hp'
  inj : (hp'.map fun p => qf s.k0 l p.1).Nodup
  nd : (hp'.map Prod.fst).Nodup
  rlt : r0.lt (s.k0 + l.length)
  hlt : hpLt (s.k0 + l.length) hp'
  le : s.k0 + l.length ≤ GB

def Fin (s : AS) (r : AV) (Post : AV → List (Nat × ABlk) → Nat → Prop) : Prop := ∃ l r0 hp', FinOk s r Post l r0 hp'

def argTm : Nat → List AV → List (Nat × AV)
  | _, [] => []
  | i, v :: r => (i, v) :: argTm (i + 1) r

def bodyQ (T : Nat → Option TI) (md : Bool) (fn : Func) (Post : AV → List (Nat × ABlk) → Nat → Prop) : Exit → AS → Prop
  | .ret, s => resA T md s fn.results.toList fun es => Fin s (tupA es) Post
  | .normal, s => resA T md s fn.results.toList fun es => Fin s (tupA es) Post
  | _, _ => False

/-! ### A contract out of a body -/
theorem argTm_get : ∀ (l : List AV) (i t : Nat) (v : AV), lk (argTm i l) t = some v → i ≤ t ∧ l[t - i]? = some v
  | x :: r, i, t, v, h => by
    simp only [argTm, lk] at h
    split at h
    · rename_i e; subst e; injection h with h; subst h; exact ⟨Nat.le_refl _, by simp⟩
    · rename_i e
      obtain ⟨h1, h2⟩ := argTm_get r (i + 1) t v h
      refine ⟨by omega, ?_⟩
      rw [show t - i = (t - (i + 1)) + 1 by omega]; simpa using h2

def rdRes (tmps : Array Value) : ResultVar → Sem Value
  | .tmp t => pure (tmps.getD t undef)
  | .cell p t => do loadVar t (← asAddr (tmps.getD p undef))

theorem resA_sound (hT : TOk P T) : ∀ (rs : List ResultVar) {k : List AE → Prop}, Fit E R s a w → resA T md s rs k → ∃ es, k es ∧ ∃ us : List Value, us.length = es.length ∧ us.length = rs.length ∧
      (rs.mapM (rdRes a.tmps)).run P w = .ok us w ∧ (∀ (i : Nat) (e : AE), es[i]? = some e → ∃ u : Value, us[i]? = some u ∧ conE R e u) ∧ ∀ e ∈ es, e.lt s.nx
  | [], k, F, h => ⟨[], h, [], rfl, rfl, rfl, by simp, fun _ h => (List.not_mem_nil h).elim⟩
  | rv :: rs, k, F, h => by
    have join : ∀ (e : AE) (u : Value), conE R e u → e.lt s.nx → (rdRes a.tmps rv).run P w = .ok u w →
        (resA T md s rs fun es => k (e :: es)) → ∃ es, k es ∧ ∃ us : List Value, us.length = es.length ∧ us.length = (rv :: rs).length ∧
      ((rv :: rs).mapM (rdRes a.tmps)).run P w = .ok us w ∧ (∀ (i : Nat) (e : AE), es[i]? = some e → ∃ u : Value, us[i]? = some u ∧ conE R e u) ∧ ∀ e ∈ es, e.lt s.nx := by
      intro e u hc hl hr hk
      obtain ⟨es, h1, us, h2, h3, h4, h5, h6⟩ := resA_sound hT rs F hk
      refine ⟨e :: es, h1, u :: us, by simp [h2], by simp [h3], ?_, ?_, ?_⟩
      · rw [List.mapM_cons]
        simp only [Sem.run_bind]
        rw [hr]
        simp only [Result.andThen_ok, h4, Sem.run_pure]
      · intro i e' hi
        cases i with
        | zero => simp at hi; subst hi; exact ⟨u, rfl, hc⟩
        | succ i => simp at hi ⊢; exact h5 i e' hi
      · intro e' he
        rcases List.mem_cons.1 he with h | h
        · exact h ▸ hl
        · exact h6 e' h
    cases rv with
    | tmp t =>
      simp only [resA] at h
      obtain ⟨v, hk, hc, hl⟩ := onV_sound F h
      have he : a.eval (.tmp t) = a.tmps.getD t undef := rfl
      rw [he] at hc
      split at hk <;> try exact hk.elim
      · exact join (.c _) _ hc hl rfl hk
      · exact join (.g _) _ hc hl rfl hk
    | cell p t =>
      simp only [resA] at h
      obtain ⟨u, v, ad, h1, h2, hk, h4, h5⟩ := load_sound (P := P) hT F h
      have he : a.eval (.tmp p) = a.tmps.getD p undef := rfl
      rw [he] at h1
      have hr : (rdRes a.tmps (.cell p t)).run P w = .ok u w := by
        simp only [rdRes, h1, asAddr, Sem.run_bind, Sem.run_pure, Result.andThen_ok, h2]
      split at hk <;> try exact hk.elim
      · exact join (.c _) _ h4 h5 hr hk
      · exact join (.g _) _ h4 h5 hr hk

theorem run_results {fn : Func} {tmps : Array Value} {us : List Value} (h : (fn.results.toList.mapM (rdRes tmps)).run P w = .ok us w) :
    (results fn tmps).run P w = .ok (if h : us.length = 1 then us[0] else .tuple us.toArray) w := by
  have e : results fn tmps = (do let vs ← fn.results.mapM (rdRes tmps); pure (if h : vs.size = 1 then vs[0] else .tuple vs)) := rfl
  rw [e, Array.mapM_eq_mapM_toList]
  simp only [Sem.run_bind, Sem.run_map, h, Result.andThen_ok, Sem.run_pure]
  simp

theorem tupA_sound {es : List AE} {us : List Value} (hl : us.length = es.length) (hc : ∀ (i : Nat) (e : AE), es[i]? = some e → ∃ u : Value, us[i]? = some u ∧ conE R e u) : conV R (tupA es) (if h : us.length = 1 then us[0] else .tuple us.toArray) := by
  have gen : us.length ≠ 1 → conV R (.t es) (if h : us.length = 1 then us[0] else .tuple us.toArray) := fun hn => by
    rw [dif_neg hn]
    exact ⟨us.toArray, rfl, by simpa using hl, fun i e hi => by simpa using hc i e hi⟩
  cases es with
  | nil => exact gen (by simp [hl])
  | cons e r => cases r with
    | cons e2 r => cases e <;> exact gen (by simp [hl])
    | nil =>
      have h1 : us.length = 1 := by simpa using hl
      obtain ⟨u, hu, hcu⟩ := hc 0 e rfl
      rw [dif_pos h1]
      have : us[0] = u := by
        have := (List.getElem?_eq_some_iff.1 hu).2; exact this
      rw [this]
      cases e <;> exact hcu
theorem leavesM {fn : Func} {tmps : Array Value} {X : Ending → World → Prop} {hp : List (Nat × ABlk)} {M : Nat → Prop} {W0 : World}
    (hX : ∀ w, HRel R hp w → Fr M W0 w → ∃ v, (results fn tmps).run P w = .ok v w ∧ X (.returned v) w) :
    ∀ (ds : List Nat) (w : World), HRel R hp w → Fr M W0 w → ds.Nodup → (∀ d ∈ ds, (M d ∨ W0.heap.size ≤ d) ∧ w.heap[d]? = some (.deferred (some []))) → LeavesInM (FW r) n P fn tmps X (ds.map fun d => { target := .collected d, args := #[] }) .returning w
  | [], w, H, hf, _, hd => hX w H hf
  | d :: ds, w, H, hf, hnd, hd => by
    obtain ⟨h1, h2⟩ := hd d (by simp)
    have hne : ∀ i b, lk hp i = some b → R.ρ i ≠ d := by
      intro i b hb e
      have hB := H.blk i b hb
      rw [← e] at h2
      cases b <;> simp only [BRel] at hB <;> simp_all
    refine ⟨by simp, .inl ⟨d, w.putObj d (.deferred none), rfl, run_takeDeferred h2, ?_⟩⟩
    refine leavesM hX ds _ ⟨fun i b hb => (H.blk i b hb).of_block (World.putObj_heap_other (hne i b hb)), H.inj, (fun b c hb => by
      obtain ⟨t, v, h3⟩ := H.zw b c hb
      refine ⟨t, v, (World.putObj_heap_other fun e => ?_).trans h3⟩
      rw [e, h2] at h3; cases h3), H.zn⟩ ?_ (List.nodup_cons.1 hnd).2 ?_
    · exact ⟨hf.os, hf.tape, hf.output, by rw [World.putObj_size]; exact hf.size, fun k hk hn => (World.putObj_heap_other (by intro e; subst e; exact h1.elim hn (fun h => by omega))).trans (hf.block k hk hn)⟩
    · intro d' hd'
      have hne' : d' ≠ d := fun e => (List.nodup_cons.1 hnd).1 (e ▸ hd')
      exact ⟨(hd d' (by simp [hd'])).1, (World.putObj_heap_other hne').trans (hd d' (by simp [hd'])).2⟩

theorem Fin.mk {Post : AV → List (Nat × ABlk) → Nat → Prop} {r : AV} (l : List Nat) (r0 : AV) (hp' : List (Nat × ABlk)) (h : FinOk s r Post l r0 hp') : Fin s r Post := ⟨l, r0, hp', h⟩

theorem FSpec.of_body {f : FuncId} {fn : Func} {c : Code} (hT : TOk P T) (md : Bool) (hf : P.funcs[f]? = some fn) (hb : fn.body = some c) (hn : (fn.name == "runtime.NumGoroutine") = false) {args : List AV} {hp : List (Nat × ABlk)} {k : Nat}
    {Post : AV → List (Nat × ABlk) → Nat → Prop} (hk : k ≤ GB) (hal : ∀ v ∈ args, v.lt k) (hhl : hpLt k hp) (hnt : args.length ≤ fn.ntmps)
    (h : wpC P T md c ⟨argTm 0 args, hp, k, fn.ntmps, k⟩ (bodyQ T md fn Post)) : FSpec P f args hp k Post where
  call := Go.Proofs.enters_of hf hn hb
  run := fun w R vs hok hvs hcon H => by
    let E : Env := ⟨w, R, k, fun j => ∃ i b, lk hp i = some b ∧ b.wr = true ∧ R.ρ i = j⟩
    have F : Fit E R ⟨argTm 0 args, hp, k, fn.ntmps, k⟩ { tmps := vs ++ Array.replicate (fn.ntmps - vs.size) undef, defers := [] } w := {
      ok := hok
      nt := by simp [hvs]; omega
      tm := fun t v hv => by
        obtain ⟨_, h2⟩ := argTm_get args 0 t v hv
        obtain ⟨u, hu, hc⟩ := hcon t v (by simpa using h2)
        refine ⟨u, ?_, hc⟩
        have := (Array.getElem?_eq_some_iff.1 hu).1
        rw [Array.getElem?_append_left this]; exact hu
      hp := H
      old := fun _ _ => ⟨rfl, rfl, rfl⟩
      wr := fun id b hb hw => .inl ⟨id, b, hb, hw, rfl⟩
      nx := fun id b hb => (hpLt_get hhl hb).1
      nk := ⟨Nat.le_refl _, hk⟩
      kk := rfl
      fr := Fr.refl _ _
      zg := ⟨Zle.refl _, fun b hb => .inl hb⟩
      df := ⟨[], rfl, List.nodup_nil, fun d hd => (List.not_mem_nil hd).elim⟩
      wf := ⟨fun t v hv => by
          obtain ⟨_, h2⟩ := argTm_get args 0 t v hv
          exact hal v (List.mem_of_getElem? h2), fun i b hb => hpLt_get hhl hb⟩ }
    have key := (wpC_sound hT c _ _ h).elim (n := 3) (r := none) F (.inl ⟨rfl, Nat.le_refl _⟩)
    refine callsIn_wide.1 (callsIn_of_wp_marks hf hb trivial (wpIn_mono key ?_) rfl)
    rintro e a' w' ⟨R', s', hq, F'⟩
    have fin : (resA T md s' fn.results.toList fun es => Fin s' (tupA es) Post) → LeavesInM (FW none) 3 P fn a'.tmps (fun e w' => ∃ u r hp' k' R', e = .returned u ∧ Post r hp' k' ∧ R'.ok ∧ Agree k R R' ∧ k ≤ k' ∧ conV R' r u ∧ r.lt k' ∧ HRel R' hp' w' ∧ (hp'.map Prod.fst).Nodup ∧
      (∀ i b, lk hp' i = some b → (i < k' ∨ GB ≤ i) ∧ b.lt k') ∧
      (∀ i b, lk hp' i = some b → b.wr = true → (∃ i0 b0, lk hp i0 = some b0 ∧ b0.wr = true ∧ R.ρ i0 = R'.ρ i) ∨ w.heap.size ≤ R'.ρ i) ∧
      Fr (fun j => ∃ i b, lk hp i = some b ∧ b.wr = true ∧ R.ρ i = j) w w' ∧ ∀ b, R'.z b ≠ none → R.z b ≠ none ∨ (∃ i b0, lk hp i = some b0 ∧ b0.wr = true ∧ R.ρ i = b) ∨ w.heap.size ≤ b) a'.defers .returning w' := by
      intro hq
      obtain ⟨ds, hd1, hd2, hd3⟩ := F'.df
      rw [hd1]
      refine leavesM (R := R') (hp := s'.hp) (M := E.M) (W0 := w) ?_ ds w' F'.hp F'.fr hd2 hd3
      intro w2 H2 Fr2
      have F2 : Fit E R' s' { a' with defers := [] } w2 := { F' with hp := H2, fr := Fr2, df := ⟨[], rfl, List.nodup_nil, fun d hd => (List.not_mem_nil hd).elim⟩ }
      obtain ⟨es, ⟨l, r0, hp', fo⟩, us, h1, h2, h3, h4, h5⟩ := resA_sound (P := P) hT _ F2 hq
      have hk0 : s'.k0 = k := F'.kk
      have ltk : ∀ i, i < k → qf s'.k0 l i = i := fun i hi => by simp [qf, hk0, hi]
      have ltG : ∀ i, qf s'.k0 l (GB + i) = GB + i := fun i => by simp [qf, hk0, show ¬ (GB + i < k) by omega]
      have hold := F2.old
      refine ⟨_, run_results h3, _, r0, hp', s'.k0 + l.length, R'.comp (qf s'.k0 l), rfl, fo.post, ⟨fun i => by simp [Ren.comp, ltG, F2.ok.g], fun i => by simp [Ren.comp, ltG, F2.ok.d], fun i => by simp [Ren.comp, ltG, F2.ok.c]⟩, ?_, by omega, ?_, fo.rlt, ?_, fo.nd, fun i b hb => hpLt_get fo.hlt hb, ?_, Fr2, F2.zg.2⟩
      · refine ⟨fun i hi => ?_, F2.zg.1⟩
        rcases hi with hi | hi
        · simp only [Ren.comp, ltk i hi]; exact hold i hi
        · obtain ⟨j, rfl⟩ := Nat.exists_eq_add_of_le hi
          simp only [Ren.comp, ltG, F2.ok.g, F2.ok.d, F2.ok.c, hok.g, hok.d, hok.c, and_self]
      · have := tupA_sound (by omega) h4
        rw [← fo.res] at this
        exact conV_ren.1 this
      · exact ⟨fun i b hb => BRel_ren.1 (H2.blk _ _ (hpAll_get fo.hp hb)), fun i j b c hi hj hne hw =>
          H2.inj _ _ _ _ (hpAll_get fo.hp hi) (hpAll_get fo.hp hj) (nodup_inj fo.inj hi hj hne) (by rw [ABlk.ren_wr]; exact hw), H2.zw, fun id b hb hw => H2.zn _ _ (hpAll_get fo.hp hb) (by rw [ABlk.ren_wr]; exact hw)⟩
      · intro i b hb hw
        rcases F2.wr _ _ (hpAll_get fo.hp hb) (by rw [ABlk.ren_wr]; exact hw) with ⟨i0, b0, g1, g2, g3⟩ | g
        · exact .inl ⟨i0, b0, g1, g2, g3⟩
        · exact .inr g
    cases e <;> first | exact fin hq | exact hq.elim

attribute [irreducible] Fin
end Go.AH

/-
  A table of types, held against the program by the kernel; lemmas for reckoning.
-/
namespace Go.AH
open Go.RowKit

def acB : AC → Value → Bool
  | .int k n, .int k' n' => k == k' && n == n'
  | .bool b, .bool b' => b == b'
  | .str s, .string s' => s.data.toList == s'.data.toList
  | .nilp, .pointer none => true
  | .nils, .slice none 0 0 => true
  | .nilfn, .nilFunc => true
  | .nilm, .map none => true
  | _, _ => false
def acsB : List AC → List Value → Bool
  | [], [] => true
  | x :: r, v :: q => acB x v && acsB r q
  | _, _ => false
def zeroB (i : TI) (z : Value) : Bool := match z with
  | .agg vs => i.agg && acsB i.zero vs.toList
  | z => !i.agg && acsB i.zero [z]
def tdB (P : Program) (t : TypeId) (d : TD) : Bool := match d, P.underlying t with
  | .int k, some (.int k') => k == k'
  | .bool, some .bool => true
  | .str, some .string => true
  | .ptr, some (.pointer _) => true
  | .slice e, some (.slice e') => e == e'
  | .arr n e, some (.array n' e') => n == n' && e == e'
  | .struct fs, some (.struct fields) => (fields.toList.map fun f => (f.offset, f.type)) == fs && fs.all fun p => (P.info? p.2).isSome
  | .map k e, some (.map k' e') => k == k' && e == e'
  | .func, some (.func _ _ _) => true
  | _, _ => false
def tiB (P : Program) (t : TypeId) (i : TI) : Bool := match P.info? t with
  | some x => x.size == i.size && x.bytes == i.bytes && (match x.zero with | some z => zeroB i z | none => false) && tdB P t i.d
  | none => false

theorem acB_sound {x : AC} {v : Value} (h : acB x v = true) (R : Ren) : conC R x v ∧ x.lt 0 := by
  unfold acB at h
  split at h <;> first | (cases h; done) | skip
  · simp only [Bool.and_eq_true, beq_iff_eq] at h; obtain ⟨rfl, rfl⟩ := h; exact ⟨rfl, trivial⟩
  · simp only [beq_iff_eq] at h; subst h; exact ⟨rfl, trivial⟩
  · rename_i s s'
    simp only [beq_iff_eq] at h
    have : s = s' := by
      obtain ⟨⟨l⟩⟩ := s; obtain ⟨⟨l'⟩⟩ := s'
      simp at h; rw [h]
    subst this; exact ⟨rfl, trivial⟩
  · exact ⟨rfl, trivial⟩
  · exact ⟨rfl, trivial⟩
  · exact ⟨rfl, trivial⟩
  · exact ⟨rfl, trivial⟩
theorem acsB_sound : ∀ {xs : List AC} {vs : List Value}, acsB xs vs = true → vs.length = xs.length ∧ (∀ R, conL R xs vs.toArray 0) ∧ ∀ x ∈ xs, x.lt 0
  | [], [], _ => ⟨rfl, fun R i x hi => by simp at hi, fun x hx => (List.not_mem_nil hx).elim⟩
  | x :: r, v :: q, h => by
    simp only [acsB, Bool.and_eq_true] at h
    obtain ⟨h1, h2, h3⟩ := acsB_sound h.2
    refine ⟨by simp [h1], fun R i y hi => ?_, fun y hy => ?_⟩
    · cases i with
      | zero => simp at hi; subst hi; exact ⟨v, rfl, (acB_sound h.1 R).1⟩
      | succ i =>
        simp at hi
        obtain ⟨u, hu, hc⟩ := h2 R i y hi
        refine ⟨u, ?_, hc⟩
        rw [Nat.zero_add] at hu ⊢
        simpa using hu
    · rcases List.mem_cons.1 hy with e | e
      · exact e ▸ (acB_sound h.1 ⟨id, id, id, fun _ => none⟩).2
      · exact h3 y e
  | [], _ :: _, h => by cases h
  | _ :: _, [], h => by cases h

theorem tiok_of {P : Program} {t : TypeId} {i : TI} (h : tiB P t i = true) (he : (!i.cmp || keyB P t i.zero) = true := by rfl) : TIok P t i := by
  unfold tiB at h
  split at h <;> first | (cases h; done) | skip
  rename_i x hx
  simp only [Bool.and_eq_true, beq_iff_eq] at h
  obtain ⟨⟨⟨h1, h2⟩, h3⟩, h4⟩ := h
  split at h3 <;> first | (cases h3; done) | skip
  rename_i z hz
  refine ⟨?_, fun hc => eqLaw_of (by rw [hc] at he; simpa using he), fun hna x' z' hx' hz' => ?_, x, z, hx, h1, h2, hz, ?_⟩
  · unfold tdB at h4
    split at h4 <;> first | (cases h4; done) | skip
    · rename_i e1 e2; simp only [beq_iff_eq] at h4; subst h4; rw [e1]; exact e2
    · rename_i e1 e2; rw [e1]; exact e2
    · rename_i e1 e2; rw [e1]; exact e2
    · rename_i e1 e2; rw [e1]; exact ⟨_, e2⟩
    · rename_i e1 e2; simp only [beq_iff_eq] at h4; subst h4; rw [e1]; exact e2
    · rename_i e1 e2; simp only [beq_iff_eq, Bool.and_eq_true] at h4; obtain ⟨rfl, rfl⟩ := h4; rw [e1]; exact e2
    · rename_i e1 e2; simp only [beq_iff_eq, Bool.and_eq_true, List.all_eq_true] at h4; rw [e1]; exact ⟨_, e2, h4.1, h4.2⟩
    · rename_i e1 e2; simp only [beq_iff_eq, Bool.and_eq_true] at h4; obtain ⟨rfl, rfl⟩ := h4; rw [e1]; exact e2
    · rename_i e1 e2; rw [e1]; exact ⟨_, _, _, e2⟩
  · rw [hx] at hx'; injection hx' with hx'; subst hx'
    rw [hz] at hz'; injection hz' with hz'; subst hz'
    unfold zeroB at h3
    split at h3
    · simp only [hna, Bool.false_and] at h3; cases h3
    · rename_i hnag
      cases z <;> first | rfl | exact absurd rfl (hnag _)
  · unfold zeroB at h3
    split at h3
    · rename_i vs
      simp only [Bool.and_eq_true] at h3
      obtain ⟨g1, g2, g3⟩ := acsB_sound h3.2
      exact ⟨by simpa [Value.cells] using g1, fun R => by simpa [Value.cells] using g2 R, fun _ => rfl, g3⟩
    · rename_i hna
      simp only [Bool.and_eq_true, Bool.not_eq_true'] at h3
      obtain ⟨g1, g2, g3⟩ := acsB_sound h3.2
      have : z.cells = #[z] := by cases z <;> first | rfl | exact absurd rfl (hna _)
      rw [this]
      refine ⟨g1, g2, fun e => ?_, g3⟩
      rw [h3.1] at e; cases e

end Go.AH

/-
  An operation at work on part of a state leaves the rest alone.
-/
namespace Go.AH
open Go.RowKit

def AC.all (p : Nat → Prop) : AC → Prop
  | .ptr id _ => p id
  | .sl id _ _ _ => p id
  | .row id _ => p id
  | .map id => p id
  | .fn _ fs cs => (∀ i ∈ fs, p i) ∧ ∀ i ∈ cs, p i
  | .rs id _ _ => p id
  | .rp id _ _ _ _ => p id
  | _ => True
def LA (p : Nat → Prop) (cs : List AC) : Prop := ∀ x ∈ cs, x.all p
def AE.all (p : Nat → Prop) : AE → Prop
  | .c x => x.all p
  | .g cs => LA p cs
def AV.all (p : Nat → Prop) : AV → Prop
  | .c x => x.all p
  | .g cs => LA p cs
  | .t es => ∀ e ∈ es, AE.all p e
def ABlk.all (p : Nat → Prop) : ABlk → Prop
  | .ro cs => LA p cs
  | .own cs => LA p cs
  | .row _ _ cs => LA p cs
  | .mp m => ∀ q ∈ m, LA p q.1 ∧ q.2.all p
  | .mi _ => True
  | .si .. => True
  | .li _ => True

theorem AC.lt_all {n : Nat} {x : AC} : x.lt n ↔ x.all (idOk n) := by cases x <;> rfl
theorem LL_all {n : Nat} {cs : List AC} : LL n cs ↔ LA (idOk n) cs := by
  unfold LL LA; simp only [AC.lt_all]
theorem AE.lt_all {n : Nat} {x : AE} : x.lt n ↔ x.all (idOk n) := by
  cases x <;> simp only [AE.lt, AE.all, AC.lt_all, LL_all]
theorem AV.lt_all {n : Nat} {x : AV} : x.lt n ↔ x.all (idOk n) := by
  cases x <;> simp only [AV.lt, AV.all, AC.lt_all, LL_all, AE.lt_all]
theorem ABlk.lt_all {n : Nat} {b : ABlk} : b.lt n ↔ b.all (idOk n) := by
  cases b <;> simp only [ABlk.lt, ABlk.all, AC.lt_all, LL_all]

theorem AC.all.mono {p q : Nat → Prop} {x : AC} (h : x.all p) (hm : ∀ i, p i → q i) : x.all q := by
  cases x <;> simp only [AC.all] at h ⊢ <;> first | exact hm _ h | exact ⟨fun i hi => hm _ (h.1 i hi), fun i hi => hm _ (h.2 i hi)⟩
theorem LA.mono {p q : Nat → Prop} {cs : List AC} (h : LA p cs) (hm : ∀ i, p i → q i) : LA q cs := fun x hx => (h x hx).mono hm
theorem AE.all.mono {p q : Nat → Prop} {x : AE} (h : x.all p) (hm : ∀ i, p i → q i) : x.all q := by
  cases x
  · exact AC.all.mono h hm
  · exact LA.mono h hm
theorem AV.all.mono {p q : Nat → Prop} {x : AV} (h : x.all p) (hm : ∀ i, p i → q i) : x.all q := by
  cases x
  · exact AC.all.mono h hm
  · exact LA.mono h hm
  · exact fun e he => (h e he).mono hm
theorem ABlk.all.mono {p q : Nat → Prop} {b : ABlk} (h : b.all p) (hm : ∀ i, p i → q i) : b.all q := by
  cases b
  · exact LA.mono h hm
  · exact LA.mono h hm
  · exact LA.mono h hm
  · exact fun p hp => ⟨(h p hp).1.mono hm, (h p hp).2.mono hm⟩
  · trivial
  · trivial
  · trivial

structure AgreeOn (p : Nat → Prop) (R R' : Ren) : Prop where
  ids : ∀ i, p i → R'.ρ i = R.ρ i ∧ R'.δ i = R.δ i ∧ R'.κ i = R.κ i
  zm : Zle R.z R'.z
instance {p : Nat → Prop} {R R' : Ren} : CoeFun (AgreeOn p R R') (fun _ => ∀ i, p i → R'.ρ i = R.ρ i ∧ R'.δ i = R.δ i ∧ R'.κ i = R.κ i) := ⟨AgreeOn.ids⟩
theorem AgreeOn.adr {p : Nat → Prop} {R R' : Ren} (h : AgreeOn p R R') {i : Nat} (hi : p i) (o : Nat) : R'.adr i o = R.adr i o := by
  obtain ⟨a, b, _⟩ := h i hi; simp [Ren.adr, a, b]

theorem conC.agreeOn {p : Nat → Prop} {R R' : Ren} (h : AgreeOn p R R') {x : AC} {v : Value} (hx : x.all p) (hc : conC R x v) : conC R' x v := by
  cases x with
  | ptr id off => simp only [conC, h.adr hx] at hc ⊢; exact hc
  | sl id off len cap => simp only [conC, h.adr hx] at hc ⊢; exact hc
  | rs id off len => simp only [conC, h.adr hx] at hc ⊢; exact hc
  | row id len => obtain ⟨a, _, c⟩ := h id hx; simp only [conC, a, c] at hc ⊢; exact hc
  | map id => obtain ⟨a, _, _⟩ := h id hx; simp only [conC, a] at hc ⊢; exact hc
  | rp id o len cc z => obtain ⟨a, _, c⟩ := h id hx; simp only [conC, a, c] at hc ⊢; exact hc
  | tv t => exact KR.mono h.zm t v hc
  | tp t o => exact KP.mono h.zm hc
  | fn f fs cs =>
    have hp : ∀ i, p i → R'.p0 i = R.p0 i := fun i hi => by simp [Ren.p0, h.adr hi]
    simp only [conC] at hc ⊢
    rw [hc, List.map_congr_left fun i hi => hp i (hx.1 i hi), List.map_congr_left fun i hi => hp i (hx.2 i hi)]
  | _ => exact hc
theorem conL.agreeOn {p : Nat → Prop} {R R' : Ren} (h : AgreeOn p R R') {cs : List AC} {vs : Array Value} {o : Nat} (hx : LA p cs) (hc : conL R cs vs o) : conL R' cs vs o := fun i x hi => by
  obtain ⟨v, hv, hcv⟩ := hc i x hi
  exact ⟨v, hv, hcv.agreeOn h (hx x (List.mem_of_getElem? hi))⟩
theorem conE.agreeOn {p : Nat → Prop} {R R' : Ren} (h : AgreeOn p R R') {x : AE} {v : Value} (hx : x.all p) (hc : conE R x v) : conE R' x v := by
  cases x with
  | c x => exact conC.agreeOn h hx hc
  | g cs => obtain ⟨vs, a, b, c⟩ := hc; exact ⟨vs, a, b, c.agreeOn h hx⟩
theorem conV.agreeOn {p : Nat → Prop} {R R' : Ren} (h : AgreeOn p R R') {x : AV} {v : Value} (hx : x.all p) (hc : conV R x v) : conV R' x v := by
  cases x with
  | c x => exact conC.agreeOn h hx hc
  | g cs => obtain ⟨vs, a, b, c⟩ := hc; exact ⟨vs, a, b, c.agreeOn h hx⟩
  | t es =>
    obtain ⟨vs, a, b, c⟩ := hc
    exact ⟨vs, a, b, fun i e hi => by obtain ⟨u, hu, hc⟩ := c i e hi; exact ⟨u, hu, hc.agreeOn h (hx e (List.mem_of_getElem? hi))⟩⟩
theorem BRel.agreeOn {p : Nat → Prop} {R R' : Ren} (h : AgreeOn p R R') {id : Nat} {w : World} {b : ABlk} (hid : p id) (hx : b.all p) (hc : BRel R id w b) : BRel R' id w b := by
  obtain ⟨h1, h2, h3⟩ := h id hid
  cases b with
  | ro cs => simp only [BRel, h1, h2] at hc ⊢; obtain ⟨c, t, z, a, b⟩ := hc; exact ⟨c, t, z, a, b.agreeOn h hx⟩
  | own cs => simp only [BRel, h1, h2] at hc ⊢; obtain ⟨c, t, a, d, e, b⟩ := hc; exact ⟨c, t, a, d, e, b.agreeOn h hx⟩
  | row e z cs => simp only [BRel, h1, h2, h3] at hc ⊢; obtain ⟨c, a, d, e, f, g, b⟩ := hc; exact ⟨c, a, d, e, f, g, b.agreeOn h hx⟩
  | mp m =>
    simp only [BRel, h1] at hc ⊢
    obtain ⟨es, cl, a, b, c⟩ := hc
    refine ⟨es, cl, a, b, fun i k v hi => ?_⟩
    obtain ⟨e, he, ⟨vs, k1, k2, k3⟩, hv⟩ := c i k v hi
    have := hx (k, v) (List.mem_of_getElem? hi)
    exact ⟨e, he, ⟨vs, k1, k2, k3.agreeOn h this.1⟩, hv.agreeOn h this.2⟩
  | mi I =>
    obtain ⟨m, ⟨hI, hp⟩, hm⟩ := BRel.mi_iff.1 hc
    exact BRel.mi_iff.2 ⟨m, ⟨hI, hp⟩, hm.mp_prim hp h1⟩
  | si s p => simp only [BRel, h1, h2] at hc ⊢; exact hc
  | li I => simp only [BRel, h1, h2] at hc ⊢; obtain ⟨cs, ⟨hI, hp⟩, c, t, a, d, e, b⟩ := hc; exact ⟨cs, ⟨hI, hp⟩, c, t, a, d, e, conL_prim hp b⟩

theorem BRel.not_deferred {R : Ren} {id : Nat} {w : World} {b : ABlk} (h : BRel R id w b) (ds : Option (List Deferred)) : w.heap[R.ρ id]? ≠ some (.deferred ds) := by
  intro e
  cases b <;> simp only [BRel] at h <;> simp_all

theorem lk_append {β : Type} (l r : List (Nat × β)) (i : Nat) : lk (l ++ r) i = (lk l i).or (lk r i) := by
  induction l with
  | nil => simp [lk]
  | cons p l ih =>
    obtain ⟨j, c⟩ := p
    simp only [List.cons_append, lk]
    split
    · simp
    · exact ih

def mix (R R2 : Ren) (b c : Nat) : Ren :=
  ⟨fun i => if b ≤ i ∧ i < c then R2.ρ i else R.ρ i, fun i => if b ≤ i ∧ i < c then R2.δ i else R.δ i, fun i => if b ≤ i ∧ i < c then R2.κ i else R.κ i, R2.z⟩

def outside (b c i : Nat) : Prop := i < b ∨ c ≤ i

variable {P : Program} {T : Nat → Option TI} {md : Bool} {E : Env} {R R2 : Ren} {s : AS} {a : Act} {w w' : World} {n : Nat} {r : Option Nat}

theorem mix_out (b c : Nat) (hz : Zle R.z R2.z) : AgreeOn (outside b c) R (mix R R2 b c) := ⟨fun i hi => by
  have : ¬ (b ≤ i ∧ i < c) := by unfold outside at hi; omega
  simp [mix, this], hz⟩
theorem mix_in (b c : Nat) (hc : c ≤ GB) (h1 : ∀ i, i < b → R2.ρ i = R.ρ i ∧ R2.δ i = R.δ i ∧ R2.κ i = R.κ i) (ok : R.ok) (ok2 : R2.ok) : AgreeOn (idOk c) R2 (mix R R2 b c) := by
 refine ⟨fun i hi => ?_, Zle.refl _⟩
 · skip
   by_cases h : b ≤ i ∧ i < c
   · simp [mix, h]
   · simp only [mix, if_neg h]
     rcases hi with hi | hi
     · obtain ⟨x, y, z⟩ := h1 i (by omega); exact ⟨x.symm, y.symm, z.symm⟩
     · obtain ⟨j, rfl⟩ := Nat.exists_eq_add_of_le hi
       simp [ok.g, ok.d, ok.c, ok2.g, ok2.d, ok2.c]

def locM (R : Ren) (hp0 : List (Nat × ABlk)) (a : Act) (j : Nat) : Prop :=
  (∃ i c, lk hp0 i = some c ∧ c.wr = true ∧ R.ρ i = j) ∨ ∃ x ∈ a.defers, x.target = .collected j

structure Part (s : AS) (tm0 : List (Nat × AV)) (hp0 : List (Nat × ABlk)) (b : Nat) : Prop where
  tm : ∀ t v, lk tm0 t = some v → lk s.tm t = some v ∧ v.lt b
  hp : ∀ i c, lk hp0 i = some c → lk s.hp i = some c ∧ idOk b i ∧ c.lt b

theorem Fit.part {tm0 : List (Nat × AV)} {hp0 : List (Nat × ABlk)} {b : Nat} (F : Fit E R s a w) (H : Part s tm0 hp0 b) (hb : b ≤ GB) : Fit ⟨w, R, b, locM R hp0 a⟩ R ⟨tm0, hp0, b, s.nt, b⟩ a w where
  ok := F.ok
  nt := F.nt
  tm := fun t v hv => F.tm t v (H.tm t v hv).1
  hp := ⟨fun i c hc => F.hp.blk i c (H.hp i c hc).1, fun i j c d hi hj => F.hp.inj i j c d (H.hp i c hi).1 (H.hp j d hj).1, F.hp.zw, fun i c hc => F.hp.zn i c (H.hp i c hc).1⟩
  old := fun _ _ => ⟨rfl, rfl, rfl⟩
  wr := fun i c hc hw => .inl (.inl ⟨i, c, hc, hw, rfl⟩)
  nx := fun i c hc => (H.hp i c hc).2.1
  nk := ⟨Nat.le_refl _, hb⟩
  kk := rfl
  fr := Fr.refl _ _
  zg := ⟨Zle.refl _, fun _ hb => .inl hb⟩
  df := by
    obtain ⟨ds, h1, h2, h3⟩ := F.df
    exact ⟨ds, h1, h2, fun d hd => ⟨.inl (.inr ⟨⟨.collected d, #[]⟩, by rw [h1]; exact List.mem_map.2 ⟨d, hd, rfl⟩, rfl⟩), (h3 d hd).2⟩⟩
  wf := ⟨fun t v hv => (H.tm t v hv).2, fun i c hc => (H.hp i c hc).2⟩

def NbOk (hp0 : List (Nat × ABlk)) (b b' i : Nat) : Prop := (b ≤ i ∧ i < b') ∨ ∃ c0, lk hp0 i = some c0 ∧ c0.wr = true

theorem Fit.framed {tm0 : List (Nat × AV)} {hp0 nb : List (Nat × ABlk)} {b b' : Nat} {v : AV} {u : Value} (F : Fit E R s a w) (H : Part s tm0 hp0 b)
    (hb : E.k ≤ b ∧ b' ≤ s.nx) (F2 : Fit ⟨w, R, b, locM R hp0 a⟩ R2 ⟨tm0, nb ++ hp0, b', s.nt, b⟩ a w') (hc : conV R2 v u) (hl : v.lt b')
    (hnb : ∀ i c, lk nb i = some c → NbOk hp0 b b' i ∧ c.wr = true)
    (otm : ∀ t v, lk s.tm t = some v → v.all (outside b b')) (ohp : ∀ i c, lk s.hp i = some c → outside b b' i ∧ c.all (outside b b')) :
    Fit E (mix R R2 b b') { s with hp := nb ++ s.hp } a w' ∧ conV (mix R R2 b b') v u ∧ v.lt s.nx ∧ ∀ i c, lk nb i = some c → c.lt b' := by
  have hG := F.nk.2
  have hbb : b ≤ b' := F2.nk.1
  have ain : AgreeOn (idOk b') R2 (mix R R2 b b') := mix_in b b' (Nat.le_trans hb.2 hG) F2.old F.ok F2.ok
  have aout : AgreeOn (outside b b') R (mix R R2 b b') := mix_out b b' F2.zg.1
  have hGB : b' ≤ GB := Nat.le_trans hb.2 hG
  have nbl : ∀ i c, lk nb i = some c → lk (nb ++ hp0) i = some c := fun i c h => by rw [lk_append, h]; rfl
  have nbid : ∀ i c, lk nb i = some c → idOk b' i := fun i c h => by
    rcases (hnb i c h).1 with h1 | ⟨c0, h1, _⟩
    · exact .inl h1.2
    · exact (H.hp i c0 h1).2.1.mono hbb
  have nbo : ∀ i c, lk nb i = some c → lk s.hp i = none → b ≤ i ∧ i < b' := fun i c h h2 => by
    rcases (hnb i c h).1 with h1 | ⟨c0, h1, _⟩
    · exact h1
    · have := (H.hp i c0 h1).1; rw [h2] at this; cases this
  -- a block that was turned, or is new
  have two : ∀ i c, lk nb i = some c → (b ≤ i ∧ i < b' ∧ lk s.hp i = none) ∨ ∃ c0, lk hp0 i = some c0 ∧ c0.wr = true ∧ lk s.hp i = some c0 := fun i c h => by
    rcases (hnb i c h).1 with h1 | ⟨c0, h1, h2⟩
    · refine .inl ⟨h1.1, h1.2, ?_⟩
      cases hq : lk s.hp i with
      | none => rfl
      | some d => have h2 := (ohp i d hq).1; unfold outside at h2; omega
    · exact .inr ⟨c0, h1, h2, (H.hp i c0 h1).1⟩
  have h0l : ∀ i c, lk hp0 i = some c → lk nb i = none → lk (nb ++ hp0) i = some c := fun i c h hn => by rw [lk_append, hn, h]; rfl
  have h0w : ∀ i c, lk hp0 i = some c → c.wr = true → ∃ d, lk (nb ++ hp0) i = some d ∧ d.wr = true := fun i c h hw => by
    cases hn : lk nb i with
    | none => exact ⟨c, h0l i c h hn, hw⟩
    | some d => exact ⟨d, nbl i d hn, (hnb i d hn).2⟩
  have split : ∀ i c, lk (nb ++ s.hp) i = some c → lk nb i = some c ∨ (lk nb i = none ∧ lk s.hp i = some c) := fun i c h => by
    rw [lk_append] at h
    cases hq : lk nb i with
    | none => rw [hq] at h; exact .inr ⟨rfl, h⟩
    | some d => rw [hq] at h; exact .inl h
  have oldρ : ∀ i c, lk s.hp i = some c → (mix R R2 b b').ρ i = R.ρ i := fun i c h => (aout i (ohp i c h).1).1
  have newρ : ∀ i c, lk nb i = some c → (mix R R2 b b').ρ i = R2.ρ i := fun i c h => (ain i (nbid i c h)).1
  have r2old : ∀ i c, lk hp0 i = some c → R2.ρ i = R.ρ i := fun i c h => by
    rcases (H.hp i c h).2.1 with h1 | h1
    · exact (F2.old i h1).1
    · obtain ⟨j, rfl⟩ := Nat.exists_eq_add_of_le h1
      rw [F2.ok.g, F.ok.g]
  -- new blocks are new
  have fresh : ∀ i c, lk nb i = some c → lk s.hp i = none → w.heap.size ≤ R2.ρ i := fun i c h hno => by
    rcases F2.wr i c (nbl i c h) (hnb i c h).2 with h1 | h1
    · rcases h1 with ⟨i0, c0, e1, e2, e3⟩ | h1
      · exfalso
        obtain ⟨d0, g1, g2⟩ := h0w i0 c0 e1 e2
        refine F2.hp.inj i0 i d0 c g1 (nbl i c h) ?_ g2 (by rw [r2old i0 c0 e1]; exact e3)
        intro e; subst e
        have := (H.hp i0 c0 e1).1
        rw [hno] at this; cases this
      · exfalso
        obtain ⟨x, hx, e⟩ := h1
        obtain ⟨ds2, k1, k2, k3⟩ := F2.df
        rw [k1] at hx
        obtain ⟨d, hd, rfl⟩ := List.mem_map.1 hx
        injection e with e
        exact (F2.hp.blk i c (nbl i c h)).not_deferred _ (e ▸ (k3 d hd).2)
    · exact h1
  -- old blocks that were not handed over stay
  have stays : ∀ i c, lk s.hp i = some c → lk hp0 i = none → w'.heap[R.ρ i]? = w.heap[R.ρ i]? := fun i c h h0 => by
    refine F2.fr.block _ (F.hp.blk i c h).lt ?_
    rintro (⟨i0, c0, e1, e2, e3⟩ | ⟨x, hx, e⟩)
    · refine F.hp.inj i0 i c0 c (H.hp i0 c0 e1).1 h ?_ e2 e3
      intro e; subst e; rw [h0] at e1; cases e1
    · obtain ⟨ds, k1, k2, k3⟩ := F.df
      rw [k1] at hx
      obtain ⟨d, hd, rfl⟩ := List.mem_map.1 hx
      injection e with e
      exact (F.hp.blk i c h).not_deferred _ (e ▸ (k3 d hd).2)
  have blkO : ∀ i c, lk nb i = none → lk s.hp i = some c → BRel (mix R R2 b b') i w' c := fun i c hn h => by
    cases h0 : lk hp0 i with
    | none => exact ((F.hp.blk i c h).of_block (stays i c h h0)).agreeOn aout (ohp i c h).1 (ohp i c h).2
    | some c' =>
      have e : c' = c := by have := (H.hp i c' h0).1; rw [h] at this; injection this with this; exact this.symm
      subst e
      exact (F2.hp.blk i c' (h0l i c' h0 hn)).agreeOn ain ((H.hp i c' h0).2.1.mono hbb) (ABlk.lt_all.1 ((H.hp i c' h0).2.2.mono hbb))
  have blkN : ∀ i c, lk nb i = some c → BRel (mix R R2 b b') i w' c := fun i c h =>
    (F2.hp.blk i c (nbl i c h)).agreeOn ain (nbid i c h) (ABlk.lt_all.1 (F2.wf.hp i c (nbl i c h)).2)
  refine ⟨{
    ok := ⟨fun i => ?_, fun i => ?_, fun i => ?_⟩
    nt := F.nt
    tm := fun t v' h => by
      obtain ⟨u', hu, hc'⟩ := F.tm t v' h
      exact ⟨u', hu, hc'.agreeOn aout (otm t v' h)⟩
    hp := ⟨fun i c h => ?_, fun i j c d hi hj hne hw => ?_, F2.hp.zw, fun i c h hw => ?_⟩
    old := fun i hi => ?_
    wr := fun i c h hw => ?_
    nx := fun i c h => ?_
    nk := F.nk
    kk := F.kk
    fr := F.fr.trans F2.fr ?_
    zg := ⟨F.zg.1.trans F2.zg.1, fun q hq => by
      rcases F2.zg.2 q hq with h | (⟨i', c', e1, e2, e3⟩ | ⟨x, hx, e⟩) | h
      · exact F.zg.2 q h
      · subst e3; exact .inr (F.wr i' c' (H.hp i' c' e1).1 e2)
      · obtain ⟨ds, d1, d2, d3⟩ := F.df
        rw [d1] at hx
        obtain ⟨d, hd, rfl⟩ := List.mem_map.1 hx
        injection e with e
        subst e
        exact .inr (d3 d hd).1
      · exact .inr (.inr (Nat.le_trans F.fr.size h))⟩
    df := ?_
    wf := ⟨F.wf.tm, fun i c h => ?_⟩ }, ?_, ?_, ?_⟩
  · rw [(aout (GB + i) (.inr (by omega))).1, F.ok.g]
  · rw [(aout (GB + i) (.inr (by omega))).2.1, F.ok.d]
  · rw [(aout (GB + i) (.inr (by omega))).2.2, F.ok.c]
  · rcases split i c h with h | ⟨hn, h⟩
    · exact blkN i c h
    · exact blkO i c hn h
  · rcases split i c hi with hi | ⟨_, hi⟩ <;> rcases split j d hj with hj | ⟨_, hj⟩
    · rw [newρ i c hi, newρ j d hj]; exact F2.hp.inj i j c d (nbl i c hi) (nbl j d hj) hne hw
    · rcases two i c hi with ⟨_, _, h3⟩ | ⟨c0, h1, h2, h3⟩
      · rw [newρ i c hi, oldρ j d hj]; have := fresh i c hi h3; have := (F.hp.blk j d hj).lt; omega
      · rw [oldρ i c0 h3, oldρ j d hj]; exact F.hp.inj i j c0 d h3 hj hne h2
    · rcases two j d hj with ⟨_, _, h3⟩ | ⟨c0, h1, h2, h3⟩
      · rw [oldρ i c hi, newρ j d hj]; have := fresh j d hj h3; have := (F.hp.blk i c hi).lt; omega
      · rw [oldρ i c hi, oldρ j c0 h3]; exact F.hp.inj i j c c0 hi h3 hne hw
    · rw [oldρ i c hi, oldρ j d hj]; exact F.hp.inj i j c d hi hj hne hw
  · rcases split i c h with h | ⟨hn, h⟩
    · rw [newρ i c h]; exact F2.hp.zn i c (nbl i c h) hw
    · rw [oldρ i c h]
      show R2.z (R.ρ i) = none
      cases e : R2.z (R.ρ i) with
      | none => rfl
      | some x =>
        rcases F2.zg.2 (R.ρ i) (by rw [e]; simp) with h2 | (⟨i', c', e1, e2, e3⟩ | ⟨x, hx, e⟩) | h2
        · exact absurd (F.hp.zn i c h hw) h2
        · have hi' : i' = i := Decidable.byContradiction fun hne => F.hp.inj i' i c' c (H.hp i' c' e1).1 h hne e2 e3
          subst hi'
          have := F2.hp.zn i' c' (by rw [lk_append, hn]; exact e1) e2
          have hρ : R2.ρ i' = R.ρ i' := by
            rcases (H.hp i' c' e1).2.1 with hlt | hge
            · exact (F2.old i' hlt).1
            · obtain ⟨j, rfl⟩ := Nat.exists_eq_add_of_le hge
              rw [F2.ok.g, F.ok.g]
          rw [hρ, e] at this
          cases this
        · obtain ⟨ds, d1, d2, d3⟩ := F.df
          rw [d1] at hx
          obtain ⟨d, hd, rfl⟩ := List.mem_map.1 hx
          injection e with e5
          exact absurd (e5 ▸ (d3 d hd).2) ((F.hp.blk i c h).not_deferred _)
        · have := (F.hp.blk i c h).lt
          have h2 : w.heap.size ≤ R.ρ i := h2
          omega
  · obtain ⟨x, y, z⟩ := aout i (.inl (Nat.lt_of_lt_of_le hi hb.1))
    obtain ⟨x', y', z'⟩ := F.old i hi
    exact ⟨x.trans x', y.trans y', z.trans z'⟩
  · rcases split i c h with h | ⟨_, h⟩
    · rcases two i c h with ⟨_, _, h3⟩ | ⟨c0, h1, h2, h3⟩
      · rw [newρ i c h]; exact .inr (Nat.le_trans F.fr.size (fresh i c h h3))
      · rw [oldρ i c0 h3]; exact F.wr i c0 h3 h2
    · rw [oldρ i c h]; exact F.wr i c h hw
  · rcases split i c h with h | ⟨_, h⟩
    · rcases two i c h with ⟨h1, h2, h3⟩ | ⟨c0, h1, h2, h3⟩
      · left; show i < s.nx; omega
      · exact F.nx i c0 h3
    · exact F.nx i c h
  · rintro j (⟨i0, c0, e1, e2, e3⟩ | ⟨x, hx, e⟩)
    · exact e3 ▸ F.wr i0 c0 (H.hp i0 c0 e1).1 e2
    · obtain ⟨ds, k1, k2, k3⟩ := F.df
      rw [k1] at hx
      obtain ⟨d, hd, rfl⟩ := List.mem_map.1 hx
      injection e with e
      exact e ▸ (k3 d hd).1
  · obtain ⟨ds, k1, k2, k3⟩ := F.df
    obtain ⟨ds2, l1, l2, l3⟩ := F2.df
    refine ⟨ds, k1, k2, fun d hd => ⟨(k3 d hd).1, ?_⟩⟩
    have hx : (⟨.collected d, #[]⟩ : Deferred) ∈ a.defers := by rw [k1]; exact List.mem_map.2 ⟨d, hd, rfl⟩
    rw [l1] at hx
    obtain ⟨d2, hd2, e⟩ := List.mem_map.1 hx
    injection e with e _
    injection e with e
    exact e ▸ (l3 d2 hd2).2
  · rcases split i c h with h | ⟨_, h⟩
    · have h1 := F2.wf.hp i c (nbl i c h)
      exact ⟨(nbid i c h).mono hb.2, h1.2.mono hb.2⟩
    · exact F.wf.hp i c h
  · exact hc.agreeOn ain (AV.lt_all.1 hl)
  · exact hl.mono hb.2
  · exact fun i c h => (F2.wf.hp i c (nbl i c h)).2

end Go.AH

/-
  What an operation yields is one thing.
-/
namespace Go.AH
open Go.RowKit

def DetC {α : Type} (f : (α → Prop) → Prop) : Prop := ∀ k, f k → ∃ x, k x ∧ ∀ k' : α → Prop, k' x → f k'
def PureC (s : AS) (f : (AV → AS → Prop) → Prop) : Prop := ∀ k, f k → ∃ v, k v s ∧ ∀ k' : AV → AS → Prop, k' v s → f k'
def NewC (s : AS) (f : (AV → AS → Prop) → Prop) : Prop := ∀ k, f k → ∃ v c, k v ⟨s.tm, (s.nx, c) :: s.hp, s.nx + 1, s.nt, s.k0⟩ ∧ c.wr = true ∧ ∀ k' : AV → AS → Prop, k' v ⟨s.tm, (s.nx, c) :: s.hp, s.nx + 1, s.nt, s.k0⟩ → f k'

variable {T : Nat → Option TI} {md : Bool} {s : AS}

theorem DetC.pure {α : Type} (x : α) : DetC (fun k => k x) := fun k h => ⟨x, h, fun _ h => h⟩
theorem DetC.none {α : Type} : DetC (fun _ : α → Prop => False) := fun k h => h.elim
theorem DetC.and {α : Type} {c : Prop} {f : (α → Prop) → Prop} (hf : DetC f) : DetC (fun k => c ∧ f k) := fun k ⟨hc, h⟩ => by
  obtain ⟨x, h1, h2⟩ := hf k h; exact ⟨x, h1, fun k' h' => ⟨hc, h2 k' h'⟩⟩
theorem DetC.lit {α : Type} {b : Bool} {f : (α → Prop) → Prop} (hf : DetC f) : DetC (fun k => lit b (f k)) := by
  cases b
  · exact DetC.none
  · exact hf
theorem DetC.bind {α β : Type} {f : (α → Prop) → Prop} {g : α → (β → Prop) → Prop} (hf : DetC f) (hg : ∀ x, DetC (g x)) : DetC (fun k => f (fun x => g x k)) := fun k h => by
  obtain ⟨x, h1, h2⟩ := hf _ h
  obtain ⟨y, h3, h4⟩ := hg x _ h1
  exact ⟨y, h3, fun k' h' => h2 _ (h4 _ h')⟩
theorem DetC.ite {α : Type} {c : Prop} [Decidable c] {f g : (α → Prop) → Prop} (hf : DetC f) (hg : DetC g) : DetC (fun k => if c then f k else g k) := by
  split
  · exact hf
  · exact hg
theorem PureC.pure (v : AV) : PureC s (fun k => k v s) := fun k h => ⟨v, h, fun _ h => h⟩
theorem PureC.none : PureC s (fun _ => False) := fun k h => h.elim
theorem PureC.and {c : Prop} {f : (AV → AS → Prop) → Prop} (hf : PureC s f) : PureC s (fun k => c ∧ f k) := fun k ⟨hc, h⟩ => by
  obtain ⟨x, h1, h2⟩ := hf k h; exact ⟨x, h1, fun k' h' => ⟨hc, h2 k' h'⟩⟩
theorem PureC.bind {α : Type} {f : (α → Prop) → Prop} {g : α → (AV → AS → Prop) → Prop} (hf : DetC f) (hg : ∀ x, PureC s (g x)) : PureC s (fun k => f (fun x => g x k)) := fun k h => by
  obtain ⟨x, h1, h2⟩ := hf _ h
  obtain ⟨y, h3, h4⟩ := hg x _ h1
  exact ⟨y, h3, fun k' h' => h2 _ (h4 _ h')⟩
theorem PureC.ite {c : Prop} [Decidable c] {f g : (AV → AS → Prop) → Prop} (hf : PureC s f) (hg : PureC s g) : PureC s (fun k => if c then f k else g k) := by
  split
  · exact hf
  · exact hg
theorem PureC.imp2 {A : Prop} {f g : (AV → AS → Prop) → Prop} (hf : PureC s f) (hg : PureC s g) : PureC s (fun k => (A → f k) ∧ (¬ A → g k)) := fun k h => by
  by_cases c : A
  · obtain ⟨x, h1, h2⟩ := hf k (h.1 c)
    exact ⟨x, h1, fun k' h' => ⟨fun _ => h2 k' h', fun n => absurd c n⟩⟩
  · obtain ⟨x, h1, h2⟩ := hg k (h.2 c)
    exact ⟨x, h1, fun k' h' => ⟨fun n => absurd n c, fun _ => h2 k' h'⟩⟩
theorem PureC.lit {b : Bool} {f : (AV → AS → Prop) → Prop} (hf : PureC s f) : PureC s (fun k => lit b (f k)) := by
  cases b
  · exact PureC.none
  · exact hf
theorem NewC.bind {α : Type} {f : (α → Prop) → Prop} {g : α → (AV → AS → Prop) → Prop} (hf : DetC f) (hg : ∀ x, NewC s (g x)) : NewC s (fun k => f (fun x => g x k)) := fun k h => by
  obtain ⟨x, h1, h2⟩ := hf _ h
  obtain ⟨y, c, h3, hw, h4⟩ := hg x _ h1
  exact ⟨y, c, h3, hw, fun k' h' => h2 _ (h4 _ h')⟩
theorem NewC.none : NewC s (fun _ => False) := fun k h => h.elim
theorem NewC.and {c : Prop} {f : (AV → AS → Prop) → Prop} (hf : NewC s f) : NewC s (fun k => c ∧ f k) := fun k ⟨hc, h⟩ => by
  obtain ⟨x, b, h1, hw, h2⟩ := hf k h; exact ⟨x, b, h1, hw, fun k' h' => ⟨hc, h2 k' h'⟩⟩
theorem NewC.lit {b : Bool} {f : (AV → AS → Prop) → Prop} (hf : NewC s f) : NewC s (fun k => lit b (f k)) := by
  cases b
  · exact NewC.none
  · exact hf
theorem NewC.pure (v : AV) (c : ABlk) (hw : c.wr = true) : NewC s (fun k => k v ⟨s.tm, (s.nx, c) :: s.hp, s.nx + 1, s.nt, s.k0⟩) := fun k h => ⟨v, c, h, hw, fun _ h => h⟩

theorem onV_det (s : AS) (x : Operand) : DetC (onV s x) := by
  unfold onV
  cases ev s x with
  | none => exact DetC.none
  | some v => exact DetC.pure v
theorem onC_det (s : AS) (x : Operand) : DetC (onC s x) := by
  unfold onC
  rcases ev s x with _ | ⟨v | _ | _⟩
  · exact DetC.none
  · exact DetC.pure v
  · exact DetC.none
  · exact DetC.none
theorem onCells_det (s : AS) (id : Nat) : DetC (fun k : ABlk × List AC → Prop => onCells s id fun b cs => k (b, cs)) := by
  unfold onCells
  rcases lk s.hp id with _ | ⟨c | c | ⟨e, z, c⟩ | m | m | ⟨b, q⟩ | I⟩
  · exact DetC.none
  · exact DetC.pure _
  · exact DetC.pure _
  · exact DetC.pure _
  · exact DetC.none
  · exact DetC.none
  · exact DetC.none
  · exact DetC.none
theorem PureC.bindCells {id : Nat} {g : ABlk → List AC → (AV → AS → Prop) → Prop} (hg : ∀ b cs, PureC s (g b cs)) : PureC s (fun k => onCells s id fun b cs => g b cs k) := fun k h => by
  obtain ⟨x, h1, h2⟩ := onCells_det s id (fun bc => g bc.1 bc.2 k) h
  obtain ⟨y, h3, h4⟩ := hg x.1 x.2 _ h1
  exact ⟨y, h3, fun k' h' => h2 (fun bc => g bc.1 bc.2 k') (h4 _ h')⟩
theorem onO_det (s : AS) (x : Option Operand) : DetC (stepA.onO s x) := by
  unfold stepA.onO
  cases x with
  | none => exact DetC.pure _
  | some x =>
    refine DetC.bind (onC_det s x) fun p => ?_
    cases p <;> first | exact DetC.pure _ | exact DetC.none
theorem fnOps_det (s : AS) : ∀ l : List Operand, DetC (stepA.fnOps s l)
  | [] => DetC.pure _
  | x :: r => by
    show DetC (fun k => onC s x fun p => match p with
      | .ptr id 0 => stepA.fnOps s r fun l => k (id :: l)
      | _ => False)
    refine DetC.bind (onC_det s x) fun p => ?_
    cases p with
    | ptr id o => cases o with
      | zero => exact DetC.bind (fnOps_det s r) fun l => DetC.pure _
      | succ o => exact DetC.none
    | _ => exact DetC.none
theorem iop_det (md : Bool) (op : BinOp) (kd : IntKind) (a b : Int) : DetC (iop md op kd a b) := by
  cases md <;> cases op <;> first | exact DetC.none | exact DetC.pure _ | exact DetC.and (DetC.pure _) | (cases kd <;> first | exact DetC.none | exact DetC.pure _ | exact DetC.and (DetC.pure _))
theorem icmp_det (op : BinOp) (a b : Int) : DetC (icmp op a b) := by
  cases op <;> first | exact DetC.none | exact DetC.pure _
theorem lay_det (s : AS) (place : Nat → Option (Nat × Nat)) : ∀ (l : List (Nat × Operand)) (cs : List AC), DetC (fun k => lay s place k l cs)
  | [], cs => by unfold lay; exact DetC.pure _
  | (i, x) :: r, cs => by
    unfold lay
    cases place i with
    | none => exact DetC.none
    | some p =>
      obtain ⟨o, z⟩ := p
      refine DetC.bind (f := onV s x) (g := fun v k => match v with
        | .c c => (z = 1 ∧ o + 1 ≤ cs.length) ∧ lay s place k r (cs.set o c)
        | .g gs => (gs.length = z ∧ o + z ≤ cs.length) ∧ lay s place k r (wrn cs o gs)
        | .t _ => False) (onV_det s x) fun v => ?_
      cases v with
      | c c => exact DetC.and (lay_det s place r _)
      | g gs => exact DetC.and (lay_det s place r _)
      | t _ => exact DetC.none
theorem eqNil_det (op : BinOp) (r : Bool) : DetC (eqNil op r) := by
  cases op <;> first | exact DetC.none | exact DetC.pure _
theorem nilIs_det (op : BinOp) (x : AC) : DetC (nilIs op x) := by
  cases x <;> first | exact DetC.none | exact eqNil_det _ _ | exact DetC.and (eqNil_det _ _)
theorem nilT_det (T : Nat → Option TI) (t : Nat) (op : BinOp) (x : AC) : DetC (fun k => match T t with
    | some { d := .slice _, .. } => nilIs op x k
    | _ => False) := by
  rcases T t with _ | ⟨d, _, _, _, _⟩
  · exact DetC.none
  · cases d <;> first | exact nilIs_det op x | exact DetC.none
theorem bin_det (T : Nat → Option TI) (md : Bool) (op : BinOp) (t : Nat) (x y : AV) : DetC (bin T md op t x y) := by
  have c1 : ∀ (f : (AV → Prop) → Prop) (n : AV → AV), True := fun _ _ => trivial
  unfold bin
  rcases x with x | x | x <;> rcases y with y | y | y <;> (try exact DetC.none) <;> (try (cases x <;> exact DetC.none))
  · cases x <;> cases y <;> first | exact DetC.none | exact nilT_det T t op _ | skip
    · rename_i ka a kb b
      refine DetC.ite (DetC.lit ?_) (DetC.lit ?_)
      · exact DetC.bind (iop_det md op ka a b) fun n => DetC.pure _
      · exact DetC.bind (icmp_det op a b) fun n => DetC.pure _
    · refine DetC.lit ?_
      cases op <;> first | exact DetC.none | exact DetC.pure _
    · cases op <;> first | exact DetC.none | exact DetC.pure _ | exact DetC.and (DetC.pure _)
  · refine DetC.and ?_
    cases eqL x y with
    | none => exact DetC.none
    | some r => cases op <;> first | exact DetC.none | exact DetC.pure _
theorem bytesA_det : ∀ cs : List AC, DetC (bytesA cs)
  | [] => DetC.pure _
  | x :: r => by
    cases x <;> try exact DetC.none
    rename_i kd n
    cases kd <;> first | exact DetC.none | exact DetC.and (DetC.bind (bytesA_det r) fun l => DetC.pure _)
def pureOp : Op → Bool
  | .move _ | .assign _ | .pick .. | .build .. | .load .. | .nilCheck _ | .binOp .. | .unOp .. | .convert .. | .makeFunc .. | .fieldAddr .. | .indexAddr .. | .index .. | .field .. | .extract .. | .slice .. | .lookup .. => true
  | .call c => match c.callee with
    | .builtin .len | .builtin .min | .builtin .max => true
    | _ => false
  | _ => false
def newOp : Op → Bool
  | .alloc _ | .box .. | .makeMap .. | .buildSlice .. | .makeSlice .. => true
  | _ => false

theorem pure_det (o : Op) (ho : pureOp o = true) : PureC s (stepA T md s o) := by
  cases o <;> simp only [pureOp] at ho <;> try (cases ho; done)
  case move x => exact PureC.bind (onV_det s x) fun v => PureC.pure v
  case assign x => exact PureC.bind (onV_det s x) fun v => PureC.pure v
  case pick c a b =>
    refine PureC.bind (onC_det s c) fun q => ?_
    cases q <;> try exact PureC.none
    rename_i q
    refine PureC.bind (onV_det s a) fun va => PureC.bind (onV_det s b) fun vb => ?_
    have two : PureC s (fun k => (q = true → k va s) ∧ (q = false → k vb s)) := by
      cases q
      · intro k h; exact ⟨vb, h.2 rfl, fun k' h' => ⟨fun e => (by cases e), fun _ => h'⟩⟩
      · intro k h; exact ⟨va, h.1 rfl, fun k' h' => ⟨fun _ => h', fun e => (by cases e)⟩⟩
    rcases va with va | va | va
    · cases va <;> try exact two
      rcases vb with vb | vb | vb
      · cases vb <;> first | exact PureC.pure _ | exact two
      · exact two
      · exact two
    · exact two
    · exact two
  case build t ps =>
    show PureC s (fun k => match T t with
    | some { d := .struct fs, zero := z, .. } => lay s (fun i => match fs[i]? with | some (o, ft) => (szOf T ft).map fun z => (o, z) | none => none) (fun cs => k (.g cs) s) ps.toList z
    | some { d := .arr _ e, zero := z, .. } => match szOf T e with
      | some w => lay s (fun i => some (i * w, w)) (fun cs => k (.g cs) s) ps.toList z
      | none => False
    | _ => False)
    rcases T t with _ | ⟨d, a1, a2, z, a4⟩
    · exact PureC.none
    cases d <;> try exact PureC.none
    · rename_i n e
      simp only
      cases szOf T e with
      | none => exact PureC.none
      | some w => exact PureC.bind (lay_det s _ _ _) fun cs => PureC.pure _
    · exact PureC.bind (lay_det s _ _ _) fun cs => PureC.pure _
  case load t x =>
    refine PureC.bind (onC_det s x) fun p => ?_
    cases p <;> try exact PureC.none
    rotate_left
    · rename_i q o
      show PureC s (fun k => match T t with
        | some i => (match i.agg with
          | false => (match i.zero with
            | [z] => o + 1 ≤ q.cs.length ∧ k (.c (q.cs.getD o z)) s
            | _ => False)
          | true => o + i.size ≤ q.cs.length ∧ k (.g ((q.cs.drop o).take i.size)) s)
        | none => False)
      rcases T t with _ | i
      · exact PureC.none
      simp only
      cases i.agg with
      | false =>
        simp only
        rcases i.zero with _ | ⟨z, _ | ⟨z2, zs⟩⟩
        · exact PureC.none
        · exact PureC.and (PureC.pure _)
        · exact PureC.none
      | true => exact PureC.and (PureC.pure _)
    rename_i id o
    refine PureC.bindCells fun b cs => ?_
    show PureC s (fun k => match T t with
      | some i => (match i.agg with
        | false => match i.zero with
          | [z] => o + 1 ≤ cs.length ∧ k (.c (cs.getD o z)) s
          | _ => False
        | true => if i.size ≤ 6 then (o + i.size ≤ cs.length ∧ i.zero.length = i.size) ∧ k (.g (rdn cs o i.zero)) s
          else (match o with
            | 0 => cs.length = i.size ∧ k (.g cs) s
            | o + 1 => (o + 1) + i.size ≤ cs.length ∧ k (.g ((cs.drop (o + 1)).take i.size)) s))
      | none => False)
    rcases T t with _ | i
    · exact PureC.none
    simp only
    cases i.agg with
    | false =>
      rcases i.zero with _ | ⟨z, _ | ⟨z2, zs⟩⟩
      · exact PureC.none
      · exact PureC.and (PureC.pure _)
      · exact PureC.none
    | true =>
      refine PureC.ite (PureC.and (PureC.pure _)) ?_
      cases o with
      | zero => exact PureC.and (PureC.pure _)
      | succ o => exact PureC.and (PureC.pure _)
  case nilCheck x =>
    refine PureC.bind (onC_det s x) fun p => ?_
    cases p <;> first | exact PureC.none | exact PureC.pure _
  case binOp op t x y sh =>
    exact PureC.bind (onV_det s x) fun a => PureC.bind (onV_det s y) fun b => PureC.bind (bin_det T md op t a b) fun r => PureC.pure _
  case unOp op t x =>
    refine PureC.bind (onC_det s x) fun p => ?_
    cases op <;> cases p <;> first | exact PureC.none | exact PureC.pure _ | exact PureC.bind (iop_det _ _ _ _ _) fun r => PureC.pure _
  case convert src dst x =>
    refine PureC.bind (onC_det s x) fun p => ?_
    show PureC s (fun k => match T src, T dst, p with
    | some _, some { d := .int kd, .. }, .int _ n => k (.c (.int kd (kd.wrap n))) s
    | some { d := .slice e, .. }, some { d := .str, .. }, .sl id o len _ => (match T e with
      | some { d := .int .u8, .. } => onCells s id fun _ cs => o + len ≤ cs.length ∧ bytesA ((cs.drop o).take len) fun l => k (.c (.str ⟨l.toArray⟩)) s
      | _ => False)
    | some { d := .slice e, .. }, some { d := .str, .. }, .row id len => (match T e, lk s.hp id with
      | some { d := .int .u8, .. }, some (.row _ _ cs) => len ≤ cs.length ∧ bytesA (cs.take len) fun l => k (.c (.str ⟨l.toArray⟩)) s
      | _, _ => False)
    | some { d := .slice e, .. }, some { d := .str, .. }, .nils => (match T e with
      | some { d := .int .u8, .. } => k (.c (.str ⟨#[]⟩)) s
      | _ => False)
    | _, _, _ => False)
    rcases T src with _ | ⟨d1, b1, b2, z1, b4⟩
    · exact PureC.none
    rcases T dst with _ | ⟨d, a1, a2, z, a4⟩
    · exact PureC.none
    cases d <;> try exact PureC.none
    · cases p <;> first | exact PureC.none | exact PureC.pure _
    · cases d1 <;> try exact PureC.none
      cases p <;> try exact PureC.none
      · rename_i e id o len cap
        simp only
        rcases T e with _ | ⟨d, a1, a2, z, a4⟩
        · exact PureC.none
        cases d <;> try exact PureC.none
        rename_i kd
        cases kd <;> first | exact PureC.none | exact PureC.bindCells fun b cs => PureC.and (PureC.bind (bytesA_det _) fun l => PureC.pure _)
      · rename_i e id len
        simp only
        rcases T e with _ | ⟨d, a1, a2, z, a4⟩
        · exact PureC.none
        cases d <;> try exact PureC.none
        rename_i kd
        rcases lk s.hp id with _ | b
        · cases kd <;> exact PureC.none
        · cases kd <;> cases b <;> first | exact PureC.none | exact PureC.and (PureC.bind (bytesA_det _) fun l => PureC.pure _)
      · rename_i e
        simp only
        rcases T e with _ | ⟨d, a1, a2, z, a4⟩
        · exact PureC.none
        cases d <;> try exact PureC.none
        rename_i kd
        cases kd <;> first | exact PureC.none | exact PureC.pure _
  case makeFunc f fs cs =>
    cases f <;> try exact PureC.none
    exact PureC.bind (fnOps_det s fs.toList) fun fl => PureC.bind (fnOps_det s cs.toList) fun cl => PureC.pure _
  case fieldAddr t x f =>
    refine PureC.bind (onC_det s x) fun p => ?_
    show PureC s (fun k => match p, T t with
    | .ptr id o, some { d := .struct fs, .. } => (match fs[f]? with
      | some (fo, ft) => lit (match szOf T ft with | some (_ + 1) => true | _ => false) (k (.c (.ptr id (o + fo))) s)
      | none => False)
    | _, _ => False)
    cases p <;> try exact PureC.none
    rcases T t with _ | ⟨d, a1, a2, z, a4⟩
    · exact PureC.none
    cases d <;> try exact PureC.none
    rename_i fs
    simp only
    cases fs[f]? with
    | none => exact PureC.none
    | some q => exact PureC.lit (PureC.pure _)
  case indexAddr t x y =>
    refine PureC.bind (onC_det s x) fun p => PureC.bind (onC_det s y) fun q => ?_
    show PureC s (fun k => match p, q, T t with
    | .ptr id o, .int _ i, some { d := .arr n e, .. } => (match szOf T e with
      | some z => (0 ≤ i ∧ i < n) ∧ k (.c (.ptr id (o + i.toNat * z))) s
      | none => False)
    | .sl id o len _, .int _ i, some { d := .slice e, .. } => (match szOf T e with
      | some z => (0 ≤ i ∧ i < len) ∧ k (.c (.ptr id (o + i.toNat * z))) s
      | none => False)
    | .row id len, .int _ i, some { d := .slice e, .. } => (match lk s.hp id, szOf T e with
      | some (.row ..), some z => (0 ≤ i ∧ i < len) ∧ k (.c (.ptr id (i.toNat * z))) s
      | _, _ => False)
    | .rs id o len, .int _ i, some { d := .slice e, .. } => (match szOf T e with
      | some z => (0 ≤ i ∧ i < len) ∧ k (.c (.ptr id (o + i.toNat * z))) s
      | none => False)
    | .tv q, .int _ i, some { d := .slice e, .. } => (match szOf T e with
      | some z => (q.z = z ∧ 0 ≤ i ∧ i < q.len) ∧ k (.c (.tp q (i.toNat * z))) s
      | none => False)
    | _, _, _ => False)
    cases p <;> try exact PureC.none
    all_goals (cases q <;> try exact PureC.none)
    all_goals (rcases T t with _ | ⟨d, a1, a2, z, a4⟩)
    all_goals (try exact PureC.none)
    all_goals (cases d <;> try exact PureC.none)
    · rename_i e; simp only; cases szOf T e with
      | none => exact PureC.none
      | some z => exact PureC.and (PureC.pure _)
    · rename_i e; simp only; cases szOf T e with
      | none => exact PureC.none
      | some z => exact PureC.and (PureC.pure _)
    · rename_i id n k i e; simp only
      rcases lk s.hp id with _ | ⟨c | c | ⟨e1, z, c⟩ | m | m⟩ <;> try exact PureC.none
      cases szOf T e with
      | none => exact PureC.none
      | some z => exact PureC.and (PureC.pure _)
    · rename_i e; simp only; cases szOf T e with
      | none => exact PureC.none
      | some z => exact PureC.and (PureC.pure _)
    · rename_i e; simp only; cases szOf T e with
      | none => exact PureC.none
      | some z => exact PureC.and (PureC.pure _)
  case index t x y =>
    refine PureC.bind (onV_det s x) fun p => PureC.bind (onC_det s y) fun q => ?_
    show PureC s (fun k => match p, q, T t with
    | .g cs, .int _ i, some { d := .arr n e, .. } => (match T e with
      | some { size := 1, zero := [z], d := ed, .. } => (TI.agg ⟨ed, 1, 0, [], false⟩ = false ∧ 0 ≤ i ∧ i < n ∧ i.toNat < cs.length) ∧ k (.c (cs.getD i.toNat z)) s
      | _ => False)
    | .c (.str b), .int _ i, some { d := .str, .. } => (0 ≤ i ∧ i < b.size) ∧ k (.c (.int .u8 ((b.data.toList.getD i.toNat 0).toNat : Int))) s
    | _, _, _ => False)
    rcases p with p | p | p
    · cases p <;> try exact PureC.none
      cases q <;> try exact PureC.none
      rcases T t with _ | ⟨d, a1, a2, z, a4⟩
      · exact PureC.none
      cases d <;> try exact PureC.none
      exact PureC.and (PureC.pure _)
    · cases q <;> try exact PureC.none
      rcases T t with _ | ⟨d, a1, a2, z, a4⟩
      · exact PureC.none
      cases d <;> try exact PureC.none
      rename_i n e
      simp only
      rcases T e with _ | ⟨d, sz, a2, z, a4⟩
      · exact PureC.none
      rcases sz with _ | _ | sz <;> rcases z with _ | ⟨z, _ | ⟨z2, zs⟩⟩ <;> first | exact PureC.none | exact PureC.and (PureC.pure _)
    · exact PureC.none
  case field t x f =>
    refine PureC.bind (onV_det s x) fun p => ?_
    show PureC s (fun k => match p, T t with
    | .g cs, some { d := .struct fs, .. } => (match fs[f]? with
      | some (o, ft) => (match T ft with
        | some i => (match i.agg with
          | false => match i.zero with
            | [z] => o + 1 ≤ cs.length ∧ k (.c (cs.getD o z)) s
            | _ => False
          | true => o + i.size ≤ cs.length ∧ k (.g ((cs.drop o).take i.size)) s)
        | none => False)
      | none => False)
    | _, _ => False)
    rcases p with p | cs | p
    · exact PureC.none
    · rcases T t with _ | ⟨d, a1, a2, z, a4⟩
      · exact PureC.none
      cases d <;> try exact PureC.none
      rename_i fs
      simp only
      rcases fs[f]? with _ | ⟨o, ft⟩
      · exact PureC.none
      simp only
      cases T ft with
      | none => exact PureC.none
      | some i =>
        simp only
        cases i.agg with
        | false =>
          rcases i.zero with _ | ⟨z, _ | ⟨z2, zs⟩⟩
          · exact PureC.none
          · exact PureC.and (PureC.pure _)
          · exact PureC.none
        | true => exact PureC.and (PureC.pure _)
    · exact PureC.none
  case extract x i =>
    refine PureC.bind (onV_det s x) fun p => ?_
    rcases p with p | cs | es
    · exact PureC.none
    · exact PureC.none
    · simp only
      cases es[i]? with
      | none => exact PureC.none
      | some e => exact PureC.pure _
  case lookup t x y ok =>
    refine PureC.bind (onC_det s x) fun p => PureC.bind (onV_det s y) fun q => ?_
    show PureC s (fun k => match p, q, T t with
    | .map id, .g ks, some { d := .map ke el, .. } => (match lk s.hp id, T ke, T el with
      | some (.mp m), some { cmp := true, zero := z, .. }, some { d := ed, zero := [z0], .. } =>
        (TI.agg ⟨ed, 1, 0, [], false⟩ = false ∧ mOk m ks z) ∧ (match ok with
          | true => k (.t [.c ((mget m ks).getD z0), .c (.bool (mget m ks).isSome)]) s
          | false => k (.c ((mget m ks).getD z0)) s)
      | _, _, _ => False)
    | _, _, _ => False)
    cases p <;> try exact PureC.none
    rcases q with q | q | q <;> try exact PureC.none
    rcases T t with _ | ⟨d, a1, a2, z, a4⟩
    · exact PureC.none
    cases d <;> try exact PureC.none
    rename_i id ke el
    simp only
    rcases lk s.hp id with _ | ⟨c | c | ⟨e1, z, c⟩ | m | m⟩ <;> try exact PureC.none
    rcases T ke with _ | ⟨d, a1, a2, z, _ | _⟩ <;> try exact PureC.none
    rcases T el with _ | ⟨d, a1, a2, z', a4⟩
    · exact PureC.none
    rcases z' with _ | ⟨z0, _ | ⟨z2, zs⟩⟩ <;> try exact PureC.none
    cases ok
    · exact PureC.and (PureC.pure _)
    · exact PureC.and (PureC.pure _)
  case slice t x lo hi mx =>
    cases mx with
    | some mx =>
      cases hi with
      | none => exact PureC.none
      | some hi =>
        refine PureC.bind (onC_det s x) fun p => PureC.bind (onO_det s lo) fun lo => PureC.bind (onC_det s hi) fun h => PureC.bind (onC_det s mx) fun q => ?_
        show PureC s (fun k => match p, h, q, T t with
        | .sl id o len (some c), .int _ h, .int _ m, some { d := .slice e, .. } => (match szOf T e with
          | some z => (0 ≤ lo.getD 0 ∧ lo.getD 0 ≤ h ∧ h ≤ m ∧ m ≤ c ∧ (h = lo.getD 0 ∨ 0 < len)) ∧ k (.c (.sl id (o + (lo.getD 0).toNat * z) (h.toNat - (lo.getD 0).toNat) (some (m.toNat - (lo.getD 0).toNat)))) s
          | none => False)
        | .row id len, .int _ h, .int _ m, some { d := .slice e, .. } => (match lk s.hp id, szOf T e with
          | some (.row ..), some z => (0 ≤ lo.getD 0 ∧ lo.getD 0 ≤ h ∧ h ≤ m ∧ m ≤ len) ∧ k (.c (.sl id ((lo.getD 0).toNat * z) (h.toNat - (lo.getD 0).toNat) (some (m.toNat - (lo.getD 0).toNat)))) s
          | _, _ => False)
        | .rs id o len, .int _ h, .int _ m, some { d := .slice e, .. } => (match szOf T e with
          | some z => (0 ≤ lo.getD 0 ∧ lo.getD 0 ≤ h ∧ h ≤ m ∧ m ≤ len ∧ 0 < len) ∧ k (.c (.sl id (o + (lo.getD 0).toNat * z) (h.toNat - (lo.getD 0).toNat) (some (m.toNat - (lo.getD 0).toNat)))) s
          | none => False)
        | .rp id o len c z, .int _ h, .int _ m, some { d := .slice e, .. } => (match lk s.hp id, szOf T e with
          | some (.row ..), some z' => (z' = z ∧ o = 0 ∧ 0 ≤ lo.getD 0 ∧ lo.getD 0 ≤ h ∧ h ≤ m ∧ m ≤ c) ∧ k (.c (.sl id ((lo.getD 0).toNat * z) (h.toNat - (lo.getD 0).toNat) (some (m.toNat - (lo.getD 0).toNat)))) s
          | _, _ => False)
        | _, _, _, _ => False)
        split
        · split
          · exact PureC.and (PureC.pure _)
          · exact PureC.none
        · split
          · exact PureC.and (PureC.pure _)
          · exact PureC.none
        · split
          · exact PureC.and (PureC.pure _)
          · exact PureC.none
        · split
          · exact PureC.and (PureC.pure _)
          · exact PureC.none
        · exact PureC.none
    | none =>
    refine PureC.bind (onC_det s x) fun p => PureC.bind (onO_det s lo) fun lo => PureC.bind (onO_det s hi) fun hi => ?_
    show PureC s (fun k => match p, T t with
    | .sl id o len cap, some { d := .slice e, .. } => (match szOf T e with
      | some z => stepA.subS o len cap z lo hi fun o' n' c' => k (.c (.sl id o' n' c')) s
      | none => False)
    | .nils, some { d := .slice e, .. } => (match szOf T e with
      | some _ => (lo.getD 0 = 0 ∧ hi.getD 0 = 0) ∧ k (.c .nils) s
      | none => False)
    | .row id len, some { d := .slice e, .. } => (match lk s.hp id, szOf T e with
      | some (.row ..), some z => stepA.subS 0 len none z lo hi fun o' n' c' => k (.c (.sl id o' n' c')) s
      | _, _ => False)
    | .ptr id o, some { d := .arr n e, .. } => (match szOf T e with
      | some z => stepA.subS o n (some n) z lo hi fun o' n' c' => k (.c (.sl id o' n' c')) s
      | none => False)
    | .str b, some { d := .str, .. } => (0 ≤ lo.getD 0 ∧ lo.getD 0 ≤ hi.getD b.size ∧ hi.getD b.size ≤ b.size) ∧ k (.c (.str (b.extract (lo.getD 0).toNat (hi.getD b.size).toNat))) s
    | .rs id o len, some { d := .slice e, .. } => (match szOf T e with
      | some z => stepA.subS o len none z lo hi fun o' n' _ => k (.c (.rs id o' n')) s
      | none => False)
    | .rp id o len c z, some { d := .slice e, .. } => (match szOf T e with
      | some z' => (z' = z ∧ 0 ≤ lo.getD 0 ∧ lo.getD 0 ≤ hi.getD len ∧ hi.getD len ≤ c) ∧
          ((lo.getD 0 = 0 ∨ lo.getD 0 < c) → k (.c (.rp id (o + (lo.getD 0).toNat) ((hi.getD len).toNat - (lo.getD 0).toNat) (c - (lo.getD 0).toNat) z)) s) ∧
          (¬ (lo.getD 0 = 0 ∨ lo.getD 0 < c) → k (.c (.sl id 0 0 (some 0))) s)
      | none => False)
    | _, _ => False)
    cases p <;> (rcases T t with _ | ⟨d, a1, a2, z, a4⟩) <;> (try exact PureC.none) <;> (cases d <;> try exact PureC.none)
    · exact PureC.and (PureC.pure _)
    · rename_i e; simp only; cases szOf T e with
      | none => exact PureC.none
      | some z => exact PureC.and (PureC.pure _)
    · rename_i e; simp only; cases szOf T e with
      | none => exact PureC.none
      | some z => exact PureC.and (PureC.pure _)
    · rename_i id len e; simp only
      rcases lk s.hp id with _ | ⟨c | c | ⟨e1, z, c⟩ | m | m⟩ <;> try exact PureC.none
      cases szOf T e with
      | none => exact PureC.none
      | some z => exact PureC.and (PureC.pure _)
    · rename_i e; simp only; cases szOf T e with
      | none => exact PureC.none
      | some z => exact PureC.and (PureC.pure _)
    · rename_i e; simp only; cases szOf T e with
      | none => exact PureC.none
      | some z => exact PureC.and (PureC.pure _)
    · rename_i e; simp only; cases szOf T e with
      | none => exact PureC.none
      | some z => exact PureC.and (PureC.imp2 (PureC.pure _) (PureC.pure _))
  case call c =>
    obtain ⟨cal, args, tys⟩ := c
    cases cal <;> try (cases ho; done)
    rename_i b
    obtain ⟨args⟩ := args
    obtain ⟨tys⟩ := tys
    cases b <;> try (cases ho; done)
    · rcases args with _ | ⟨x, _ | ⟨y, l⟩⟩ <;> try exact PureC.none
      rcases tys with _ | ⟨t, _ | ⟨t2, l⟩⟩ <;> try exact PureC.none
      refine PureC.bind (f := onV s x) (g := fun p k => match p, T t with
        | .c (.sl _ _ n _), some { d := .slice _, .. } => k (.c (.int .i64 n)) s
        | .c (.row _ n), some { d := .slice _, .. } => k (.c (.int .i64 n)) s
        | .c .nils, some { d := .slice _, .. } => k (.c (.int .i64 0)) s
        | .c (.str b), some { d := .str, .. } => k (.c (.int .i64 b.size)) s
        | .c (.rs _ _ n), some { d := .slice _, .. } => k (.c (.int .i64 n)) s
        | .c (.rp _ _ n _ _), some { d := .slice _, .. } => k (.c (.int .i64 n)) s
        | .c (.tv q), some { d := .slice _, .. } => k (.c (.int .i64 q.len)) s
        | _, _ => False) (onV_det s x) fun p => ?_
      rcases p with p | p | p <;> try exact PureC.none
      cases p <;> (rcases T t with _ | ⟨d, a1, a2, z, a4⟩) <;> (try exact PureC.none) <;> (cases d <;> first | exact PureC.none | exact PureC.pure _)
    · rcases args with _ | ⟨x, _ | ⟨y, _ | ⟨y2, l⟩⟩⟩ <;> try exact PureC.none
      refine PureC.bind (onC_det s x) fun p => PureC.bind (onC_det s y) fun q => ?_
      cases p <;> (try exact PureC.none) <;> (cases q <;> first | exact PureC.none | exact PureC.and (PureC.pure _))
    · rcases args with _ | ⟨x, _ | ⟨y, _ | ⟨y2, l⟩⟩⟩ <;> try exact PureC.none
      refine PureC.bind (onC_det s x) fun p => PureC.bind (onC_det s y) fun q => ?_
      cases p <;> (try exact PureC.none) <;> (cases q <;> first | exact PureC.none | exact PureC.and (PureC.pure _))
theorem new_det (o : Op) (ho : newOp o = true) : NewC s (stepA T md s o) := by
  cases o <;> simp only [newOp] at ho <;> try (cases ho; done)
  case alloc e =>
    show NewC s (fun k => match T e with
    | some { zero := z, .. } => lit (decide (s.nx < GB)) (k (.c (.ptr s.nx 0)) ⟨s.tm, (s.nx, .own z) :: s.hp, s.nx + 1, s.nt, s.k0⟩)
    | none => False)
    rcases T e with _ | i
    · exact NewC.none
    · exact NewC.lit (NewC.pure _ _ rfl)
  case box t x =>
    refine NewC.bind (onV_det s x) fun v => ?_
    show NewC s (fun k => match cellsOfV v with
    | some cs => lit (decide (s.nx < GB)) (k (.c (.ptr s.nx 0)) ⟨s.tm, (s.nx, .own cs) :: s.hp, s.nx + 1, s.nt, s.k0⟩)
    | none => False)
    cases cellsOfV v with
    | none => exact NewC.none
    | some cs => exact NewC.lit (NewC.pure _ _ rfl)
  case makeMap t h =>
    cases h with
    | some _ => exact NewC.none
    | none => exact NewC.lit (NewC.pure _ _ rfl)
  case buildSlice t len ps =>
    show NewC s (fun k => match T t with
    | some { d := .slice e, .. } => match T e with
      | some i => (s.nx < GB ∧ 0 < i.size ∧ i.zero.length = i.size ∧ len * i.size ≤ 16777216) ∧ lay s (fun j => some (j * i.size, i.size)) (fun cs => k (.c (.sl s.nx 0 len (some len))) ⟨s.tm, (s.nx, .own cs) :: s.hp, s.nx + 1, s.nt, s.k0⟩) ps.toList (rep len i.zero)
      | none => False
    | _ => False)
    rcases T t with _ | ⟨d, a1, a2, z, a4⟩
    · exact NewC.none
    cases d <;> try exact NewC.none
    rename_i e
    simp only
    rcases T e with _ | i
    · exact NewC.none
    · exact NewC.and (NewC.bind (lay_det s _ _ _) fun cs => NewC.pure _ _ rfl)
  case makeSlice t x y =>
    refine NewC.bind (onC_det s x) fun p => NewC.bind (onC_det s y) fun q => ?_
    show NewC s (fun k => match p, q, T t with
    | .int _ l, .int _ c, some { d := .slice e, .. } => (match T e with
      | some i => (s.nx < GB ∧ 0 < i.size ∧ i.zero.length = i.size ∧ 0 ≤ l ∧ l = c ∧ (i.bytes : Int) * c ≤ 281474976710656 ∧ c ≤ 9223372036854775807) ∧
          k (.c (.sl s.nx 0 l.toNat (some c.toNat))) ⟨s.tm, (s.nx, .own (rep c.toNat i.zero)) :: s.hp, s.nx + 1, s.nt, s.k0⟩
      | none => False)
    | _, _, _ => False)
    cases p <;> try exact NewC.none
    cases q <;> try exact NewC.none
    rcases T t with _ | ⟨d, a1, a2, z, a4⟩
    · exact NewC.none
    cases d <;> try exact NewC.none
    rename_i e
    simp only
    rcases T e with _ | i
    · exact NewC.none
    · exact NewC.and (NewC.pure _ _ rfl)
end Go.AH

/-
  A region that draws its order: what its operations yield does not rest on the order.
-/
namespace Go.AH
open Go.RowKit

structure PE where
  bf : List Nat
  dl : List Nat
  un : List Nat
  ws : List Nat
  hd : List Nat

structure Rc where
  dst : Option Nat
  v : AV
  nb : List (Nat × ABlk)
  b : Nat
  b' : Nat
  pe : PE

def putT (d : Option Nat) (v : AV) (tm : List (Nat × AV)) : List (Nat × AV) := match d with | some d => (d, v) :: tm | none => tm
def tmR (S : Nat → Bool) (tm : List (Nat × AV)) : List Rc → List (Nat × AV)
  | [] => tm
  | r :: rest => if S rest.length = true then putT r.dst r.v (tmR S tm rest) else tmR S tm rest
def hpR (S : Nat → Bool) (hp : List (Nat × ABlk)) : List Rc → List (Nat × ABlk)
  | [] => hp
  | r :: rest => if S rest.length = true then r.nb ++ hpR S hp rest else hpR S hp rest
def nxR (n0 : Nat) : List Rc → Nat
  | [] => n0
  | r :: _ => r.b'
def At : List Rc → Nat → Rc → Prop
  | [], _, _ => False
  | r :: rest, i, q => (i = rest.length ∧ q = r) ∨ At rest i q

theorem At.lt : ∀ {l : List Rc} {i : Nat} {q : Rc}, At l i q → i < l.length
  | r :: rest, i, q, h => by
    rcases h with ⟨h, _⟩ | h
    · simp [h]
    · have := At.lt h; simp; omega
theorem At.split : ∀ {l : List Rc} {i : Nat} {q : Rc}, At l i q → ∃ pre rest, l = pre ++ q :: rest ∧ rest.length = i
  | r :: rest, i, q, h => by
    rcases h with ⟨h, e⟩ | h
    · exact ⟨[], rest, by simp [e], h.symm⟩
    · obtain ⟨pre, r2, e1, e2⟩ := At.split h
      exact ⟨r :: pre, r2, by simp [e1], e2⟩
theorem At.uniq : ∀ {l : List Rc} {i : Nat} {q p : Rc}, At l i q → At l i p → q = p
  | r :: rest, i, q, p, h, g => by
    rcases h with ⟨h, e⟩ | h <;> rcases g with ⟨g, f⟩ | g
    · rw [e, f]
    · have := At.lt g; omega
    · have := At.lt h; omega
    · exact At.uniq h g
theorem At.of_lt : ∀ {l : List Rc} {i : Nat}, i < l.length → ∃ q, At l i q
  | [], i, h => absurd h (by simp)
  | r :: rest, i, h => by
    by_cases e : i = rest.length
    · exact ⟨r, .inl ⟨e, rfl⟩⟩
    · obtain ⟨q, hq⟩ := At.of_lt (l := rest) (i := i) (by simp at h; omega)
      exact ⟨q, .inr hq⟩
theorem At.app {pre l : List Rc} {i : Nat} {q : Rc} (h : At l i q) : At (pre ++ l) i q := by
  induction pre with
  | nil => exact h
  | cons r pre ih => exact .inr ih
theorem At.low {pre l : List Rc} {i : Nat} {q : Rc} (h : At (pre ++ l) i q) (hi : i < l.length) : At l i q := by
  induction pre with
  | nil => exact h
  | cons r pre ih =>
    rcases h with ⟨h, e⟩ | h
    · simp at h; omega
    · exact ih h

section
variable {S S' : Nat → Bool} {tm : List (Nat × AV)} {hp : List (Nat × ABlk)} {t j : Nat}

theorem lk_putT (d : Option Nat) (v : AV) (tm : List (Nat × AV)) (t : Nat) : lk (putT d v tm) t = if d = some t then some v else lk tm t := by
  cases d with
  | none => simp [putT]
  | some d => simp [putT, lk]

theorem tmR_S : ∀ {l : List Rc}, (∀ i q, At l i q → q.dst = some t → S i = S' i) → lk (tmR S tm l) t = lk (tmR S' tm l) t
  | [], h => rfl
  | r :: rest, h => by
    have ih : lk (tmR S tm rest) t = lk (tmR S' tm rest) t := tmR_S fun i q hq => h i q (.inr hq)
    simp only [tmR]
    by_cases hd : r.dst = some t
    · rw [h rest.length r (.inl ⟨rfl, rfl⟩) hd]
      split
      · rw [lk_putT, lk_putT, if_pos hd, if_pos hd]
      · exact ih
    · have : ∀ (b : Prop) [Decidable b] (x : List (Nat × AV)), lk (if b then putT r.dst r.v x else x) t = lk x t := fun b _ x => by
        split
        · rw [lk_putT, if_neg hd]
        · rfl
      rw [this, this]; exact ih
theorem tmR_pre : ∀ {pre l : List Rc}, (∀ i q, At (pre ++ l) i q → l.length ≤ i → q.dst = some t → S i = false) → lk (tmR S tm (pre ++ l)) t = lk (tmR S tm l) t
  | [], l, h => rfl
  | r :: pre, l, h => by
    have ih : lk (tmR S tm (pre ++ l)) t = lk (tmR S tm l) t := tmR_pre fun i q hq => h i q (.inr hq)
    simp only [List.cons_append, tmR]
    split
    · rename_i hs
      rw [lk_putT, if_neg]
      · exact ih
      · intro hd
        have := h (pre ++ l).length r (.inl ⟨rfl, rfl⟩) (by simp) hd
        rw [this] at hs; cases hs
    · exact ih
theorem hpR_S : ∀ {l : List Rc}, (∀ i q, At l i q → lk q.nb j ≠ none → S i = S' i) → lk (hpR S hp l) j = lk (hpR S' hp l) j
  | [], h => rfl
  | r :: rest, h => by
    have ih : lk (hpR S hp rest) j = lk (hpR S' hp rest) j := hpR_S fun i q hq => h i q (.inr hq)
    simp only [hpR]
    by_cases hd : lk r.nb j = none
    · have : ∀ (b : Prop) [Decidable b] (x : List (Nat × ABlk)), lk (if b then r.nb ++ x else x) j = lk x j := fun b _ x => by
        split
        · rw [lk_append, hd]; rfl
        · rfl
      rw [this, this]; exact ih
    · rw [h rest.length r (.inl ⟨rfl, rfl⟩) hd]
      split
      · rw [lk_append, lk_append, ih]
      · exact ih
theorem hpR_pre : ∀ {pre l : List Rc}, (∀ i q, At (pre ++ l) i q → l.length ≤ i → lk q.nb j ≠ none → S i = false) → lk (hpR S hp (pre ++ l)) j = lk (hpR S hp l) j
  | [], l, h => rfl
  | r :: pre, l, h => by
    have ih : lk (hpR S hp (pre ++ l)) j = lk (hpR S hp l) j := hpR_pre fun i q hq => h i q (.inr hq)
    simp only [List.cons_append, hpR]
    split
    · rename_i hs
      rw [lk_append]
      cases hd : lk r.nb j with
      | none => exact ih
      | some c =>
        have := h (pre ++ l).length r (.inl ⟨rfl, rfl⟩) (by simp) (by simp [hd])
        rw [this] at hs; cases hs
    · exact ih
theorem tmR_from : ∀ {l : List Rc} {v : AV}, lk (tmR S tm l) t = some v → lk tm t = some v ∨ ∃ i q, At l i q ∧ S i = true ∧ q.v = v
  | [], v, h => .inl h
  | r :: rest, v, h => by
    have ih : lk (tmR S tm rest) t = some v → lk tm t = some v ∨ ∃ i q, At (r :: rest) i q ∧ S i = true ∧ q.v = v := fun h => by
      rcases tmR_from h with h | ⟨i, q, h1, h2⟩
      · exact .inl h
      · exact .inr ⟨i, q, .inr h1, h2⟩
    simp only [tmR] at h
    split at h
    · rename_i hs
      rw [lk_putT] at h
      split at h
      · injection h with h; exact .inr ⟨_, r, .inl ⟨rfl, rfl⟩, hs, h⟩
      · exact ih h
    · exact ih h
theorem hpR_from : ∀ {l : List Rc} {c : ABlk}, lk (hpR S hp l) j = some c → lk hp j = some c ∨ ∃ i q, At l i q ∧ S i = true ∧ lk q.nb j = some c
  | [], c, h => .inl h
  | r :: rest, c, h => by
    have ih : lk (hpR S hp rest) j = some c → lk hp j = some c ∨ ∃ i q, At (r :: rest) i q ∧ S i = true ∧ lk q.nb j = some c := fun h => by
      rcases hpR_from h with h | ⟨i, q, h1, h2⟩
      · exact .inl h
      · exact .inr ⟨i, q, .inr h1, h2⟩
    simp only [hpR] at h
    split at h
    · rename_i hs
      rw [lk_append] at h
      cases hd : lk r.nb j with
      | none => rw [hd] at h; exact ih h
      | some c' => rw [hd] at h; exact .inr ⟨_, r, .inl ⟨rfl, rfl⟩, hs, by rw [hd]; exact h⟩
    · exact ih h
end

def RunAt (P : Program) (ops : Array Oper) (i : Nat) (o : Oper) (tm0 : List (Nat × AV)) (hp0 : List (Nat × ABlk)) (nt b : Nat) (v : AV) (nb : List (Nat × ABlk)) (b' : Nat) : Prop :=
  ∀ (E : Env) (R : Ren) (a : Act) (w : World) (n : Nat) (r : Option Nat) (Q : Exit → Act → World → Prop), b' ≤ GB → Fit E R ⟨tm0, hp0, b, nt, b⟩ a w →
    wpOpIn (FW r) n P ops Q i (fun a' w' => ∃ u R2, a' = a.put o.dst u ∧ Fit E R2 ⟨tm0, nb ++ hp0, b', nt, b⟩ a w' ∧ conV R2 v u ∧ v.lt b') a w

structure Fact (P : Program) (ops : Array Oper) (s0 : AS) (r : Rc) (rest : List Rc) : Prop where
  run : ∃ o tm0 hp0, ops[rest.length]? = some o ∧ r.dst = o.dst ∧ (∀ d, o.dst = some d → d < s0.nt) ∧
    (∀ t v, lk tm0 t = some v → lk (tmR (fun _ => true) s0.tm rest) t = some v ∧ t ∉ r.pe.dl) ∧
    (∀ i c, lk hp0 i = some c → lk (hpR (fun _ => true) s0.hp rest) i = some c ∧ (∀ k q, At rest k q → k ∈ r.pe.un → outside q.b q.b' i) ∧ i ∉ r.pe.hd) ∧
    (∀ i c, lk r.nb i = some c → NbOk hp0 r.b r.b' i) ∧ RunAt P ops rest.length o tm0 hp0 s0.nt r.b r.v r.nb r.b'
  b : r.b = nxR s0.nx rest
  bb : r.b ≤ r.b'
  nb : ∀ i c, lk r.nb i = some c → ((r.b ≤ i ∧ i < r.b') ∨ i ∈ r.pe.ws) ∧ c.wr = true
  av : ∀ k q, At rest k q → k ∈ r.pe.un → r.v.all (outside q.b q.b') ∧ ∀ i c, lk r.nb i = some c → c.all (outside q.b q.b')

def Good (P : Program) (ops : Array Oper) (s0 : AS) : List Rc → Prop
  | [] => True
  | r :: rest => Good P ops s0 rest ∧ Fact P ops s0 r rest

section
variable {P : Program} {ops : Array Oper} {s0 : AS}
theorem Good.suf : ∀ {pre l : List Rc}, Good P ops s0 (pre ++ l) → Good P ops s0 l
  | [], l, h => h
  | r :: pre, l, h => Good.suf (pre := pre) h.1
theorem Good.nx : ∀ {pre l : List Rc}, Good P ops s0 (pre ++ l) → nxR s0.nx l ≤ nxR s0.nx (pre ++ l)
  | [], l, h => Nat.le_refl _
  | r :: pre, l, h => by
    have h1 := Good.nx (pre := pre) h.1
    have h2 := h.2.b
    have h3 := h.2.bb
    show _ ≤ r.b'
    have h4 : nxR s0.nx (pre.append l) = nxR s0.nx (pre ++ l) := rfl
    omega
theorem Good.nx0 : ∀ {l : List Rc}, Good P ops s0 l → s0.nx ≤ nxR s0.nx l := fun {l} h => by
  have := Good.nx (pre := l) (l := []) (by simpa using h)
  simpa [nxR] using this
theorem Good.sep {l : List Rc} (h : Good P ops s0 l) {i k : Nat} {q p : Rc} (hq : At l i q) (hp : At l k p) (hik : i < k) : q.b' ≤ p.b := by
  obtain ⟨pre, rest, e, hl⟩ := hp.split
  subst e
  have hq' : At (pre ++ p :: rest) i q := hq
  have hq2 : At (p :: rest) i q := hq'.low (by simp; omega)
  rcases hq2 with ⟨h1, _⟩ | hq2
  · omega
  · have hg := (Good.suf h)
    obtain ⟨pre2, rest2, e2, hl2⟩ := hq2.split
    subst e2
    have := Good.nx hg.1
    rw [hg.2.b]
    exact this
theorem Good.le {l : List Rc} (h : Good P ops s0 l) {i : Nat} {q : Rc} (hq : At l i q) : s0.nx ≤ q.b ∧ q.b ≤ q.b' ∧ q.b' ≤ nxR s0.nx l := by
  obtain ⟨pre, rest, e, hl⟩ := hq.split
  subst e
  have hg := Good.suf h
  have h1 := Good.nx h
  have h2 := Good.nx0 hg.1
  have h3 := hg.2.b
  exact ⟨by omega, hg.2.bb, h1⟩
end

theorem Good.ids {P : Program} {ops : Array Oper} {s0 : AS} : ∀ {l : List Rc}, Good P ops s0 l → (∀ i c, lk s0.hp i = some c → idOk s0.nx i) → ∀ j c, lk (hpR (fun _ => true) s0.hp l) j = some c → idOk (nxR s0.nx l) j
  | [], _, hh, j, c, hj => hh j c hj
  | r :: rest, h, hh, j, c, hj => by
    have ih := Good.ids h.1 hh
    have hb : nxR s0.nx rest ≤ r.b' := h.2.b ▸ h.2.bb
    simp only [hpR, if_true] at hj
    rw [lk_append] at hj
    cases hn : lk r.nb j with
    | none => rw [hn] at hj; exact (ih j c hj).mono hb
    | some d =>
      obtain ⟨o, tm0, hp0, _, _, _, _, hv, hnb, _⟩ := h.2.run
      rcases hnb j d hn with h1 | ⟨c0, h1, _⟩
      · exact .inl h1.2
      · exact (ih j c0 (hv j c0 h1).1).mono hb
theorem Fact.two {P : Program} {ops : Array Oper} {s0 : AS} {r : Rc} {rest : List Rc} (hf : Fact P ops s0 r rest) (hg : Good P ops s0 rest) (hh : ∀ i c, lk s0.hp i = some c → idOk s0.nx i) {j : Nat} {c : ABlk} (hn : lk r.nb j = some c) :
    (r.b ≤ j ∧ j < r.b') ∨ (idOk r.b j ∧ j ∈ r.pe.ws ∧ j ∉ r.pe.hd ∧ ∀ k q, At rest k q → k ∈ r.pe.un → outside q.b q.b' j) := by
  rcases (hf.nb j c hn).1 with h1 | h1
  · exact .inl h1
  · obtain ⟨o, tm0, hp0, _, _, _, _, hv, hnb, _⟩ := hf.run
    rcases hnb j c hn with h2 | ⟨c0, h2, _⟩
    · exact .inl h2
    · obtain ⟨h3, h4, h5⟩ := hv j c0 h2
      have := Good.ids hg hh j c0 h3
      rw [← hf.b] at this
      exact .inr ⟨this, h1, h5, h4⟩

structure Plan (ops : Array Oper) (Rs : List Rc) : Prop where
  un : ∀ i k p q, At Rs i p → At Rs k q → i < k → i ∉ q.pe.bf → (∀ d, q.dst = some d → d ∈ p.pe.dl) ∧ (∀ d, p.dst = some d → d ∈ q.pe.dl) ∧ i ∈ q.pe.un ∧ (∀ x ∈ p.pe.ws, x ∈ q.pe.hd) ∧ ∀ x ∈ q.pe.ws, x ∈ p.pe.hd
  same : ∀ i k p q d, At Rs i p → At Rs k q → i < k → p.dst = some d → q.dst = some d → i ∈ q.pe.bf

def StR (s0 : AS) (Rs : List Rc) (S : Nat → Bool) : AS := ⟨tmR S s0.tm Rs, hpR S s0.hp Rs, nxR s0.nx Rs, s0.nt, s0.k0⟩

def JJ (s0 : AS) (Rs : List Rc) (E : Env) (S : Nat → Bool) (a : Act) (w : World) : Prop :=
  ∃ R, Fit E R (StR s0 Rs S) a w ∧ (∀ t v, lk s0.tm t = some v → v.lt s0.nx) ∧ (∀ i c, lk s0.hp i = some c → idOk s0.nx i ∧ c.lt s0.nx) ∧ E.k ≤ s0.nx ∧
    ∀ i q, At Rs i q → S i = true → q.v.lt q.b' ∧ ∀ j c, lk q.nb j = some c → c.lt q.b'

theorem sched_step {P : Program} {ops : Array Oper} {s0 : AS} {Rs : List Rc} {E : Env} {S S' : Nat → Bool} {a : Act} {w : World} {n : Nat} {r : Option Nat} {Q : Exit → Act → World → Prop} {i : Nat} {p : Rc}
    (hG : Good P ops s0 Rs) (hP : Plan ops Rs) (hJ : JJ s0 Rs E S a w) (hdown : ∀ k q, At Rs k q → S k = true → ∀ j ∈ q.pe.bf, S j = true)
    (hp : At Rs i p) (hi : S i = false) (hbf : ∀ j ∈ p.pe.bf, S j = true) (hS : S' i = true ∧ ∀ k, k ≠ i → S' k = S k) :
    wpOpIn (FW r) n P ops Q i (fun a' w' => JJ s0 Rs E S' a' w') a w := by
  obtain ⟨R, F, htm, hhp, hk, hlt⟩ := hJ
  obtain ⟨pre, rest, e, hl⟩ := hp.split
  have hg := Good.suf (pre := pre) (l := p :: rest) (by rw [← e]; exact hG)
  obtain ⟨hgr, hF⟩ := hg
  obtain ⟨o, tm0, hp0, ho, hdst, hdn, htm0, hhp0, hnb0, hrun⟩ := hF.run
  have hle := hG.le hp
  have hN : nxR s0.nx Rs ≤ GB := F.nk.2
  -- facts of the order
  have later : ∀ k q, At Rs k q → i < k → S k = true → i ∉ q.pe.bf := fun k q hq hik hs hb => by
    rw [hdown k q hq hs i hb] at hi; cases hi
  have inRest : ∀ k q, At rest k q → At Rs k q := fun k q hq => by rw [e]; exact At.app (.inr hq)
  have restLt : ∀ k q, At rest k q → k < i := fun k q hq => by have := hq.lt; omega
  have ofRs : ∀ k q, At Rs k q → k < i → At rest k q := fun k q hq hki => by
    rw [e] at hq
    rcases hq.low (by simp; omega) with ⟨h1, _⟩ | h
    · omega
    · exact h
  have undone : ∀ k q, At rest k q → S k = false → k ∉ p.pe.bf := fun k q hq hs hb => by rw [hbf k hb] at hs; cases hs
  have hb0 : p.b = nxR s0.nx rest := hF.b
  -- values of S are below
  have rlt : ∀ t v, lk (tmR S s0.tm rest) t = some v → v.lt p.b := fun t v h => by
    rcases tmR_from h with h | ⟨k, q, h1, h2, h3⟩
    · exact (htm t v h).mono hle.1
    · have := hG.sep (inRest k q h1) hp (restLt k q h1)
      rw [← h3]; exact (hlt k q (inRest k q h1) h2).1.mono this
  have hh0 : ∀ i c, lk s0.hp i = some c → idOk s0.nx i := fun i c h => (hhp i c h).1
  have hlt' : ∀ j c, lk (hpR S s0.hp rest) j = some c → idOk p.b j ∧ c.lt p.b := fun j c h => by
    rcases hpR_from h with h | ⟨k, q, h1, h2, h3⟩
    · exact ⟨(hhp j c h).1.mono hle.1, (hhp j c h).2.mono hle.1⟩
    · have h4 := hG.sep (inRest k q h1) hp (restLt k q h1)
      obtain ⟨pr, rs, e2, hl2⟩ := (inRest k q h1).split
      have h5 := Good.suf (pre := pr) (l := q :: rs) (by rw [← e2]; exact hG)
      refine ⟨?_, ((hlt k q (inRest k q h1) h2).2 j c h3).mono h4⟩
      rcases h5.2.two h5.1 hh0 h3 with h6 | h6
      · exact .inl (Nat.lt_of_lt_of_le h6.2 h4)
      · exact h6.1.mono (Nat.le_trans (hG.le (inRest k q h1)).2.1 h4)
  have factOf : ∀ k q, At Rs k q → ∃ rs, rs.length = k ∧ (Fact P ops s0 q rs ∧ ∀ j c, lk q.nb j = some c → (q.b ≤ j ∧ j < q.b') ∨ (idOk q.b j ∧ j ∈ q.pe.ws ∧ j ∉ q.pe.hd ∧ ∀ k' q', At rs k' q' → k' ∈ q.pe.un → outside q'.b q'.b' j)) ∧ ∀ j x, At Rs j x → j < k → At rs j x := fun k q hq => by
    obtain ⟨pr, rs, e2, hl2⟩ := hq.split
    have h5 := Good.suf (pre := pr) (l := q :: rs) (by rw [← e2]; exact hG)
    refine ⟨rs, hl2, ⟨h5.2, fun j c h => h5.2.two h5.1 hh0 h⟩, fun j x hx hj => ?_⟩
    rw [e2] at hx
    rcases hx.low (by simp; omega) with ⟨h1, _⟩ | h
    · omega
    · exact h
  have part : Part (StR s0 Rs S) tm0 hp0 p.b := by
    refine ⟨fun t v h => ?_, fun j c h => ?_⟩
    · obtain ⟨h1, h2⟩ := htm0 t v h
      have e1 : lk (tmR S s0.tm rest) t = some v := by
        rw [← h1]
        refine tmR_S fun k q hq hd => ?_
        cases hs : S k with
        | true => rfl
        | false => exact absurd ((hP.un k i q p (inRest k q hq) hp (restLt k q hq) (undone k q hq hs)).2.1 t hd) h2
      have e2 : lk (tmR S s0.tm Rs) t = lk (tmR S s0.tm rest) t := by
        rw [e, show pre ++ p :: rest = (pre ++ [p]) ++ rest by simp]
        refine tmR_pre fun k q hq hki hd => ?_
        rw [show (pre ++ [p]) ++ rest = Rs by rw [e]; simp] at hq
        cases hs : S k with
        | false => rfl
        | true =>
          have hne : k ≠ i := fun e => by subst e; rw [hi] at hs; cases hs
          exact absurd ((hP.un i k p q hp hq (by omega) (later k q hq (by omega) hs)).1 t hd) h2
      exact ⟨by show lk (tmR S s0.tm Rs) t = _; rw [e2]; exact e1, rlt t v e1⟩
    · obtain ⟨h1, h2, hhd⟩ := hhp0 j c h
      have e1 : lk (hpR S s0.hp rest) j = some c := by
        rw [← h1]
        refine hpR_S fun k q hq hd => ?_
        cases hs : S k with
        | true => rfl
        | false =>
          have hun := (hP.un k i q p (inRest k q hq) hp (restLt k q hq) (undone k q hq hs)).2.2
          have h3 := h2 k q hq hun.1
          obtain ⟨rs, _, ⟨hf, hf2⟩, _⟩ := factOf k q (inRest k q hq)
          cases hq2 : lk q.nb j with
          | none => exact absurd hq2 hd
          | some c2 =>
            rcases hf2 j c2 hq2 with h4 | h4
            · unfold outside at h3; omega
            · exact absurd (hun.2.1 j h4.2.1) hhd
      have hid := hlt' j c e1
      have e2 : lk (hpR S s0.hp Rs) j = lk (hpR S s0.hp rest) j := by
        rw [e, show pre ++ p :: rest = (pre ++ [p]) ++ rest by simp]
        refine hpR_pre fun k q hq hki hd => ?_
        rw [show (pre ++ [p]) ++ rest = Rs by rw [e]; simp] at hq
        obtain ⟨rs, _, ⟨hf, hf2⟩, _⟩ := factOf k q hq
        cases hs : S k with
        | false => rfl
        | true =>
        have hne : k ≠ i := fun e => by subst e; rw [hi] at hs; cases hs
        cases hq2 : lk q.nb j with
        | none => exact absurd hq2 hd
        | some c2 =>
          exfalso
          have h7 : p.b ≤ q.b := by have := hG.sep hp hq (by omega); omega
          have h8 := (hG.le hq).2.2
          rcases hf2 j c2 hq2 with h6 | h6
          · rcases hid.1 with h9 | h9 <;> omega
          · exact hhd ((hP.un i k p q hp hq (by omega) (later k q hq (by omega) hs)).2.2.2.2 j h6.2.1)
      exact ⟨by show lk (hpR S s0.hp Rs) j = _; rw [e2]; exact e1, hid⟩
  have hbG : p.b' ≤ GB := Nat.le_trans hle.2.2 hN
  have otm : ∀ t v, lk (StR s0 Rs S).tm t = some v → v.all (outside p.b p.b') := fun t v h => by
    have key : ∀ m, m ≤ p.b → ∀ i, idOk m i → outside p.b p.b' i := fun m hm i hi => by unfold idOk at hi; unfold outside; omega
    rcases tmR_from h with h | ⟨k, q, h1, h2, h3⟩
    · exact (AV.lt_all.1 (htm t v h)).mono (key _ hle.1)
    · subst h3
      by_cases hki : k < i
      · exact (AV.lt_all.1 (hlt k q h1 h2).1).mono (key _ (hG.sep h1 hp hki))
      · have hne : k ≠ i := fun e => by subst e; rw [hi] at h2; cases h2
        obtain ⟨rs, _, ⟨hf, _⟩, hrs⟩ := factOf k q h1
        exact (hf.av i p (hrs i p hp (by omega)) (hP.un i k p q hp h1 (by omega) (later k q h1 (by omega) h2)).2.2.1).1
  have ohp : ∀ j c, lk (StR s0 Rs S).hp j = some c → outside p.b p.b' j ∧ c.all (outside p.b p.b') := fun j c h => by
    have key : ∀ m, m ≤ p.b → ∀ i, idOk m i → outside p.b p.b' i := fun m hm i hi => by unfold idOk at hi; unfold outside; omega
    rcases hpR_from h with h | ⟨k, q, h1, h2, h3⟩
    · exact ⟨key _ hle.1 j (hhp j c h).1, (ABlk.lt_all.1 (hhp j c h).2).mono (key _ hle.1)⟩
    · obtain ⟨rs, _, ⟨hf, hf2⟩, hrs⟩ := factOf k q h1
      have h6 := hf2 j c h3
      by_cases hki : k < i
      · have h7 := hG.sep h1 hp hki
        refine ⟨?_, (ABlk.lt_all.1 ((hlt k q h1 h2).2 j c h3)).mono (key _ h7)⟩
        rcases h6 with h6 | h6
        · unfold outside; omega
        · exact key _ (Nat.le_trans (hG.le h1).2.1 h7) j h6.1
      · have hne : k ≠ i := fun e => by subst e; rw [hi] at h2; cases h2
        have h7 := hG.sep hp h1 (by omega)
        have hun := (hP.un i k p q hp h1 (by omega) (later k q h1 (by omega) h2)).2.2.1
        refine ⟨?_, (hf.av i p (hrs i p hp (by omega)) hun).2 j c h3⟩
        rcases h6 with h6 | h6
        · unfold outside; omega
        · exact h6.2.2.2 i p (hrs i p hp (by omega)) hun
  have F1 := F.part part (Nat.le_trans hle.2.1 hbG)
  have hrun := hrun _ _ _ _ n r Q hbG F1
  rw [hl] at hrun
  refine wpOpIn_mono ?_ hrun
  rintro a' w' ⟨u, R2, rfl, F2, hcv, hvl⟩
  obtain ⟨G1, G2, G3, G4⟩ := F.framed part ⟨Nat.le_trans hk hle.1, hle.2.2⟩ F2 hcv hvl (fun j c h => ⟨hnb0 j c h, (hF.nb j c h).2⟩) otm ohp
  -- put
  have F3 : Fit E (mix R R2 p.b p.b') ⟨putT p.dst p.v (tmR S s0.tm Rs), p.nb ++ hpR S s0.hp Rs, nxR s0.nx Rs, s0.nt, s0.k0⟩ (a.put o.dst u) w' := by
    rw [hdst]
    cases hd : o.dst with
    | none => exact G1
    | some d => exact G1.put (hdn d hd) G2 G3
  refine ⟨_, ((F3.tm_sub (tm' := tmR S' s0.tm Rs) ?_).hp_sub (hp' := hpR S' s0.hp Rs) ?_), htm, hhp, hk, ?_⟩
  · intro t v h
    show lk (putT p.dst p.v (tmR S s0.tm Rs)) t = some v
    rw [lk_putT]
    split
    · rename_i hd
      rw [← h, e, tmR_pre (l := p :: rest)]
      · simp only [tmR, hl, hS.1, if_true, lk_putT, if_pos hd]
      · intro k q hq hki hd2
        rw [← e] at hq
        have hki' : i < k := by simp at hki; omega
        rw [hS.2 k (by omega)]
        cases hs : S k with
        | false => rfl
        | true => exact absurd (hP.same i k p q t hp hq hki' hd hd2) (later k q hq hki' hs)
    · rename_i hd
      rw [← h]
      refine tmR_S fun k q hq hd2 => ?_
      have hne : k ≠ i := fun e => by subst e; exact hd (by rw [hp.uniq hq]; exact hd2)
      exact (hS.2 k hne).symm
  · intro j c h
    show lk (p.nb ++ hpR S s0.hp Rs) j = some c
    rw [lk_append]
    cases hd : lk p.nb j with
    | none =>
      show lk (hpR S s0.hp Rs) j = some c
      rw [← h]
      refine hpR_S fun k q hq hd2 => ?_
      have hne : k ≠ i := fun e => by subst e; rw [hp.uniq hq] at hd; exact hd2 hd
      exact (hS.2 k hne).symm
    | some c1 =>
      show some c1 = some c
      rw [← h, e, hpR_pre (l := p :: rest)]
      · simp only [hpR, hl, hS.1, if_true, lk_append, hd]; rfl
      · intro k q hq hki hd2
        rw [← e] at hq
        have hki' : i < k := by simp at hki; omega
        rw [hS.2 k (by omega)]
        cases hs : S k with
        | false => rfl
        | true =>
          exfalso
          have hun := (hP.un i k p q hp hq hki' (later k q hq hki' hs)).2.2
          obtain ⟨rs, _, ⟨hf, hf2⟩, hrs⟩ := factOf k q hq
          obtain ⟨rs', hrl, ⟨hf', hf2'⟩, _⟩ := factOf i p hp
          have h7 := hG.sep hp hq hki'
          have h8 := (hG.le hq).2.2
          cases hq2 : lk q.nb j with
          | none => exact hd2 hq2
          | some c2 =>
            rcases hf2 j c2 hq2 with h6 | h6 <;> rcases hf2' j c1 hd with h5 | h5
            · omega
            · have := h5.1; unfold idOk at this; have := hle.2.1; omega
            · have := h6.2.2.2 i p (hrs i p hp hki') hun.1; unfold outside at this; omega
            · exact h5.2.2.1 (hun.2.2 j h6.2.1)
  · intro k q hq hs
    by_cases hne : k = i
    · subst hne; rw [hq.uniq hp]; exact ⟨hvl, G4⟩
    · exact hlt k q hq (by rw [← hS.2 k hne]; exact hs)

end Go.AH

/-
  A region that draws its order, walked once.
-/
namespace Go.AH
open Go.RowKit

/-! ### Calls that leave what they are handed alone -/
structure CallQOk (P : Program) (f : FuncId) (vs : List AV) (s : AS) (args : List AV) (hp0 : List (Nat × ABlk)) (l : List Nat) (r : AV) (hp1 : List (Nat × ABlk)) (k1 : Nat) (nb : List (Nat × ABlk)) : Prop where
  spec : FSpec P f args hp0 l.length (fun r' hp' k' => r' = r ∧ hp' = hp1 ∧ k' = k1)
  old : ∀ i ∈ l, idOk s.nx i
  args : args.map (AV.ren (qq l s.nx)) = vs
  heap : ∀ i b, lk hp0 i = some b → (i < l.length ∨ GB ≤ i) ∧ ∃ b', lk s.hp (qq l s.nx i) = some b' ∧ Gives b' (b.ren (qq l s.nx))
  inj : ∀ i j b c, lk hp0 i = some b → lk hp0 j = some c → i ≠ j → b.wr = true → qq l s.nx i ≠ qq l s.nx j
  nd : (hp1.map Prod.fst).Nodup
  same : ∀ i b, lk hp0 i = some b → b.wr = true → lk hp1 i = some b ∨ ∃ c, lk nb i = some c
  new : ∀ i b, lk nb i = some b → ((l.length ≤ i ∧ i < k1) ∨ ∃ c0, lk hp0 i = some c0 ∧ c0.wr = true) ∧ b.wr = true ∧ lk hp1 i = some b
  le : l.length ≤ k1 ∧ k1 ≤ GB
  nd0 : (hp0.map Prod.fst).Nodup
  hk1 : ∀ p ∈ hp1, p.1 < k1 ∨ GB ≤ p.1
  oldin : ∀ p ∈ hp1, p.2.wr = true → p.1 < l.length ∨ GB ≤ p.1 → ∃ c0, lk hp0 p.1 = some c0 ∧ c0.wr = true
  room : s.nx + (k1 - l.length) ≤ GB

def CallQ (P : Program) (f : FuncId) (vs : List AV) (s : AS) (k : AV → List (Nat × ABlk) → Nat → Prop) : Prop :=
  ∃ args hp0 l r hp1 k1 nb, CallQOk P f vs s args hp0 l r hp1 k1 nb ∧ k (r.ren (qq l s.nx)) (nb.map fun p => (qq l s.nx p.1, p.2.ren (qq l s.nx))) (s.nx + (k1 - l.length))
theorem callQ_intro {P : Program} {f : FuncId} {vs : List AV} {s : AS} {k : AV → List (Nat × ABlk) → Nat → Prop} (args : List AV) (hp0 : List (Nat × ABlk)) (l : List Nat) (r : AV) (hp1 : List (Nat × ABlk)) (k1 : Nat) (nb : List (Nat × ABlk)) (h : CallQOk P f vs s args hp0 l r hp1 k1 nb)
    (hk : k (r.ren (qq l s.nx)) (nb.map fun p => (qq l s.nx p.1, p.2.ren (qq l s.nx))) (s.nx + (k1 - l.length))) : CallQ P f vs s k := ⟨args, hp0, l, r, hp1, k1, nb, h, hk⟩
theorem callQ_elim {P : Program} {f : FuncId} {vs : List AV} {s : AS} {k : AV → List (Nat × ABlk) → Nat → Prop} (h : CallQ P f vs s k) :
    ∃ args hp0 l r hp1 k1 nb, CallQOk P f vs s args hp0 l r hp1 k1 nb ∧ k (r.ren (qq l s.nx)) (nb.map fun p => (qq l s.nx p.1, p.2.ren (qq l s.nx))) (s.nx + (k1 - l.length)) := h
attribute [irreducible] CallQ

theorem behind_other {l : List Nat} {n : Nat} {hp0 : List (Nat × ABlk)} {i : Nat} : ∀ (hp' H : List (Nat × ABlk)), (∀ p ∈ hp', (∀ cs, lk hp0 p.1 ≠ some (.ro cs)) → p.2.wr = true → qq l n p.1 ≠ i) → lk (behind l n hp0 hp' H) i = lk H i
  | [], H, h => rfl
  | (j, b) :: r, H, h => by
    have ih := behind_other (l := l) (n := n) (hp0 := hp0) (i := i) r H fun p hp => h p (List.mem_cons_of_mem _ hp)
    simp only [behind]
    split
    · exact ih
    · rename_i hx
      split
      · rename_i hw
        rw [lk_up, if_neg]
        · exact ih
        · exact h (j, b) (by simp) (fun cs e => hx cs e) hw
      · exact ih
theorem lk_mem {β : Type} : ∀ {l : List (Nat × β)} {i : Nat} {b : β}, (l.map Prod.fst).Nodup → (i, b) ∈ l → lk l i = some b
  | (j, c) :: r, i, b, hnd, h => by
    rcases List.mem_cons.1 h with e | h
    · injection e with e1 e2; subst e1; subst e2; simp [lk]
    · have h1 := lk_mem (by simpa using (List.nodup_cons.1 hnd).2) h
      simp only [lk]
      rw [if_neg]
      · exact h1
      · intro e; subst e
        rw [lk_none_of_nodup hnd] at h1; cases h1
theorem mem_lk {β : Type} : ∀ {l : List (Nat × β)} {i : Nat} {b : β}, lk l i = some b → (i, b) ∈ l
  | (j, c) :: r, i, b, h => by
    simp only [lk] at h
    split at h
    · rename_i e; subst e; injection h with h; subst h; simp
    · exact List.mem_cons_of_mem _ (mem_lk h)
theorem behind_put {l : List Nat} {n : Nat} {hp0 : List (Nat × ABlk)} {i : Nat} {b : ABlk} : ∀ (hp' H : List (Nat × ABlk)), (i, b) ∈ hp' → (∀ cs, lk hp0 i ≠ some (.ro cs)) → b.wr = true →
    (∀ p ∈ hp', (∀ cs, lk hp0 p.1 ≠ some (.ro cs)) → p.2.wr = true → qq l n p.1 = qq l n i → p = (i, b)) → lk (behind l n hp0 hp' H) (qq l n i) = some (b.ren (qq l n))
  | (j, c) :: r, H, hm, hro, hw, hinj => by
    have hin : ∀ p ∈ r, (∀ cs, lk hp0 p.1 ≠ some (.ro cs)) → p.2.wr = true → qq l n p.1 = qq l n i → p = (i, b) := fun p hp => hinj p (List.mem_cons_of_mem _ hp)
    by_cases e : (j, c) = (i, b)
    · injection e with e1 e2; subst e1; subst e2
      simp only [behind]
      cases hx : lk hp0 j with
      | none => simp only [hw, if_true]; rw [lk_up, if_pos rfl]
      | some b0 => cases b0 with
        | ro cs => exact absurd hx (hro cs)
        | _ => simp only [hw, if_true]; rw [lk_up, if_pos rfl]
    · have hr : (i, b) ∈ r := by
        rcases List.mem_cons.1 hm with h | h
        · exact absurd h.symm e
        · exact h
      have ih := behind_put (l := l) (n := n) (hp0 := hp0) (i := i) (b := b) r H hr hro hw hin
      simp only [behind]
      split
      · exact ih
      · rename_i hx
        split
        · rename_i hw2
          rw [lk_up, if_neg]
          · exact ih
          · intro e2; exact e (hinj (j, c) (by simp) (fun cs e => hx cs e) hw2 e2)
        · exact ih
theorem gone_other {l : List Nat} {n i : Nat} : ∀ (hp0 H : List (Nat × ABlk)), (∀ p ∈ hp0, p.2.wr = true → qq l n p.1 ≠ i) → lk (gone l n hp0 H) i = lk H i
  | [], H, h => rfl
  | (j, b) :: r, H, h => by
    have ih := gone_other (l := l) (n := n) (i := i) r H fun p hp => h p (List.mem_cons_of_mem _ hp)
    simp only [gone]
    split
    · rename_i hw
      rw [lk_del, if_neg (h (j, b) (by simp) hw)]; exact ih
    · exact ih

theorem qq_new {l : List Nat} {n i : Nat} (h : l.length ≤ i) (hG : i < GB) : qq l n i = n + (i - l.length) := by
  simp only [qq]
  rw [if_neg (by omega)]
  have : l[i]? = none := by simp [h]
  rw [this]
theorem qq_old {l : List Nat} {n i : Nat} (h : i < l.length ∨ GB ≤ i) (hl : ∀ j ∈ l, idOk n j) : idOk n (qq l n i) := by
  simp only [qq]
  split
  · rename_i h; exact .inr h
  · rename_i h2
    have h1 : i < l.length := by omega
    rw [List.getElem?_eq_getElem h1]
    exact hl _ (List.getElem_mem h1)

variable {P : Program} {T : Nat → Option TI} {md : Bool} {E : Env} {R R2 : Ren} {s : AS} {a : Act} {w w' : World}

theorem callQ_sound {f : FuncId} {vs : List AV} {args : List AV} {hp0 : List (Nat × ABlk)} {l : List Nat} {r : AV} {hp1 : List (Nat × ABlk)} {k1 : Nat} {nb : List (Nat × ABlk)} (C : CallQOk P f vs s args hp0 l r hp1 k1 nb) (F : Fit E R s a w)
    {us : Array Value} (hus : us.size = vs.length) (hu : ∀ (i : Nat) (v : AV), vs[i]? = some v → ∃ u : Value, us[i]? = some u ∧ conV R v u) :
    Calls P f us w fun e w' => ∃ u R', e = .returned u ∧ Fit E R' ⟨s.tm, (nb.map fun p => (qq l s.nx p.1, p.2.ren (qq l s.nx))) ++ s.hp, s.nx + (k1 - l.length), s.nt, s.k0⟩ a w' ∧ conV R' (r.ren (qq l s.nx)) u ∧ (r.ren (qq l s.nx)).lt (s.nx + (k1 - l.length)) := by
  have C2 : CallOk P f vs s (fun v s' => v = r.ren (qq l s.nx) ∧ s' = { s with hp := behind l s.nx hp0 hp1 (gone l s.nx hp0 s.hp), nx := s.nx + (k1 - l.length) }) args hp0 l (fun r' hp' k' => r' = r ∧ hp' = hp1 ∧ k' = k1) :=
    ⟨C.spec, C.old, C.args, C.heap, C.inj, fun r' hp' k' ⟨e1, e2, e3⟩ => by subst e1; subst e2; subst e3; exact ⟨C.room, rfl, rfl⟩⟩
  refine (callOk_sound C2 F hus hu).mono ?_
  rintro e w' ⟨u, v, s', R', rfl, ⟨rfl, rfl⟩, F', hc, hl⟩
  refine ⟨u, R', rfl, F'.hp_sub (hp' := (nb.map fun p => (qq l s.nx p.1, p.2.ren (qq l s.nx))) ++ s.hp) ?_, hc, hl⟩
  intro i b h
  show lk (behind l s.nx hp0 hp1 (gone l s.nx hp0 s.hp)) i = some b
  have hroom := C.room
  have hle := C.le
  have mapLk : ∀ (nb : List (Nat × ABlk)) (b : ABlk), lk (nb.map fun p => (qq l s.nx p.1, p.2.ren (qq l s.nx))) i = some b → ∃ j c, lk nb j = some c ∧ qq l s.nx j = i ∧ c.ren (qq l s.nx) = b := by
    intro nb
    induction nb with
    | nil => intro b h; cases h
    | cons p nb ih =>
      obtain ⟨j, c⟩ := p
      intro b h
      simp only [List.map_cons, lk] at h
      split at h
      · rename_i e; injection h with h; exact ⟨j, c, by simp [lk], e, h⟩
      · rename_i e
        obtain ⟨j2, c2, h1, h2, h3⟩ := ih b h
        refine ⟨j2, c2, ?_, h2, h3⟩
        simp only [lk]
        rw [if_neg]
        · exact h1
        · intro e2; subst e2; exact e h2
  have qnew : ∀ j, l.length ≤ j → j < k1 → s.nx ≤ qq l s.nx j ∧ qq l s.nx j < GB ∧ qq l s.nx j = s.nx + (j - l.length) := fun j h1 h2 => by
    rw [qq_new h1 (by omega)]; omega
  have qold : ∀ j, j < l.length ∨ GB ≤ j → idOk s.nx (qq l s.nx j) := fun j h => qq_old h C.old
  have hnx : s.nx ≤ GB := by have := F'.nk.2; have h2 : s.nx ≤ s.nx + (k1 - l.length) := Nat.le_add_right _ _; omega
  rw [lk_append] at h
  cases hm : lk (nb.map fun p => (qq l s.nx p.1, p.2.ren (qq l s.nx))) i with
  | some b2 =>
    rw [hm] at h
    have e : b2 = b := by simpa using h
    subst e
    obtain ⟨j, c, h1, h2, h3⟩ := mapLk nb b2 hm
    obtain ⟨hj, hw, hin⟩ := C.new j c h1
    rw [← h2, ← h3]
    refine behind_put hp1 _ (mem_lk hin) ?_ hw ?_
    · intro cs e
      rcases hj with hj | ⟨c0, hj, hjw⟩
      · rcases (C.heap j _ e).1 with h4 | h4 <;> omega
      · rw [hj] at e; injection e with e; subst e; cases hjw
    · intro p hp _ hpw hq
      have hlk : lk hp1 p.1 = some p.2 := lk_mem C.nd hp
      have hpj : p.1 = j := by
        rcases hj with hj | ⟨c0, hj, hjw⟩
        · have q1 := qnew j hj.1 hj.2
          by_cases ho : p.1 < l.length ∨ GB ≤ p.1
          · have h5 := qold p.1 ho
            rw [hq] at h5
            unfold idOk at h5; omega
          · rcases C.hk1 p hp with h6 | h6
            · have q2 := qnew p.1 (by omega) h6; omega
            · omega
        · have q1 := qold j (C.heap j c0 hj).1
          by_cases ho : p.1 < l.length ∨ GB ≤ p.1
          · obtain ⟨c1, g1, g2⟩ := C.oldin p hp hpw ho
            by_cases e : p.1 = j
            · exact e
            · exact absurd hq (C.inj p.1 j c1 c0 g1 hj e g2)
          · rcases C.hk1 p hp with h6 | h6
            · have q2 := qnew p.1 (by omega) h6
              rw [hq] at q2
              unfold idOk at q1; omega
            · omega
      rw [hpj, hin] at hlk
      injection hlk with hlk
      exact Prod.ext hpj hlk.symm
  | none =>
    rw [hm] at h
    have h : lk s.hp i = some b := by simpa using h
    have hid := (F.wf.hp i b h).1
    by_cases hex : ∃ p ∈ hp0, p.2.wr = true ∧ qq l s.nx p.1 = i
    · obtain ⟨⟨j0, c0⟩, hp, hw, hq⟩ := hex
      have hlk : lk hp0 j0 = some c0 := lk_mem C.nd0 hp
      obtain ⟨_, b', g1, g2⟩ := C.heap j0 c0 hlk
      have hb : b = c0.ren (qq l s.nx) := by
        have := g2.eq (by rw [ABlk.ren_wr]; exact hw)
        rw [hq] at g1
        rw [h] at g1; injection g1 with g1; rw [g1]; exact this
      rcases C.same j0 c0 hlk hw with hsame | ⟨cn, hcn⟩
      · rw [← hq, hb]
        refine behind_put hp1 _ (mem_lk hsame) ?_ hw ?_
        · intro cs e; rw [hlk] at e; injection e with e; subst e; cases hw
        · intro p hp1 _ hpw hq2
          have hlk1 := lk_mem C.nd hp1
          by_cases ho : p.1 < l.length ∨ GB ≤ p.1
          · obtain ⟨c1, g1, g2⟩ := C.oldin p hp1 hpw ho
            by_cases e : p.1 = j0
            · rw [e, hsame] at hlk1; injection hlk1 with hlk1; exact Prod.ext e hlk1.symm
            · exact absurd hq2 (C.inj p.1 j0 c1 c0 g1 hlk e g2)
          · rcases C.hk1 p hp1 with h6 | h6
            · have q2 := qnew p.1 (by omega) h6
              rw [hq2, hq] at q2
              unfold idOk at hid; omega
            · omega
      · exfalso
        have : ∀ nb : List (Nat × ABlk), lk nb j0 = some cn → lk (nb.map fun p => (qq l s.nx p.1, p.2.ren (qq l s.nx))) i ≠ none := by
          intro nb
          induction nb with
          | nil => intro h; cases h
          | cons p nb ih =>
            intro h e
            simp only [List.map_cons, lk] at h e
            split at e
            · cases e
            · rename_i hne
              split at h
              · rename_i he; exact hne (by rw [he]; exact hq)
              · exact ih h e
        exact this nb hcn hm
    · rw [behind_other, gone_other]
      · exact h
      · intro p hp hw hq; exact hex ⟨p, hp, hw, hq⟩
      · intro p hp1 _ hpw hq
        by_cases ho : p.1 < l.length ∨ GB ≤ p.1
        · obtain ⟨c1, g1, g2⟩ := C.oldin p hp1 hpw ho
          exact hex ⟨(p.1, c1), mem_lk g1, g2, hq⟩
        · rcases C.hk1 p hp1 with h6 | h6
          · have q2 := qnew p.1 (by omega) h6
            rw [hq] at q2
            unfold idOk at hid; omega
          · omega

end Go.AH
