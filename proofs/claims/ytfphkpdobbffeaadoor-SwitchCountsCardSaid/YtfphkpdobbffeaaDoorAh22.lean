/-
  Loops over functions.
-/
import Derived.Test.YtfphkpdobbffeaaDoorAh21
set_option linter.unusedSimpArgs false
set_option linter.unusedVariables false
namespace Go.AH
open Go.RowKit

/-- What an iterator does: hp0 is what it reads (numbers below k). -/
def FIterV {α : Type} (val : α → Value) (P : Program) (gf : FuncId) (caps : List Nat) (hp0 : List (Nat × ABlk)) (xs : List α) : Prop :=
  (∀ (vs : Array Value) (w : World), (callFunc gf vs).run P w = .ok (.enter gf vs) w) ∧
  ∀ (R : Ren) (w : World) (n : Nat), R.ok → 1 ≤ n → HRel R hp0 w →
    SeqStopsK (FW none) n P gf (caps.map R.p0).toArray (fun x : { x : α // x ∈ xs } => #[val x.1]) (fun W W' => ∀ i b, lk hp0 i = some b → W'.heap[R.ρ i]? = W.heap[R.ρ i]?) (fun ys => ys.map Subtype.val = xs) (fun pre => pre.map Subtype.val <+: xs) xs.length w

def FIter (P : Program) (gf : FuncId) (caps : List Nat) (hp0 : List (Nat × ABlk)) (xs : List Int) : Prop := FIterV (Value.int .i64) P gf caps hp0 xs

/-- Maps that are known lay there before. -/
def ABlk.isMap : ABlk → Bool
  | .mp _ => true
  | .mi _ => true
  | _ => false
def mpIn (hp : List (Nat × ABlk)) : List (Nat × ABlk) → Prop
  | [] => True
  | (i, b) :: r => match b.isMap with
    | true => (match lk hp i with | some c => c.isMap = true | _ => False) ∧ mpIn hp r
    | false => mpIn hp r
theorem mpIn_get {hp : List (Nat × ABlk)} : ∀ {l : List (Nat × ABlk)}, mpIn hp l → ∀ i b, lk l i = some b → b.isMap = true → ∃ c, lk hp i = some c
  | (j, b) :: r, h, i, m, hi, hm => by
    simp only [lk] at hi
    split at hi
    · rename_i e; subst e; injection hi with hi; subst hi
      have h1 : (match lk hp j with | some c => c.isMap = true | _ => False) := by
        simp only [mpIn, hm] at h; exact h.1
      cases hq : lk hp j with
      | some c => exact ⟨c, rfl⟩
      | none => rw [hq] at h1; exact h1.elim
    · refine mpIn_get ?_ i m hi hm
      simp only [mpIn] at h
      split at h
      · exact h.2
      · exact h

def keepOk (hp : List (Nat × ABlk)) : List (Nat × ABlk) → Prop
  | [] => True
  | (i, _) :: r => (match lk hp i with | some (.ro _) => True | _ => False) ∧ keepOk hp r
theorem keepOk_get {hp : List (Nat × ABlk)} : ∀ {l : List (Nat × ABlk)}, keepOk hp l → ∀ i b, lk l i = some b → ∃ cs, lk hp i = some (.ro cs)
  | (j, c) :: r, h, i, b, hi => by
    simp only [lk] at hi
    split at hi
    · rename_i e; subst e
      have h1 := h.1
      split at h1
      · rename_i cs hm; exact ⟨cs, hm⟩
      · exact h1.elim
    · exact keepOk_get h.2 i b hi
/-- Known, or known to read. -/
def givH (hp : List (Nat × ABlk)) : List (Nat × ABlk) → Prop
  | [] => True
  | (i, b) :: r => (match lk hp i with
    | some b' => (match b with
      | .ro cs => b'.cells = some cs
      | b => b' = b)
    | none => False) ∧ givH hp r
theorem givH_get {hp : List (Nat × ABlk)} : ∀ {l : List (Nat × ABlk)}, givH hp l → ∀ i b, lk l i = some b → ∃ b', lk hp i = some b' ∧ Gives b' b
  | (j, c) :: r, h, i, b, hb => by
    simp only [lk] at hb
    split at hb
    · rename_i e; subst e; injection hb with hb; subst hb
      have h2 := h.1
      cases hq : lk hp j with
      | none => rw [hq] at h2; exact h2.elim
      | some b' =>
        rw [hq] at h2
        refine ⟨b', rfl, ?_⟩
        cases c with
        | ro cs => exact .inr ⟨_, rfl, h2⟩
        | own cs => exact .inl h2
        | row e z cs => exact .inl h2
        | mp m => exact .inl h2
        | mi I => exact .inl h2
    · exact givH_get h.2 i b hb
theorem Gives.wr {b' b : ABlk} (h : Gives b' b) (hw : b.wr = true) : b'.wr = true := by rw [h.eq hw]; exact hw
theorem Gives.lt {b' b : ABlk} {n : Nat} (h : Gives b' b) (hl : b'.lt n) : b.lt n := by
  rcases h with e | ⟨cs, e, hc⟩
  · exact e ▸ hl
  · subst e
    cases b' with
    | ro c => simp only [ABlk.cells, Option.some.injEq] at hc; subst hc; exact hl
    | own c => simp only [ABlk.cells, Option.some.injEq] at hc; subst hc; exact hl
    | row e z c => simp only [ABlk.cells, Option.some.injEq] at hc; subst hc; exact hl
    | mp m => cases hc
    | mi I => cases hc
/-- What is known may be known to read alone. -/
theorem Fit.gives {E : Env} {R : Ren} {s : AS} {a : Act} {w : World} {hp' : List (Nat × ABlk)} (h : Fit E R s a w) (he : ∀ i b, lk hp' i = some b → ∃ b', lk s.hp i = some b' ∧ Gives b' b) : Fit E R { s with hp := hp' } a w where
  ok := h.ok
  nt := h.nt
  tm := h.tm
  hp := ⟨fun id b hb => by obtain ⟨b', h1, h2⟩ := he id b hb; exact h2.rel (h.hp.blk id b' h1), fun i j b c hi hj hne hw => by
    obtain ⟨b', h1, h2⟩ := he i b hi
    obtain ⟨c', h3, h4⟩ := he j c hj
    exact h.hp.inj i j b' c' h1 h3 hne (h2.wr hw)⟩
  old := h.old
  wr := fun id b hb hw => by obtain ⟨b', h1, h2⟩ := he id b hb; exact h.wr id b' h1 (h2.wr hw)
  nx := fun id b hb => by obtain ⟨b', h1, h2⟩ := he id b hb; exact h.nx id b' h1
  nk := h.nk
  kk := h.kk
  fr := h.fr
  df := h.df
  wf := ⟨h.wf.tm, fun i b hb => by obtain ⟨b', h1, h2⟩ := he i b hb; exact ⟨(h.wf.hp i b' h1).1, h2.lt (h.wf.hp i b' h1).2⟩⟩

/-- The end of a round: what is known of the memory then. -/
structure RoundEnd (k : Nat) (hp hp' : List (Nat × ABlk)) (l : List (Nat × Nat)) : Prop where
  fix : ∀ p ∈ l, k ≤ p.1 ∧ p.1 < GB
  hp : hpAll hp (rn l) hp'
  inj : (hp'.map fun p => rn l p.1).Nodup

def RoundOk (k : Nat) (s : AS) (hp' : List (Nat × ABlk)) : Prop := ∃ l, RoundEnd k s.hp hp' l
theorem RoundOk.mk {k : Nat} {s : AS} {hp' : List (Nat × ABlk)} (l : List (Nat × Nat)) (h : RoundEnd k s.hp hp' l) : RoundOk k s hp' := ⟨l, h⟩
theorem RoundOk.nil {k : Nat} {s : AS} {hp' : List (Nat × ABlk)} (h : eqH s.hp hp') (hn : nodB (hp'.map Prod.fst) = true) : RoundOk k s hp' := ⟨[], (fun p hp => absurd hp (List.not_mem_nil)), eqH_all rn_nil h, nodB_sound hn⟩
theorem RoundOk.elim {k : Nat} {s : AS} {hp' : List (Nat × ABlk)} (h : RoundOk k s hp') : ∃ l, RoundEnd k s.hp hp' l := h
attribute [irreducible] RoundOk

/-- How a round may be left. -/
def roundA {X : Type} (s0 : AS) (inv : X → Prop) (hp' : X → List (Nat × ABlk)) (pfx : Prop) (Q : Exit → AS → Prop) : Exit → AS → Prop
  | .normal, s => ∃ g, inv g ∧ RoundOk s0.nx s (hp' g)
  | .exit i, s => pfx → s.on fun _ hp nx _ _ => s0.on fun tm hp0 _ nt k0 => mpIn hp0 hp ∧ Q (.exit i) ⟨tm, hp, nx, nt, k0⟩
  | .ret, s => pfx → s.on fun _ hp nx _ _ => s0.on fun tm hp0 _ nt k0 => mpIn hp0 hp ∧ Q .ret ⟨tm, hp, nx, nt, k0⟩
  | _, _ => False

variable {P : Program} {T : Nat → Option TI} {md : Bool} {E : Env} {R R' R2 : Ren} {s s' : AS} {a a' : Act} {w w' : World} {n : Nat} {r : Option Nat}

/-- What is known of the memory abides the turn of a block that is no cells and is none of the known maps, nor a mark. -/
theorem Fit.turned {row : Option Nat} (F : Fit E R s a w) (hg : w.grownBy w' row) (hr : ∀ k, row = some k → ∃ o : Obj, w.heap[k]? = some o ∧ o.isCells = false)
    (hm : ∀ i b, lk s.hp i = some b → b.isMap = true → some (R.ρ i) ≠ row) (hd : ∀ x ∈ a.defers, ∀ k, x.target = .collected k → some k ≠ row) (he : ∀ k, row = some k → E.W.heap.size ≤ k) : Fit E R s a w' where
  ok := F.ok
  nt := F.nt
  tm := F.tm
  hp := ⟨fun i c hc => by
    have hB := F.hp.blk i c hc
    refine hB.of_block (hg.block _ hB.lt ?_)
    intro e
    obtain ⟨o, ho, hcells⟩ := hr _ e.symm
    cases c with
    | ro cs => obtain ⟨c, t, z, h1, _⟩ := hB; rw [ho] at h1; injection h1 with h1; subst h1; cases hcells
    | own cs => obtain ⟨c, t, h1, _⟩ := hB; rw [ho] at h1; injection h1 with h1; subst h1; cases hcells
    | row e z cs => obtain ⟨c, h1, _⟩ := hB; rw [ho] at h1; injection h1 with h1; subst h1; cases hcells
    | mp m => exact hm i _ hc rfl e
    | mi I => exact hm i _ hc rfl e, F.hp.inj⟩
  old := F.old
  wr := F.wr
  nx := F.nx
  nk := F.nk
  kk := F.kk
  fr := ⟨hg.os.trans F.fr.os, hg.tape.trans F.fr.tape, hg.output.trans F.fr.output, Nat.le_trans F.fr.size hg.size, fun k hk hn =>
    (hg.block k (Nat.lt_of_lt_of_le hk F.fr.size) (fun e => by have := he k e.symm; omega)).trans (F.fr.block k hk hn)⟩
  df := by
    obtain ⟨ds, h1, hnd, h2⟩ := F.df
    refine ⟨ds, h1, hnd, fun d hd' => ⟨(h2 d hd').1, (hg.block d (Array.getElem?_eq_some_iff.1 (h2 d hd').2).1 ?_).trans (h2 d hd').2⟩⟩
    exact hd ⟨.collected d, #[]⟩ (by rw [h1]; exact List.mem_map.2 ⟨d, hd', rfl⟩) d rfl
  wf := F.wf

theorem size_foldl_set1 (t : Array Value) (p : Nat) (v : Value) : (((#[p]).zip #[v]).foldl (fun t (x : Nat × Value) => t.setIfInBounds x.1 x.2) t) = t.setIfInBounds p v := by
  simp

/-- A loop over a function: hs pre g is the memory behind the elements pre, g such that inv pre g. -/
theorem Tr.rangeX {α X : Type} {val : α → Value} (abs : α → AV) (hval : ∀ x R, conV R (abs x) (val x)) (hvl : ∀ x n, (abs x).lt n) {f : Operand} {p d id0 : Nat} {ops : Array Oper} {body : Code} {Q : Exit → AS → Prop} {tm : List (Nat × AV)} {hp : List (Nat × ABlk)} {nx nt k0 : Nat} (hT : TOk P T) {gf : FuncId} {caps : List Nat} (hf : ev ⟨tm, hp, nx, nt, k0⟩ f = some (.c (.fn gf [] caps))) (xs : List α)
    (hp0 : List (Nat × ABlk)) (it : FIterV val P gf caps hp0 xs) (hit : givH hp hp0) (hro : allRo hp0 = true) (hs : List α → X → List (Nat × ABlk)) (inv : List α → X → Prop) (g0 : X) (N : Nat) (hN : nx ≤ N ∧ N ≤ GB) (hi0 : inv [] g0) (h0 : givH hp (hs [] g0)) (hlt : ∀ pre g, (∀ y ∈ pre, y ∈ xs) → inv pre g → hpLt N (hs pre g))
    (hmp : ∀ pre g, (∀ y ∈ pre, y ∈ xs) → inv pre g → mpIn hp (hs pre g) ∧ keepOk (hs pre g) hp0) (hfl : flatC body = true) {ty pos} (hops : ops = #[⟨some d, .assign (.tmp p), ty, pos, #[], none⟩]) (hpd : p < nt ∧ d < nt)
    (round : ∀ pre g x, (∀ y ∈ pre, y ∈ xs) → inv pre g → x ∈ xs → pre.length < xs.length → wpC P T md body ⟨(d, abs x) :: (p, abs x) :: tm, hs pre g, N, nt, nx⟩ (roundA ⟨tm, hp, nx, nt, k0⟩ (inv (pre ++ [x])) (hs (pre ++ [x])) (pre ++ [x] <+: xs) Q))
    (fin : ∀ g, inv xs g → Q .normal ⟨tm, hs xs g, N, nt, k0⟩) : Tr P (.rangeFunc f #[p] (.region id0 ops false) body) ⟨tm, hp, nx, nt, k0⟩ Q := Tr.intro fun E R a w n r F ht => by
  obtain ⟨rfl, hn⟩ : r = none ∧ 3 ≤ n := ht.elim id fun h => by simp [flatC] at h
  have hkn : E.k ≤ nx := F.nk.1
  have hmem : ∀ (pre : List { x : α // x ∈ xs }), ∀ y ∈ pre.map Subtype.val, y ∈ xs := fun pre y hy => by
    obtain ⟨z, _, rfl⟩ := List.mem_map.1 hy; exact z.2
  -- the iterator's value
  have hev : a.eval f = .func (.func gf) #[] (caps.map R.p0).toArray := by
    have := (ev_sound F hf).1
    simpa [conV, conC] using this
  have H0 : HRel R hp0 w := ⟨fun i b hb => by
      obtain ⟨b', h1, h2⟩ := givH_get hit i b hb
      exact h2.rel (F.hp.blk _ _ h1), fun i j b c hi _ _ hw => by rw [allRo_sound hro i b hi] at hw; cases hw⟩
  -- a mark lies ahead of the loop
  have hmark : ∀ x ∈ a.defers, ∀ k, x.target = .collected k → k < w.heap.size := by
    intro x hx k e
    obtain ⟨ds, k1, k2, k3⟩ := F.df
    rw [k1] at hx
    obtain ⟨d', hd', rfl⟩ := List.mem_map.1 hx
    injection e with e
    subst e
    exact (Array.getElem?_eq_some_iff.1 (k3 _ hd').2).1
  -- what a state behind the loop's head owes
  let G : World → AS → Prop := fun W S => ∃ R', Fit E R' S a W ∧ (∀ i, idOk nx i → R'.ρ i = R.ρ i ∧ R'.δ i = R.δ i ∧ R'.κ i = R.κ i) ∧ w.heap.size ≤ W.heap.size
  have own : ∀ S, mpIn hp S.hp → OwnFrom w.heap.size (fun (_ : Unit) W => G W S) := by
    intro S hm _ W W' row ⟨R', F', hag, hsz⟩ hg hr
    refine ⟨R', F'.turned hg (fun k e => (hr k e).2) (fun i m hi hm2 e => ?_) (fun x hx k e e2 => ?_) (fun k e => Nat.le_trans F.fr.size (hr k e).1), hag, Nat.le_trans hsz hg.size⟩
    · obtain ⟨m', hm'⟩ := mpIn_get hm i m hi hm2
      have h1 := (F.hp.blk i _ hm').lt
      rw [← (hag i (F.wf.hp i _ hm').1).1] at h1
      have := (hr _ e.symm).1; omega
    · have h1 := hmark x hx k e
      have := (hr _ e2.symm).1; omega
  let I : List { x : α // x ∈ xs } → World → Prop := fun pre W => ∃ g, inv (pre.map Subtype.val) g ∧ G W ⟨tm, hs (pre.map Subtype.val) g, N, nt, k0⟩
  let Ix : Code → List { x : α // x ∈ xs } → World → Prop := fun c pre W => pre.map Subtype.val <+: xs → (∃ i S, c = .exit i ∧ mpIn hp S.hp ∧ Q (.exit i) S ∧ G W S) ∨ (∃ S, c = .ret ∧ mpIn hp S.hp ∧ Q .ret S ∧ G W S)
  have F0 : Fit E R ⟨tm, hs [] g0, N, nt, k0⟩ a w := by
    have F1 : Fit E R ⟨tm, hp, N, nt, k0⟩ a w := F.ren (R' := R) (m := N) (Agree.refl _ _) F.ok hN.1 hN.2
    exact F1.gives (hp' := hs [] g0) (givH_get h0)
  -- with the mark
  have marked : ∀ (D : Nat) (S : AS) (W : World), w.heap.size ≤ D → W.heap[D]? = some (.deferred (some [])) → G W S → ∃ R', Fit E R' S { a with defers := { target := .collected D, args := #[] } :: a.defers } W := by
    rintro D S W hD hW ⟨R', F', hag, hsz⟩
    refine ⟨R', { F' with df := ?_ }⟩
    obtain ⟨ds, k1, k2, k3⟩ := F'.df
    refine ⟨D :: ds, by simp [k1], List.nodup_cons.2 ⟨fun hm => ?_, k2⟩, fun d' hd' => ?_⟩
    · have := hmark ⟨.collected D, #[]⟩ (by rw [k1]; exact List.mem_map.2 ⟨D, hm, rfl⟩) D rfl; omega
    · rcases List.mem_cons.1 hd' with e | hd'
      · subst e; exact ⟨.inr (Nat.le_trans F.fr.size hD), hW⟩
      · exact k3 d' hd'
  refine wpIn_rangeFunc_ownG (α := { x : α // x ∈ xs }) rfl (by omega) hev trivial it.1 (it.2 R w (n - 1) F.ok (by omega) H0) (fun h1 h2 i b hb => (h2 i b hb).trans (h1 i b hb)) (fun W l o o' hl _ _ _ i b hb => World.putObj_heap_other (by have := (H0.blk i b hb).lt; omega)) (Below.refl _ _) (fun _ => rfl) I Ix ?_ ?_ ⟨g0, hi0, R, F0, fun i _ => ⟨rfl, rfl, rfl⟩, Nat.le_refl _⟩
    (fun x => { tmps := (a.tmps.setIfInBounds p (val x.1)).setIfInBounds d (val x.1), defers := [] }) ?_ ?_ ?_ ?_
  · rintro pre W W' row ⟨g, hinv, hI⟩ hg hr
    exact ⟨g, hinv, own _ (hmp _ g (hmem pre) hinv).1 () W W' row hI hg hr⟩
  · intro c pre W W' row hI hg hr hpre
    rcases hI hpre with ⟨i, S, h1, h2, h4, h5⟩ | ⟨S, h1, h2, h4, h5⟩
    · exact .inl ⟨i, S, h1, h2, h4, own _ h2 () W W' row h5 hg hr⟩
    · exact .inr ⟨S, h1, h2, h4, own _ h2 () W W' row h5 hg hr⟩
  · -- the variable is set
    intro l x W K hK
    refine wpIn_region ?_
    subst hops
    have hpn : p < a.tmps.size := by rw [F.nt]; exact hpd.1
    show wpOpsIn _ _ P _ _ [0] _ W
    simp only [wpOpsIn]
    simp [Region.wanted, Oper.wpIn, Oper.semAt, Oper.about, execOp, Oper.uponIn, Act.eval, Act.put, Exit.then, hpn]
    exact hK
  · -- a round
    rintro l pre x W ⟨g, hinv, R', F', hag, hsz⟩ hlen
    obtain ⟨E', hE'⟩ : ∃ E' : Env, E' = ⟨W, R', nx, locM R' (hs (pre.map Subtype.val) g) { tmps := #[], defers := [] }⟩ := ⟨_, rfl⟩
    have htm0 : ∀ t v, lk tm t = some v → v.lt nx := F.wf.tm
    have Fa : Fit E' R' ⟨(d, abs x.1) :: (p, abs x.1) :: tm, hs (pre.map Subtype.val) g, N, nt, nx⟩ { tmps := (a.tmps.setIfInBounds p (val x.1)).setIfInBounds d (val x.1), defers := [] } W := by
      have base : Fit E' R' ⟨tm, hs (pre.map Subtype.val) g, N, nt, nx⟩ { tmps := a.tmps, defers := [] } W := by
        subst hE'
        exact {
          ok := F'.ok
          nt := F'.nt
          tm := F'.tm
          hp := F'.hp
          old := fun _ _ => ⟨rfl, rfl, rfl⟩
          wr := fun i c hc hw => .inl (.inl ⟨i, c, hc, hw, rfl⟩)
          nx := F'.nx
          nk := ⟨hN.1, hN.2⟩
          kk := rfl
          fr := Fr.refl _ _
          df := ⟨[], rfl, List.nodup_nil, fun d hd => (List.not_mem_nil hd).elim⟩
          wf := ⟨F'.wf.tm, F'.wf.hp⟩ }
      have s1 := base.put (d := p) (v := abs x.1) (u := val x.1) hpd.1 (hval _ _) (hvl _ _)
      exact s1.put (d := d) (v := abs x.1) (u := val x.1) hpd.2 (hval _ _) (hvl _ _)
    have key := (wpC_sound hT body _ _ (round (pre.map Subtype.val) g x.1 (hmem pre) hinv x.2 (by simpa using hlen))).elim (n := n - 1 - 1) (r := some l) Fa (.inr hfl)
    refine wpIn_mono key ?_
    rintro e a' W' ⟨R2, s', hq, F2⟩
    -- the frame
    have hfr : Fr E'.M W W' := by have := F2.fr; rw [hE'] at this ⊢; exact this
    have hM : ∀ j, E'.M j → ∃ i c, lk (hs (pre.map Subtype.val) g) i = some c ∧ c.wr = true ∧ R'.ρ i = j := by
      intro j hj
      rw [hE'] at hj
      rcases hj with h | ⟨x, hx, _⟩
      · exact h
      · cases hx
    have hsz2 : W.heap.size ≤ W'.heap.size := hfr.size
    have keeps : KeepsFrom w.heap.size W W' := ⟨hsz2, fun k o hk ho hc => by
      refine (hfr.block k (Array.getElem?_eq_some_iff.1 ho).1 ?_).trans ho
      intro hm
      obtain ⟨i, c, h1, h2, h3⟩ := hM k hm
      have hB := F'.hp.blk i c h1
      subst h3
      cases c with
      | ro cs => cases h2
      | own cs => obtain ⟨c, t, h4, _⟩ := hB; rw [ho] at h4; injection h4 with h4; subst h4; cases hc
      | row e z cs => obtain ⟨c, h4, _⟩ := hB; rw [ho] at h4; injection h4 with h4; subst h4; cases hc
      | mp m =>
        obtain ⟨m', hm'⟩ := mpIn_get (hmp _ g (hmem pre) hinv).1 i _ h1 rfl
        have h5 := (F.hp.blk i _ hm').lt
        rw [← (hag i (F.wf.hp i _ hm').1).1] at h5
        omega
      | mi I =>
        obtain ⟨m', hm'⟩ := mpIn_get (hmp _ g (hmem pre) hinv).1 i _ h1 rfl
        have h5 := (F.hp.blk i _ hm').lt
        rw [← (hag i (F.wf.hp i _ hm').1).1] at h5
        omega⟩
    -- what holds of the entry's state with any memory that the round has left
    have hold : ∀ i, i < nx → R2.ρ i = R'.ρ i ∧ R2.δ i = R'.δ i ∧ R2.κ i = R'.κ i := by
      intro i hi
      have := F2.old i (by rw [hE']; exact hi)
      rw [hE'] at this; exact this
    have back : ∀ (l' : List (Nat × Nat)) (hp' : List (Nat × ABlk)) (N' : Nat), (∀ q ∈ l', nx ≤ q.1 ∧ q.1 < GB) → hpAll s'.hp (rn l') hp' → (hp'.map fun q => rn l' q.1).Nodup → hpLt N' hp' → nx ≤ N' ∧ N' ≤ GB → G W' ⟨tm, hp', N', nt, k0⟩ := by
      intro l' hp' N' hl' hall hnd hlt' hN'
      have rnlow : ∀ i, i < nx → rn l' i = i := fun i hi => by
        unfold rn; rw [lk_none_lt fun q hq => by have := (hl' q hq).1; omega]; rfl
      have rnG : ∀ i, rn l' (GB + i) = GB + i := fun i => by
        unfold rn; rw [lk_none_lt fun q hq => by have := (hl' q hq).2; omega]; rfl
      have ok3 : (R2.comp (rn l')).ok := ⟨fun i => by simp [Ren.comp, rnG, F2.ok.g], fun i => by simp [Ren.comp, rnG, F2.ok.d], fun i => by simp [Ren.comp, rnG, F2.ok.c]⟩
      have ag3 : ∀ i, idOk nx i → (R2.comp (rn l')).ρ i = R'.ρ i ∧ (R2.comp (rn l')).δ i = R'.δ i ∧ (R2.comp (rn l')).κ i = R'.κ i := by
        intro i hi
        rcases hi with hi | hi
        · simp only [Ren.comp, rnlow i hi]; exact hold i hi
        · obtain ⟨j, rfl⟩ := Nat.exists_eq_add_of_le hi
          simp only [Ren.comp, rnG, F2.ok.g, F2.ok.d, F2.ok.c, F'.ok.g, F'.ok.d, F'.ok.c, and_self]
      refine ⟨R2.comp (rn l'), {
        ok := ok3
        nt := F'.nt
        tm := fun t v h => by
          obtain ⟨u, hu, hc⟩ := F'.tm t v h
          exact ⟨u, hu, hc.agree ag3 (htm0 t v h)⟩
        hp := ⟨fun i b hb => BRel_ren.1 (F2.hp.blk _ _ (hpAll_get hall hb)), fun i j b c hi hj hne hw =>
          F2.hp.inj _ _ _ _ (hpAll_get hall hi) (hpAll_get hall hj) (nodup_inj hnd hi hj hne) (by rw [ABlk.ren_wr]; exact hw)⟩
        old := fun i hi => by
          obtain ⟨x1, x2, x3⟩ := ag3 i (.inl (Nat.lt_of_lt_of_le hi hkn))
          obtain ⟨y1, y2, y3⟩ := F'.old i hi
          exact ⟨x1.trans y1, x2.trans y2, x3.trans y3⟩
        wr := fun i b hb hw => by
          have := F2.wr _ _ (hpAll_get hall hb) (by rw [ABlk.ren_wr]; exact hw)
          rcases this with h | h
          · obtain ⟨i0, c0, h1, h2, h3⟩ := hM _ h
            show E.M (R2.ρ (rn l' i)) ∨ E.W.heap.size ≤ R2.ρ (rn l' i)
            rw [← h3]; exact F'.wr i0 c0 h1 h2
          · rw [hE'] at h; exact .inr (Nat.le_trans (Nat.le_trans F.fr.size hsz) h)
        nx := fun i b hb => (hpLt_get hlt' hb).1
        nk := ⟨Nat.le_trans hkn hN'.1, hN'.2⟩
        kk := F.kk
        fr := F'.fr.trans hfr (fun j hj => by obtain ⟨i0, c0, h1, h2, h3⟩ := hM j hj; rw [← h3]; exact F'.wr i0 c0 h1 h2)
        df := by
          obtain ⟨ds, k1, k2, k3⟩ := F'.df
          refine ⟨ds, k1, k2, fun d' hd' => ⟨(k3 d' hd').1, (hfr.block d' (Array.getElem?_eq_some_iff.1 (k3 d' hd').2).1 ?_).trans (k3 d' hd').2⟩⟩
          intro hm
          obtain ⟨i0, c0, h1, h2, h3⟩ := hM _ hm
          exact (F'.hp.blk i0 c0 h1).not_deferred _ (h3 ▸ (k3 d' hd').2)
        wf := ⟨fun t v h => (htm0 t v h).mono hN'.1, fun i b hb => hpLt_get hlt' hb⟩ }, ?_, Nat.le_trans hsz hsz2⟩
      intro i hi
      obtain ⟨x1, x2, x3⟩ := ag3 i hi
      obtain ⟨y1, y2, y3⟩ := hag i hi
      exact ⟨x1.trans y1, x2.trans y2, x3.trans y3⟩
    -- the memory as the round has left it, without other numbers
    have backId : G W' ⟨tm, s'.hp, s'.nx, nt, k0⟩ := by
      refine ⟨R2, {
        ok := F2.ok
        nt := F'.nt
        tm := fun t v h => by
          obtain ⟨u, hu, hc⟩ := F'.tm t v h
          refine ⟨u, hu, hc.agree (fun i hi => ?_) (htm0 t v h)⟩
          rcases hi with hi | hi
          · exact hold i hi
          · obtain ⟨j, rfl⟩ := Nat.exists_eq_add_of_le hi
            simp only [F2.ok.g, F2.ok.d, F2.ok.c, F'.ok.g, F'.ok.d, F'.ok.c, and_self]
        hp := F2.hp
        old := fun i hi => by
          obtain ⟨x1, x2, x3⟩ := hold i (Nat.lt_of_lt_of_le hi hkn)
          obtain ⟨y1, y2, y3⟩ := F'.old i hi
          exact ⟨x1.trans y1, x2.trans y2, x3.trans y3⟩
        wr := fun i b hb hw => by
          rcases F2.wr i b hb hw with h | h
          · obtain ⟨i0, c0, h1, h2, h3⟩ := hM _ h
            rw [← h3]; exact F'.wr i0 c0 h1 h2
          · rw [hE'] at h; exact .inr (Nat.le_trans (Nat.le_trans F.fr.size hsz) h)
        nx := F2.nx
        nk := ⟨by have := F2.nk.1; rw [hE'] at this; exact Nat.le_trans hkn this, F2.nk.2⟩
        kk := F.kk
        fr := F'.fr.trans hfr (fun j hj => by obtain ⟨i0, c0, h1, h2, h3⟩ := hM j hj; rw [← h3]; exact F'.wr i0 c0 h1 h2)
        df := by
          obtain ⟨ds, k1, k2, k3⟩ := F'.df
          refine ⟨ds, k1, k2, fun d' hd' => ⟨(k3 d' hd').1, (hfr.block d' (Array.getElem?_eq_some_iff.1 (k3 d' hd').2).1 ?_).trans (k3 d' hd').2⟩⟩
          intro hm
          obtain ⟨i0, c0, h1, h2, h3⟩ := hM _ hm
          exact (F'.hp.blk i0 c0 h1).not_deferred _ (h3 ▸ (k3 d' hd').2)
        wf := ⟨fun t v h => (htm0 t v h).mono (by have := F2.nk.1; rw [hE'] at this; exact this), F2.wf.hp⟩ }, ?_, Nat.le_trans hsz hsz2⟩
      intro i hi
      obtain ⟨y1, y2, y3⟩ := hag i hi
      rcases hi with hi | hi
      · obtain ⟨x1, x2, x3⟩ := hold i hi
        exact ⟨x1.trans y1, x2.trans y2, x3.trans y3⟩
      · obtain ⟨j, rfl⟩ := Nat.exists_eq_add_of_le hi
        simp only [F2.ok.g, F2.ok.d, F2.ok.c, F.ok.g, F.ok.d, F.ok.c, and_self]
    have hmap : (pre ++ [x]).map Subtype.val = pre.map Subtype.val ++ [x.1] := by simp
    cases e with
    | normal =>
      obtain ⟨g', hinv', hq⟩ := hq
      obtain ⟨l', hre⟩ := RoundOk.elim hq
      refine ⟨keeps, ?_, ?_⟩
      · intro i b hb
        obtain ⟨cs, hcs⟩ := keepOk_get (hmp _ g (hmem pre) hinv).2 i b hb
        obtain ⟨b', h1, _⟩ := givH_get hit i b hb
        have hρ := (hag i (F.wf.hp i _ h1).1).1
        rw [← hρ]
        refine hfr.block _ (F'.hp.blk i _ hcs).lt ?_
        intro hm
        obtain ⟨j, c, h2, h3, h4⟩ := hM _ hm
        refine F'.hp.inj j i c _ h2 hcs ?_ h3 h4
        intro e; subst e
        rw [show lk (hs (pre.map Subtype.val) g) j = some (.ro cs) from hcs] at h2
        injection h2 with h2; subst h2; cases h3
      show ∃ g, inv ((pre ++ [x]).map Subtype.val) g ∧ G W' ⟨tm, hs ((pre ++ [x]).map Subtype.val) g, N, nt, k0⟩
      have := hlt _ g' (hmem (pre ++ [x]))
      rw [hmap] at this ⊢
      exact ⟨g', hinv', back l' _ N hre.fix hre.hp hre.inj (this hinv') hN⟩
    | exit i =>
      refine ⟨keeps, fun hpre => .inl ?_⟩
      rw [hmap] at hpre
      obtain ⟨h1, h2⟩ := hq hpre
      exact ⟨i, ⟨tm, s'.hp, s'.nx, nt, k0⟩, rfl, h1, h2, backId⟩
    | ret =>
      refine ⟨keeps, fun hpre => .inr ?_⟩
      rw [hmap] at hpre
      obtain ⟨h1, h2⟩ := hq hpre
      exact ⟨⟨tm, s'.hp, s'.nx, nt, k0⟩, rfl, h1, h2, backId⟩
    | goto t => exact hq.elim
    | panic c => exact hq.elim
    | outgrown => exact hq.elim
  · intro D ys W hD hys hI hW
    obtain ⟨g, hinv, hI⟩ := hI
    obtain ⟨R', F'⟩ := marked D _ W hD hW hI
    have hys : ys.map Subtype.val = xs := hys
    rw [hys] at F' hinv
    exact ⟨R', _, fin g hinv, F'⟩
  · intro D c pre W hD hpre hI hW
    rcases hI hpre with ⟨i, S, rfl, h2, h4, h5⟩ | ⟨S, rfl, h2, h4, h5⟩
    · obtain ⟨R', F'⟩ := marked D S W hD hW h5
      exact wpIn_exit ⟨R', S, h4, F'⟩
    · obtain ⟨R', F'⟩ := marked D S W hD hW h5
      exact wpIn_ret ⟨R', S, h4, F'⟩
#print axioms Tr.rangeX
theorem Tr.range {f : Operand} {p d id0 : Nat} {ops : Array Oper} {body : Code} {Q : Exit → AS → Prop} {tm : List (Nat × AV)} {hp : List (Nat × ABlk)} {nx nt k0 : Nat} (hT : TOk P T) {gf : FuncId} {caps : List Nat} (hf : ev ⟨tm, hp, nx, nt, k0⟩ f = some (.c (.fn gf [] caps))) (xs : List Int)
    (hp0 : List (Nat × ABlk)) (it : FIter P gf caps hp0 xs) (hit : givH hp hp0) (hro : allRo hp0 = true) (hs : List Int → List (Nat × ABlk)) (inv : List Int → Prop) (N : Nat) (hN : nx ≤ N ∧ N ≤ GB) (hi0 : inv []) (h0 : givH hp (hs [])) (hlt : ∀ pre, (∀ y ∈ pre, y ∈ xs) → hpLt N (hs pre))
    (hmp : ∀ pre, (∀ y ∈ pre, y ∈ xs) → mpIn hp (hs pre) ∧ keepOk (hs pre) hp0) (hfl : flatC body = true) {ty pos} (hops : ops = #[⟨some d, .assign (.tmp p), ty, pos, #[], none⟩]) (hpd : p < nt ∧ d < nt)
    (round : ∀ pre x, (∀ y ∈ pre, y ∈ xs) → inv pre → x ∈ xs → pre.length < xs.length → wpC P T md body ⟨(d, .c (.int .i64 x)) :: (p, .c (.int .i64 x)) :: tm, hs pre, N, nt, nx⟩ (roundA (X := Unit) ⟨tm, hp, nx, nt, k0⟩ (fun _ => inv (pre ++ [x])) (fun _ => hs (pre ++ [x])) (pre ++ [x] <+: xs) Q))
    (fin : inv xs → Q .normal ⟨tm, hs xs, N, nt, k0⟩) : Tr P (.rangeFunc f #[p] (.region id0 ops false) body) ⟨tm, hp, nx, nt, k0⟩ Q :=
  Tr.rangeX (X := Unit) (fun x => .c (.int .i64 x)) (fun _ _ => rfl) (fun _ _ => trivial) hT hf xs hp0 it hit hro (fun p _ => hs p) (fun p _ => inv p) () N hN hi0 h0 (fun pre _ h _ => hlt pre h) (fun pre _ h _ => hmp pre h) hfl hops hpd (fun pre _ x h1 h2 h3 h4 => round pre x h1 h2 h3 h4) (fun _ h => fin h)
end Go.AH
