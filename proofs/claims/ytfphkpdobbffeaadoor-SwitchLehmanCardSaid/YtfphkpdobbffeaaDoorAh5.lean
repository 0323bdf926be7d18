/-
  Loops over functions.
-/
import Derived.Test.YtfphkpdobbffeaaDoorAh4
set_option linter.unusedSimpArgs false
set_option linter.unusedVariables false
namespace Go.AH
open Go.RowKit

/-- What an iterator does, where what a round keeps may rest on the place of the loop's record. -/
def SeqL {α : Type} (n : Nat) (P : Program) (g : Nat) (lb : Array Value) (enc : α → Value) (Kp : Nat → World → World → Prop) (S Sp : List α → Prop) (N : Nat) (w : World) : Prop :=
  ∀ (l : Nat) (J Jx : List α → World → Prop) (W : World), Below w.heap.size w W → l < W.heap.size → OwnFrom W.heap.size J → OwnFrom W.heap.size Jx →
    (∀ pre x W1, J pre W1 → pre.length < N → YieldAt (FW none) (n - 1) P l #[enc x] W1 fun e W' =>
      (e = .returned (.bool true) ∧ J (pre ++ [x]) W' ∧ Kp l W1 W') ∨ (e = .returned (.bool false) ∧ Jx (pre ++ [x]) W' ∧ ∀ k ds, k ≠ l → w.heap.size ≤ k → W1.heap[k]? = some (.deferred ds) → W'.heap[k]? = some (.deferred ds))) →
    J [] W →
    CallsIn (FW none) n P g (#[.func (.yield l) #[] #[]] ++ lb) W fun e W' => (∃ v, e = .returned v) ∧ ((∃ xs, S xs ∧ J xs W') ∨ (∃ pre, Sp pre ∧ Jx pre W'))
theorem own_abides {β : Type} {B : Nat} {J : β → World → Prop} (h : OwnFrom B J) : AbidesFrom B J := fun s W W' row hs hg hr =>
  h s W W' row hs hg fun r e => ⟨(hr r e).1, by obtain ⟨_, o, h1, h2⟩ := hr r e; exact ⟨o, h1, Obj.not_cells_of_walk h2⟩⟩
/-- A loop over such an iterator, outside every round. -/
theorem wpIn_rangeL {α : Type} {P : Program} {g : Operand} {p : Tmp} {assign body : Code} {Q : Exit → Act → World → Prop} {a : Act} {w : World} {n : Nat}
    (h1 : 1 ≤ n) {gf : Nat} {lb : Array Value} (hg : a.eval g = .func (.func gf) #[] lb) (eg : ∀ args w, (callFunc gf args).run P w = .ok (.enter gf args) w)
    {enc : α → Value} {Kp : Nat → World → World → Prop} {S Sp : List α → Prop} {N : Nat} (hseq : SeqL (n - 1) P gf lb enc Kp S Sp N w)
    (hKt : ∀ {l : Nat} {A B C : World}, Kp l A B → Kp l B C → Kp l A C) (hKb : ∀ (l : Nat) (W : World) (o : Obj), w.heap.size < l → Kp l W (W.putObj l o))
    (I : List α → World → Prop) (Ix : Code → List α → World → Prop) (hI : OwnFrom w.heap.size I) (hIx : ∀ c, OwnFrom w.heap.size (Ix c)) (h0 : I [] w) (a₁ : α → Act)
    (hassign : ∀ (l : Nat) (x : α) (W : World) (K : Act → World → Prop), K (a₁ x) W →
      assign.wpIn (FW (some l)) (n - 1 - 1) P (Exit.then K (fun _ _ _ => False)) { tmps := a.tmps.setIfInBounds p (enc x), defers := [] } W)
    (hbody : ∀ (l : Nat) (pre : List α) (x : α) (W : World), w.heap.size < l → I pre W → pre.length < N → body.wpIn (FW (some l)) (n - 1 - 1) P (ownPostG w.heap.size (Kp l) I Ix (pre ++ [x]) W) (a₁ x) W)
    (hdone : ∀ (D : Nat) (xs : List α) (W : World), w.heap.size ≤ D → S xs → I xs W → W.heap[D]? = some (.deferred (some [])) → Q .normal { a with defers := { target := .collected D, args := #[] } :: a.defers } W)
    (hstop : ∀ (D : Nat) (c : Code) (pre : List α) (W : World), w.heap.size ≤ D → Sp pre → Ix c pre W → W.heap[D]? = some (.deferred (some [])) → c.wpIn (FW none) n P Q { a with defers := { target := .collected D, args := #[] } :: a.defers } W) :
    (Code.rangeFunc g #[p] assign body).wpIn (FW none) n P Q a w := by
  refine wpIn_rangeFunc fun fn hfn => ?_
  let D := w.heap.size
  let rec0 : LoopState → Option Code → Loop := fun st pe => { state := st, pending := pe, fn := fn, tmps := a.tmps, params := #[p], assign := assign, body := body, defers := D }
  let W1 := (w.alloc (.deferred (some []))).alloc (.loop (rec0 .ready none))
  have sz : (w.alloc (.deferred (some []))).heap.size = D + 1 := by simp [D]
  have L1 : W1.heap[D + 1]? = some (.loop (rec0 .ready none)) := by
    have := World.alloc_heap_new (w.alloc (.deferred (some []))) (.loop (rec0 .ready none))
    rwa [sz] at this
  have K1 : W1.heap[D]? = some (.deferred (some [])) := (Below.heap_alloc _ _ _ (by omega)).trans (World.alloc_heap_new w _)
  have B1 : Below w.heap.size w W1 := (((Below.refl _ w).alloc (Nat.le_refl _) _).alloc (by simp) _)
  have szW : D + 1 < W1.heap.size := (Array.getElem?_eq_some_iff.1 L1).1
  have nw : ∀ {A : World} {row : Option Nat}, (∀ r, row = some r → W1.heap.size ≤ r ∧ ∃ o : Obj, A.heap[r]? = some o ∧ o.isCells = false) → ∀ r, row = some r → w.heap.size ≤ r ∧ ∃ o : Obj, A.heap[r]? = some o ∧ o.isCells = false :=
    fun h r e => ⟨by have := (h r e).1; show D ≤ r; omega, (h r e).2⟩
  have stay : ∀ {A B : World} {row : Option Nat} {k : Nat} {o : Obj}, A.grownBy B row → (∀ r, row = some r → W1.heap.size ≤ r ∧ ∃ o : Obj, A.heap[r]? = some o ∧ o.isCells = false) → k ≤ D + 1 → A.heap[k]? = some o → B.heap[k]? = some o :=
    fun hg hr hk1 hk => (hg.block _ (Array.getElem?_eq_some_iff.1 hk).1 (fun e => by have := (hr _ e.symm).1; omega)).trans hk
  have hrun : (Instr.enterLoop fn a.tmps #[p] assign body (FW none).round).run P w = .ok (D + 1, [{ target := .collected D, args := #[] }]) W1 := run_enterLoop_outer _ _ _ _ _
  refine ⟨D + 1, [{ target := .collected D, args := #[] }], W1, { target := .fn (.func gf) lb, args := #[.func (.yield (D + 1)) #[] #[]] }, W1, gf, #[.func (.yield (D + 1)) #[] #[]] ++ lb, W1, hrun, ?_, fun _ _ => trivial, by simp [invoke, go_sem, eg], fun _ => h1, ?_⟩
  · simp only [resolve, hg]
    simp [go_sem]
  refine (hseq (D + 1)
    (fun pre W => I pre W ∧ W.heap[D + 1]? = some (.loop (rec0 .ready none)) ∧ W.heap[D]? = some (.deferred (some [])))
    (fun pre W => ∃ c, Ix c pre W ∧ W.heap[D + 1]? = some (.loop (rec0 .done (some c))) ∧ W.heap[D]? = some (.deferred (some [])))
    W1 B1 szW
    (fun s A B row h hgr hr => ⟨hI s A B row h.1 hgr (nw hr), stay hgr hr (Nat.le_refl _) h.2.1, stay hgr hr (Nat.le_succ _) h.2.2⟩)
    (fun s A B row ⟨c, h2, h3, h4⟩ hgr hr => ⟨c, hIx c s A B row h2 hgr (nw hr), stay hgr hr (Nat.le_refl _) h3, stay hgr hr (Nat.le_succ _) h4⟩)
    (fun pre x W ⟨hi, hl, hk⟩ hlen => ?_) ⟨hI.alloc _ (hI.alloc _ h0), L1, K1⟩).mono ?_
  · -- a round
    have hlt := (Array.getElem?_eq_some_iff.1 hl).1
    refine ⟨fn, _, assign, body, run_yield hl (by simp [rec0]), roundIn_of_wpIn hfn ?_⟩
    have hz : (#[p].zip #[enc x]).foldl (fun t (q : Tmp × Value) => t.setIfInBounds q.1 q.2) a.tmps = a.tmps.setIfInBounds p (enc x) := by simp
    show assign.wpIn (FW (some (D + 1))) _ P _ { tmps := (#[p].zip #[enc x]).foldl (fun t (q : Tmp × Value) => t.setIfInBounds q.1 q.2) a.tmps, defers := [] } W
    rw [hz]
    refine hassign (D + 1) x W _ ⟨_, run_beginRound hl rfl, ?_⟩
    let W2 := W.putObj (D + 1) (.loop { rec0 .ready none with state := .busy })
    have hl2 : W2.heap[D + 1]? = some (.loop { rec0 .ready none with state := .busy }) := World.putObj_heap_same hlt
    have hk2 : W2.heap[D]? = some (.deferred (some [])) := (World.putObj_heap_other (by omega)).trans hk
    have hKp : Kp (D + 1) W W2 := hKb _ _ _ (Nat.lt_succ_self _)
    refine wpIn_mono (hbody (D + 1) pre x W2 (Nat.lt_succ_self _) (hI.putObj _ hi (Nat.le_succ _) hl rfl) hlen) ?_
    -- the round's end
    have fin : ∀ (j : Option Code) (W3 : World), KeepsFrom w.heap.size W2 W3 →
        (Instr.endRound (D + 1) j).run P W3 = .ok (.bool j.isNone) (W3.putObj (D + 1) (.loop (rec0 (if j.isNone then .ready else .done) j))) ∧
        W3.heap[D + 1]? = some (.loop { rec0 .ready none with state := .busy }) ∧
        (W3.putObj (D + 1) (.loop (rec0 (if j.isNone then .ready else .done) j))).heap[D + 1]? = some (.loop (rec0 (if j.isNone then .ready else .done) j)) ∧
        (W3.putObj (D + 1) (.loop (rec0 (if j.isNone then .ready else .done) j))).heap[D]? = some (.deferred (some [])) := fun j W3 h3 => by
      have e1 := h3.same _ _ (Nat.le_succ _) hl2 rfl
      exact ⟨run_endRound (P := P) j e1, e1, World.putObj_heap_same (Array.getElem?_eq_some_iff.1 e1).1, (World.putObj_heap_other (by omega)).trans (h3.same _ _ (Nat.le_refl _) hk2 rfl)⟩
    intro e a3 W3 hp
    have leave : ∀ (c : Code), KeepsFrom w.heap.size W2 W3 → Ix c (pre ++ [x]) W3 → ∃ v W4, (Instr.endRound (D + 1) (some c)).run P W3 = .ok v W4 ∧ (((Ending.returned v) = .returned (.bool true) ∧ (I (pre ++ [x]) W4 ∧ W4.heap[D + 1]? = some (.loop (rec0 .ready none)) ∧ W4.heap[D]? = some (.deferred (some []))) ∧ Kp (D + 1) W W4) ∨
        ((Ending.returned v) = .returned (.bool false) ∧ (∃ c, Ix c (pre ++ [x]) W4 ∧ W4.heap[D + 1]? = some (.loop (rec0 .done (some c))) ∧ W4.heap[D]? = some (.deferred (some []))) ∧ ∀ k ds, k ≠ D + 1 → w.heap.size ≤ k → W.heap[k]? = some (.deferred ds) → W4.heap[k]? = some (.deferred ds))) := fun c h3 h4 => by
      obtain ⟨g1, g2, g3, g4⟩ := fin (some c) W3 h3
      exact ⟨_, _, g1, .inr ⟨rfl, ⟨c, (hIx c).putObj _ h4 (Nat.le_succ _) g2 rfl, g3, g4⟩, fun k ds hk hw hd => (World.putObj_heap_other hk).trans (h3.same k _ hw ((World.putObj_heap_other hk).trans hd) rfl)⟩⟩
    cases e with
    | normal =>
      obtain ⟨g1, g2, g3, g4⟩ := fin none W3 hp.1
      exact ⟨_, _, g1, .inl ⟨rfl, ⟨hI.putObj _ hp.2.2 (Nat.le_succ _) g2 rfl, g3, g4⟩, hKt (hKt hKp hp.2.1) (hKb _ _ _ (Nat.lt_succ_self _))⟩⟩
    | ret => exact leave .ret hp.1 hp.2
    | exit i => exact leave (.exit i) hp.1 hp.2
    | goto t => exact leave (.goto t) hp.1 hp.2
    | panic c => exact hp.elim
    | outgrown => exact hp.elim
  · -- behind the iterator
    rintro e W2 ⟨⟨v, rfl⟩, (⟨xs, hS, hi, hl, hk⟩ | ⟨pre, hSp, c, hi, hl, hk⟩)⟩
    · exact ⟨none, _, run_endLoop (P := P) hl (by simp [rec0]), hdone _ xs _ (Nat.le_refl _) hS (hI.putObj _ hi (Nat.le_succ _) hl rfl) ((World.putObj_heap_other (by omega)).trans hk)⟩
    · exact ⟨some c, _, run_endLoop (P := P) hl (by simp [rec0]), hstop _ c pre _ (Nat.le_refl _) hSp ((hIx c).putObj _ hi (Nat.le_succ _) hl rfl) ((World.putObj_heap_other (by omega)).trans hk)⟩

/-- What an iterator does: hp0 is what it reads (numbers below k). What is laid for calls that are put off, other than the loop's own record, lies on. -/
def FIterV {α : Type} (val : α → Value) (P : Program) (gf : FuncId) (caps : List Nat) (hp0 : List (Nat × ABlk)) (xs : List α) : Prop :=
  (∀ (vs : Array Value) (w : World), (callFunc gf vs).run P w = .ok (.enter gf vs) w) ∧
  ∀ (R : Ren) (w : World) (n : Nat), R.ok → 1 ≤ n → HRel R hp0 w →
    SeqL n P gf (caps.map R.p0).toArray (fun x : { x : α // x ∈ xs } => val x.1) (fun l W W' => (∀ i b, lk hp0 i = some b → W'.heap[R.ρ i]? = W.heap[R.ρ i]?) ∧ (∀ k ds, k ≠ l → w.heap.size ≤ k → W.heap[k]? = some (.deferred ds) → W'.heap[k]? = some (.deferred ds)) ∧ W.heap.size ≤ W'.heap.size) (fun ys => ys.map Subtype.val = xs) (fun pre => pre.map Subtype.val <+: xs) xs.length w

def FIter (P : Program) (gf : FuncId) (caps : List Nat) (hp0 : List (Nat × ABlk)) (xs : List Int) : Prop := FIterV (Value.int .i64) P gf caps hp0 xs

/-- Maps that are known lay there before. -/
def ABlk.isMap : ABlk → Bool
  | .mp _ => true
  | .mi _ => true
  | .si .. => true
  | .li _ => true
  | _ => false
def mpIn (hp : List (Nat × ABlk)) : List (Nat × ABlk) → Prop
  | [] => True
  | (i, b) :: r => match b.isMap with
    | true => (match lk hp i with | some c => c.isMap = true | _ => False) ∧ mpIn hp r
    | false => mpIn hp r
theorem mpIn_get {hp : List (Nat × ABlk)} : ∀ {l : List (Nat × ABlk)}, mpIn hp l → ∀ i b, lk l i = some b → b.isMap = true → ∃ c, lk hp i = some c
  | (j, b) :: r, h, i, m, hi, hm => by
    simp only [lk] at hi
    split at hi
    · rename_i e; subst e; injection hi with hi; subst hi
      have h1 : (match lk hp j with | some c => c.isMap = true | _ => False) := by
        simp only [mpIn, hm] at h; exact h.1
      cases hq : lk hp j with
      | some c => exact ⟨c, rfl⟩
      | none => rw [hq] at h1; exact h1.elim
    · refine mpIn_get ?_ i m hi hm
      simp only [mpIn] at h
      split at h
      · exact h.2
      · exact h

def keepOk (hp : List (Nat × ABlk)) : List (Nat × ABlk) → Prop
  | [] => True
  | (i, _) :: r => (match lk hp i with | some (.ro _) => True | _ => False) ∧ keepOk hp r
theorem keepOk_get {hp : List (Nat × ABlk)} : ∀ {l : List (Nat × ABlk)}, keepOk hp l → ∀ i b, lk l i = some b → ∃ cs, lk hp i = some (.ro cs)
  | (j, c) :: r, h, i, b, hi => by
    simp only [lk] at hi
    split at hi
    · rename_i e; subst e
      have h1 := h.1
      split at h1
      · rename_i cs hm; exact ⟨cs, hm⟩
      · exact h1.elim
    · exact keepOk_get h.2 i b hi
/-- Known, or known to read. -/
def givH (hp : List (Nat × ABlk)) : List (Nat × ABlk) → Prop
  | [] => True
  | (i, b) :: r => (match lk hp i with
    | some b' => (match b with
      | .ro cs => b'.cells = some cs
      | b => b' = b)
    | none => False) ∧ givH hp r
theorem givH_get {hp : List (Nat × ABlk)} : ∀ {l : List (Nat × ABlk)}, givH hp l → ∀ i b, lk l i = some b → ∃ b', lk hp i = some b' ∧ Gives b' b
  | (j, c) :: r, h, i, b, hb => by
    simp only [lk] at hb
    split at hb
    · rename_i e; subst e; injection hb with hb; subst hb
      have h2 := h.1
      cases hq : lk hp j with
      | none => rw [hq] at h2; exact h2.elim
      | some b' =>
        rw [hq] at h2
        refine ⟨b', rfl, ?_⟩
        cases c with
        | ro cs => exact .inr ⟨_, _, rfl, h2, .inl rfl⟩
        | own cs => exact .inl h2
        | row e z cs => exact .inl h2
        | mp m => exact .inl h2
        | mi I => exact .inl h2
        | si s p => exact .inl h2
        | li I => exact .inl h2
    · exact givH_get h.2 i b hb
theorem Gives.wr {b' b : ABlk} (h : Gives b' b) (hw : b.wr = true) : b'.wr = true := by rw [h.eq hw]; exact hw
theorem Gives.lt {b' b : ABlk} {n : Nat} (h : Gives b' b) (hl : b'.lt n) : b.lt n := by
  rcases h with e | ⟨cs, cs', e, hc, he⟩
  · exact e ▸ hl
  · subst e
    have h2 : LL n cs' := ABlk.lt_cells hl hc
    rcases he with rfl | rfl
    · exact h2
    · exact fun x hx => absurd hx List.not_mem_nil
/-- What is known may be known to read alone. -/
theorem Fit.gives {E : Env} {R : Ren} {s : AS} {a : Act} {w : World} {hp' : List (Nat × ABlk)} (h : Fit E R s a w) (he : ∀ i b, lk hp' i = some b → ∃ b', lk s.hp i = some b' ∧ Gives b' b) : Fit E R { s with hp := hp' } a w where
  ok := h.ok
  nt := h.nt
  tm := h.tm
  hp := ⟨fun id b hb => by obtain ⟨b', h1, h2⟩ := he id b hb; exact h2.rel (h.hp.blk id b' h1), fun i j b c hi hj hne hw => by
    obtain ⟨b', h1, h2⟩ := he i b hi
    obtain ⟨c', h3, h4⟩ := he j c hj
    exact h.hp.inj i j b' c' h1 h3 hne (h2.wr hw)⟩
  old := h.old
  wr := fun id b hb hw => by obtain ⟨b', h1, h2⟩ := he id b hb; exact h.wr id b' h1 (h2.wr hw)
  nx := fun id b hb => by obtain ⟨b', h1, h2⟩ := he id b hb; exact h.nx id b' h1
  nk := h.nk
  kk := h.kk
  fr := h.fr
  df := h.df
  wf := ⟨h.wf.tm, fun i b hb => by obtain ⟨b', h1, h2⟩ := he i b hb; exact ⟨(h.wf.hp i b' h1).1, h2.lt (h.wf.hp i b' h1).2⟩⟩

/-- The end of a round: what is known of the memory then. -/
structure RoundEnd (k : Nat) (hp hp' : List (Nat × ABlk)) (l : List (Nat × Nat)) : Prop where
  fix : ∀ p ∈ l, k ≤ p.1 ∧ p.1 < GB
  hp : hpAll hp (rn l) hp'
  inj : (hp'.map fun p => rn l p.1).Nodup

def RoundOk (k : Nat) (s : AS) (hp' : List (Nat × ABlk)) : Prop := ∃ l, RoundEnd k s.hp hp' l
theorem RoundOk.mk {k : Nat} {s : AS} {hp' : List (Nat × ABlk)} (l : List (Nat × Nat)) (h : RoundEnd k s.hp hp' l) : RoundOk k s hp' := ⟨l, h⟩
theorem RoundOk.nil {k : Nat} {s : AS} {hp' : List (Nat × ABlk)} (h : eqH s.hp hp') (hn : nodB (hp'.map Prod.fst) = true) : RoundOk k s hp' := ⟨[], (fun p hp => absurd hp (List.not_mem_nil)), eqH_all rn_nil h, nodB_sound hn⟩
theorem RoundOk.elim {k : Nat} {s : AS} {hp' : List (Nat × ABlk)} (h : RoundOk k s hp') : ∃ l, RoundEnd k s.hp hp' l := h
attribute [irreducible] RoundOk

/-- How a round may be left. -/
def roundA {X : Type} (s0 : AS) (inv : X → Prop) (hp' : X → List (Nat × ABlk)) (pfx : Prop) (Q : Exit → AS → Prop) : Exit → AS → Prop
  | .normal, s => ∃ g, inv g ∧ RoundOk s0.nx s (hp' g)
  | .exit i, s => pfx → s.on fun _ hp nx _ _ => s0.on fun tm hp0 _ nt k0 => mpIn hp0 hp ∧ Q (.exit i) ⟨tm, hp, nx, nt, k0⟩
  | .ret, s => pfx → s.on fun _ hp nx _ _ => s0.on fun tm hp0 _ nt k0 => mpIn hp0 hp ∧ Q .ret ⟨tm, hp, nx, nt, k0⟩
  | _, _ => False

variable {P : Program} {T : Nat → Option TI} {md : Bool} {E : Env} {R R' R2 : Ren} {s s' : AS} {a a' : Act} {w w' : World} {n : Nat} {r : Option Nat}

/-- What is known of the memory abides the turn of a block that is no cells and is none of the known maps, nor a mark. -/
theorem Fit.turned {row : Option Nat} (F : Fit E R s a w) (hg : w.grownBy w' row) (hr : ∀ k, row = some k → ∃ o : Obj, w.heap[k]? = some o ∧ o.isCells = false)
    (hm : ∀ i b, lk s.hp i = some b → b.isMap = true → some (R.ρ i) ≠ row) (hd : ∀ x ∈ a.defers, ∀ k, x.target = .collected k → some k ≠ row) (he : ∀ k, row = some k → E.W.heap.size ≤ k) : Fit E R s a w' where
  ok := F.ok
  nt := F.nt
  tm := F.tm
  hp := ⟨fun i c hc => by
    have hB := F.hp.blk i c hc
    refine hB.of_block (hg.block _ hB.lt ?_)
    intro e
    obtain ⟨o, ho, hcells⟩ := hr _ e.symm
    cases c with
    | ro cs => obtain ⟨c, t, z, h1, _⟩ := hB; rw [ho] at h1; injection h1 with h1; subst h1; cases hcells
    | own cs => obtain ⟨c, t, h1, _⟩ := hB; rw [ho] at h1; injection h1 with h1; subst h1; cases hcells
    | row e z cs => obtain ⟨c, h1, _⟩ := hB; rw [ho] at h1; injection h1 with h1; subst h1; cases hcells
    | mp m => exact hm i _ hc rfl e
    | mi I => exact hm i _ hc rfl e
    | si s p => exact hm i _ hc rfl e
    | li I => exact hm i _ hc rfl e, F.hp.inj⟩
  old := F.old
  wr := F.wr
  nx := F.nx
  nk := F.nk
  kk := F.kk
  fr := ⟨hg.os.trans F.fr.os, hg.tape.trans F.fr.tape, hg.output.trans F.fr.output, Nat.le_trans F.fr.size hg.size, fun k hk hn =>
    (hg.block k (Nat.lt_of_lt_of_le hk F.fr.size) (fun e => by have := he k e.symm; omega)).trans (F.fr.block k hk hn)⟩
  df := by
    obtain ⟨ds, h1, hnd, h2⟩ := F.df
    refine ⟨ds, h1, hnd, fun d hd' => ⟨(h2 d hd').1, (hg.block d (Array.getElem?_eq_some_iff.1 (h2 d hd').2).1 ?_).trans (h2 d hd').2⟩⟩
    exact hd ⟨.collected d, #[]⟩ (by rw [h1]; exact List.mem_map.2 ⟨d, hd', rfl⟩) d rfl
  wf := F.wf

theorem size_foldl_set1 (t : Array Value) (p : Nat) (v : Value) : (((#[p]).zip #[v]).foldl (fun t (x : Nat × Value) => t.setIfInBounds x.1 x.2) t) = t.setIfInBounds p v := by
  simp

/-- A loop over a function: hs pre g is the memory behind the elements pre, g such that inv pre g. -/
theorem Tr.rangeX {α X : Type} {val : α → Value} (abs : α → AV) (hval : ∀ x R, conV R (abs x) (val x)) (hvl : ∀ x n, (abs x).lt n) {f : Operand} {p d id0 : Nat} {ops : Array Oper} {body : Code} {Q : Exit → AS → Prop} {tm : List (Nat × AV)} {hp : List (Nat × ABlk)} {nx nt k0 : Nat} (hT : TOk P T) {gf : FuncId} {caps : List Nat} (hf : ev ⟨tm, hp, nx, nt, k0⟩ f = some (.c (.fn gf [] caps))) (xs : List α)
    (hp0 : List (Nat × ABlk)) (it : FIterV val P gf caps hp0 xs) (hit : givH hp hp0) (hro : allRo hp0 = true) (hs : List α → X → List (Nat × ABlk)) (inv : List α → X → Prop) (g0 : X) (N : Nat) (hN : nx ≤ N ∧ N ≤ GB) (hi0 : inv [] g0) (h0 : givH hp (hs [] g0)) (hlt : ∀ pre g, (∀ y ∈ pre, y ∈ xs) → inv pre g → hpLt N (hs pre g))
    (hmp : ∀ pre g, (∀ y ∈ pre, y ∈ xs) → inv pre g → mpIn hp (hs pre g) ∧ keepOk (hs pre g) hp0) (hfl : flatC body = true) {ty pos} (hops : ops = #[⟨some d, .assign (.tmp p), ty, pos, #[], none⟩]) (hpd : p < nt ∧ d < nt)
    (round : ∀ pre g x, (∀ y ∈ pre, y ∈ xs) → inv pre g → x ∈ xs → pre.length < xs.length → wpC P T md body ⟨(d, abs x) :: (p, abs x) :: tm, hs pre g, N, nt, nx⟩ (roundA ⟨tm, hp, nx, nt, k0⟩ (inv (pre ++ [x])) (hs (pre ++ [x])) (pre ++ [x] <+: xs) Q))
    (fin : ∀ g, inv xs g → Q .normal ⟨tm, hs xs g, N, nt, k0⟩) : Tr P (.rangeFunc f #[p] (.region id0 ops false) body) ⟨tm, hp, nx, nt, k0⟩ Q := Tr.intro fun E R a w n r F ht => by
  obtain ⟨rfl, hn⟩ : r = none ∧ 3 ≤ n := ht.elim id fun h => by simp [flatC] at h
  have hkn : E.k ≤ nx := F.nk.1
  have hmem : ∀ (pre : List { x : α // x ∈ xs }), ∀ y ∈ pre.map Subtype.val, y ∈ xs := fun pre y hy => by
    obtain ⟨z, _, rfl⟩ := List.mem_map.1 hy; exact z.2
  -- the iterator's value
  have hev : a.eval f = .func (.func gf) #[] (caps.map R.p0).toArray := by
    have := (ev_sound F hf).1
    simpa [conV, conC] using this
  have H0 : HRel R hp0 w := ⟨fun i b hb => by
      obtain ⟨b', h1, h2⟩ := givH_get hit i b hb
      exact h2.rel (F.hp.blk _ _ h1), fun i j b c hi _ _ hw => by rw [allRo_sound hro i b hi] at hw; cases hw⟩
  -- a mark lies ahead of the loop
  have hmark : ∀ x ∈ a.defers, ∀ k, x.target = .collected k → k < w.heap.size := by
    intro x hx k e
    obtain ⟨ds, k1, k2, k3⟩ := F.df
    rw [k1] at hx
    obtain ⟨d', hd', rfl⟩ := List.mem_map.1 hx
    injection e with e
    subst e
    exact (Array.getElem?_eq_some_iff.1 (k3 _ hd').2).1
  -- what a state behind the loop's head owes
  let G : World → AS → Prop := fun W S => ∃ R', Fit E R' S a W ∧ (∀ i, idOk nx i → R'.ρ i = R.ρ i ∧ R'.δ i = R.δ i ∧ R'.κ i = R.κ i) ∧ w.heap.size ≤ W.heap.size
  have own : ∀ S, mpIn hp S.hp → OwnFrom w.heap.size (fun (_ : Unit) W => G W S) := by
    intro S hm _ W W' row ⟨R', F', hag, hsz⟩ hg hr
    refine ⟨R', F'.turned hg (fun k e => (hr k e).2) (fun i m hi hm2 e => ?_) (fun x hx k e e2 => ?_) (fun k e => Nat.le_trans F.fr.size (hr k e).1), hag, Nat.le_trans hsz hg.size⟩
    · obtain ⟨m', hm'⟩ := mpIn_get hm i m hi hm2
      have h1 := (F.hp.blk i _ hm').lt
      rw [← (hag i (F.wf.hp i _ hm').1).1] at h1
      have := (hr _ e.symm).1; omega
    · have h1 := hmark x hx k e
      have := (hr _ e2.symm).1; omega
  let I : List { x : α // x ∈ xs } → World → Prop := fun pre W => ∃ g, inv (pre.map Subtype.val) g ∧ G W ⟨tm, hs (pre.map Subtype.val) g, N, nt, k0⟩
  let Ix : Code → List { x : α // x ∈ xs } → World → Prop := fun c pre W => pre.map Subtype.val <+: xs → (∃ i S, c = .exit i ∧ mpIn hp S.hp ∧ Q (.exit i) S ∧ G W S) ∨ (∃ S, c = .ret ∧ mpIn hp S.hp ∧ Q .ret S ∧ G W S)
  have F0 : Fit E R ⟨tm, hs [] g0, N, nt, k0⟩ a w := by
    have F1 : Fit E R ⟨tm, hp, N, nt, k0⟩ a w := F.ren (R' := R) (m := N) (Agree.refl _ _) F.ok hN.1 hN.2
    exact F1.gives (hp' := hs [] g0) (givH_get h0)
  -- with the mark
  have marked : ∀ (D : Nat) (S : AS) (W : World), w.heap.size ≤ D → W.heap[D]? = some (.deferred (some [])) → G W S → ∃ R', Fit E R' S { a with defers := { target := .collected D, args := #[] } :: a.defers } W := by
    rintro D S W hD hW ⟨R', F', hag, hsz⟩
    refine ⟨R', { F' with df := ?_ }⟩
    obtain ⟨ds, k1, k2, k3⟩ := F'.df
    refine ⟨D :: ds, by simp [k1], List.nodup_cons.2 ⟨fun hm => ?_, k2⟩, fun d' hd' => ?_⟩
    · have := hmark ⟨.collected D, #[]⟩ (by rw [k1]; exact List.mem_map.2 ⟨D, hm, rfl⟩) D rfl; omega
    · rcases List.mem_cons.1 hd' with e | hd'
      · subst e; exact ⟨.inr (Nat.le_trans F.fr.size hD), hW⟩
      · exact k3 d' hd'
  refine wpIn_rangeL (α := { x : α // x ∈ xs }) (by omega) hev it.1 (it.2 R w (n - 1) F.ok (by omega) H0) (fun h1 h2 => ⟨fun i b hb => (h2.1 i b hb).trans (h1.1 i b hb), fun k ds hk hw hd => h2.2.1 k ds hk hw (h1.2.1 k ds hk hw hd), Nat.le_trans h1.2.2 h2.2.2⟩) (fun l W o hl => ⟨fun i b hb => World.putObj_heap_other (by have := (H0.blk i b hb).lt; omega), fun k ds hk _ hd => (World.putObj_heap_other hk).trans hd, by rw [World.putObj_size]; exact Nat.le_refl _⟩) I Ix ?_ ?_ ⟨g0, hi0, R, F0, fun i _ => ⟨rfl, rfl, rfl⟩, Nat.le_refl _⟩
    (fun x => { tmps := (a.tmps.setIfInBounds p (val x.1)).setIfInBounds d (val x.1), defers := [] }) ?_ ?_ ?_ ?_
  · rintro pre W W' row ⟨g, hinv, hI⟩ hg hr
    exact ⟨g, hinv, own _ (hmp _ g (hmem pre) hinv).1 () W W' row hI hg hr⟩
  · intro c pre W W' row hI hg hr hpre
    rcases hI hpre with ⟨i, S, h1, h2, h4, h5⟩ | ⟨S, h1, h2, h4, h5⟩
    · exact .inl ⟨i, S, h1, h2, h4, own _ h2 () W W' row h5 hg hr⟩
    · exact .inr ⟨S, h1, h2, h4, own _ h2 () W W' row h5 hg hr⟩
  · -- the variable is set
    intro l x W K hK
    refine wpIn_region ?_
    subst hops
    have hpn : p < a.tmps.size := by rw [F.nt]; exact hpd.1
    show wpOpsIn _ _ P _ _ [0] _ W
    simp only [wpOpsIn]
    simp [Region.wanted, Oper.wpIn, Oper.semAt, Oper.about, execOp, Oper.uponIn, Act.eval, Act.put, Exit.then, hpn]
    exact hK
  · -- a round
    rintro l pre x W hlw ⟨g, hinv, R', F', hag, hsz⟩ hlen
    obtain ⟨E', hE'⟩ : ∃ E' : Env, E' = ⟨W, R', nx, locM R' (hs (pre.map Subtype.val) g) { tmps := #[], defers := [] }⟩ := ⟨_, rfl⟩
    have htm0 : ∀ t v, lk tm t = some v → v.lt nx := F.wf.tm
    have Fa : Fit E' R' ⟨(d, abs x.1) :: (p, abs x.1) :: tm, hs (pre.map Subtype.val) g, N, nt, nx⟩ { tmps := (a.tmps.setIfInBounds p (val x.1)).setIfInBounds d (val x.1), defers := [] } W := by
      have base : Fit E' R' ⟨tm, hs (pre.map Subtype.val) g, N, nt, nx⟩ { tmps := a.tmps, defers := [] } W := by
        subst hE'
        exact {
          ok := F'.ok
          nt := F'.nt
          tm := F'.tm
          hp := F'.hp
          old := fun _ _ => ⟨rfl, rfl, rfl⟩
          wr := fun i c hc hw => .inl (.inl ⟨i, c, hc, hw, rfl⟩)
          nx := F'.nx
          nk := ⟨hN.1, hN.2⟩
          kk := rfl
          fr := Fr.refl _ _
          df := ⟨[], rfl, List.nodup_nil, fun d hd => (List.not_mem_nil hd).elim⟩
          wf := ⟨F'.wf.tm, F'.wf.hp⟩ }
      have s1 := base.put (d := p) (v := abs x.1) (u := val x.1) hpd.1 (hval _ _) (hvl _ _)
      exact s1.put (d := d) (v := abs x.1) (u := val x.1) hpd.2 (hval _ _) (hvl _ _)
    have key := (wpC_sound hT body _ _ (round (pre.map Subtype.val) g x.1 (hmem pre) hinv x.2 (by simpa using hlen))).elim (n := n - 1 - 1) (r := some l) Fa (.inr hfl)
    refine wpIn_mono key ?_
    rintro e a' W' ⟨R2, s', hq, F2⟩
    -- the frame
    have hfr : Fr E'.M W W' := by have := F2.fr; rw [hE'] at this ⊢; exact this
    have hM : ∀ j, E'.M j → ∃ i c, lk (hs (pre.map Subtype.val) g) i = some c ∧ c.wr = true ∧ R'.ρ i = j := by
      intro j hj
      rw [hE'] at hj
      rcases hj with h | ⟨x, hx, _⟩
      · exact h
      · cases hx
    have hsz2 : W.heap.size ≤ W'.heap.size := hfr.size
    have keeps : KeepsFrom w.heap.size W W' := ⟨hsz2, fun k o hk ho hc => by
      refine (hfr.block k (Array.getElem?_eq_some_iff.1 ho).1 ?_).trans ho
      intro hm
      obtain ⟨i, c, h1, h2, h3⟩ := hM k hm
      have hB := F'.hp.blk i c h1
      subst h3
      cases c with
      | ro cs => cases h2
      | own cs => obtain ⟨c, t, h4, _⟩ := hB; rw [ho] at h4; injection h4 with h4; subst h4; cases hc
      | row e z cs => obtain ⟨c, h4, _⟩ := hB; rw [ho] at h4; injection h4 with h4; subst h4; cases hc
      | mp m =>
        obtain ⟨m', hm'⟩ := mpIn_get (hmp _ g (hmem pre) hinv).1 i _ h1 rfl
        have h5 := (F.hp.blk i _ hm').lt
        rw [← (hag i (F.wf.hp i _ hm').1).1] at h5
        omega
      | mi I =>
        obtain ⟨m', hm'⟩ := mpIn_get (hmp _ g (hmem pre) hinv).1 i _ h1 rfl
        have h5 := (F.hp.blk i _ hm').lt
        rw [← (hag i (F.wf.hp i _ hm').1).1] at h5
        omega
      | si s p =>
        obtain ⟨m', hm'⟩ := mpIn_get (hmp _ g (hmem pre) hinv).1 i _ h1 rfl
        have h5 := (F.hp.blk i _ hm').lt
        rw [← (hag i (F.wf.hp i _ hm').1).1] at h5
        omega
      | li I =>
        obtain ⟨m', hm'⟩ := mpIn_get (hmp _ g (hmem pre) hinv).1 i _ h1 rfl
        have h5 := (F.hp.blk i _ hm').lt
        rw [← (hag i (F.wf.hp i _ hm').1).1] at h5
        omega⟩
    -- what holds of the entry's state with any memory that the round has left
    have hold : ∀ i, i < nx → R2.ρ i = R'.ρ i ∧ R2.δ i = R'.δ i ∧ R2.κ i = R'.κ i := by
      intro i hi
      have := F2.old i (by rw [hE']; exact hi)
      rw [hE'] at this; exact this
    have back : ∀ (l' : List (Nat × Nat)) (hp' : List (Nat × ABlk)) (N' : Nat), (∀ q ∈ l', nx ≤ q.1 ∧ q.1 < GB) → hpAll s'.hp (rn l') hp' → (hp'.map fun q => rn l' q.1).Nodup → hpLt N' hp' → nx ≤ N' ∧ N' ≤ GB → G W' ⟨tm, hp', N', nt, k0⟩ := by
      intro l' hp' N' hl' hall hnd hlt' hN'
      have rnlow : ∀ i, i < nx → rn l' i = i := fun i hi => by
        unfold rn; rw [lk_none_lt fun q hq => by have := (hl' q hq).1; omega]; rfl
      have rnG : ∀ i, rn l' (GB + i) = GB + i := fun i => by
        unfold rn; rw [lk_none_lt fun q hq => by have := (hl' q hq).2; omega]; rfl
      have ok3 : (R2.comp (rn l')).ok := ⟨fun i => by simp [Ren.comp, rnG, F2.ok.g], fun i => by simp [Ren.comp, rnG, F2.ok.d], fun i => by simp [Ren.comp, rnG, F2.ok.c]⟩
      have ag3 : ∀ i, idOk nx i → (R2.comp (rn l')).ρ i = R'.ρ i ∧ (R2.comp (rn l')).δ i = R'.δ i ∧ (R2.comp (rn l')).κ i = R'.κ i := by
        intro i hi
        rcases hi with hi | hi
        · simp only [Ren.comp, rnlow i hi]; exact hold i hi
        · obtain ⟨j, rfl⟩ := Nat.exists_eq_add_of_le hi
          simp only [Ren.comp, rnG, F2.ok.g, F2.ok.d, F2.ok.c, F'.ok.g, F'.ok.d, F'.ok.c, and_self]
      refine ⟨R2.comp (rn l'), {
        ok := ok3
        nt := F'.nt
        tm := fun t v h => by
          obtain ⟨u, hu, hc⟩ := F'.tm t v h
          exact ⟨u, hu, hc.agree ag3 (htm0 t v h)⟩
        hp := ⟨fun i b hb => BRel_ren.1 (F2.hp.blk _ _ (hpAll_get hall hb)), fun i j b c hi hj hne hw =>
          F2.hp.inj _ _ _ _ (hpAll_get hall hi) (hpAll_get hall hj) (nodup_inj hnd hi hj hne) (by rw [ABlk.ren_wr]; exact hw)⟩
        old := fun i hi => by
          obtain ⟨x1, x2, x3⟩ := ag3 i (.inl (Nat.lt_of_lt_of_le hi hkn))
          obtain ⟨y1, y2, y3⟩ := F'.old i hi
          exact ⟨x1.trans y1, x2.trans y2, x3.trans y3⟩
        wr := fun i b hb hw => by
          have := F2.wr _ _ (hpAll_get hall hb) (by rw [ABlk.ren_wr]; exact hw)
          rcases this with h | h
          · obtain ⟨i0, c0, h1, h2, h3⟩ := hM _ h
            show E.M (R2.ρ (rn l' i)) ∨ E.W.heap.size ≤ R2.ρ (rn l' i)
            rw [← h3]; exact F'.wr i0 c0 h1 h2
          · rw [hE'] at h; exact .inr (Nat.le_trans (Nat.le_trans F.fr.size hsz) h)
        nx := fun i b hb => (hpLt_get hlt' hb).1
        nk := ⟨Nat.le_trans hkn hN'.1, hN'.2⟩
        kk := F.kk
        fr := F'.fr.trans hfr (fun j hj => by obtain ⟨i0, c0, h1, h2, h3⟩ := hM j hj; rw [← h3]; exact F'.wr i0 c0 h1 h2)
        df := by
          obtain ⟨ds, k1, k2, k3⟩ := F'.df
          refine ⟨ds, k1, k2, fun d' hd' => ⟨(k3 d' hd').1, (hfr.block d' (Array.getElem?_eq_some_iff.1 (k3 d' hd').2).1 ?_).trans (k3 d' hd').2⟩⟩
          intro hm
          obtain ⟨i0, c0, h1, h2, h3⟩ := hM _ hm
          exact (F'.hp.blk i0 c0 h1).not_deferred _ (h3 ▸ (k3 d' hd').2)
        wf := ⟨fun t v h => (htm0 t v h).mono hN'.1, fun i b hb => hpLt_get hlt' hb⟩ }, ?_, Nat.le_trans hsz hsz2⟩
      intro i hi
      obtain ⟨x1, x2, x3⟩ := ag3 i hi
      obtain ⟨y1, y2, y3⟩ := hag i hi
      exact ⟨x1.trans y1, x2.trans y2, x3.trans y3⟩
    -- the memory as the round has left it, without other numbers
    have backId : G W' ⟨tm, s'.hp, s'.nx, nt, k0⟩ := by
      refine ⟨R2, {
        ok := F2.ok
        nt := F'.nt
        tm := fun t v h => by
          obtain ⟨u, hu, hc⟩ := F'.tm t v h
          refine ⟨u, hu, hc.agree (fun i hi => ?_) (htm0 t v h)⟩
          rcases hi with hi | hi
          · exact hold i hi
          · obtain ⟨j, rfl⟩ := Nat.exists_eq_add_of_le hi
            simp only [F2.ok.g, F2.ok.d, F2.ok.c, F'.ok.g, F'.ok.d, F'.ok.c, and_self]
        hp := F2.hp
        old := fun i hi => by
          obtain ⟨x1, x2, x3⟩ := hold i (Nat.lt_of_lt_of_le hi hkn)
          obtain ⟨y1, y2, y3⟩ := F'.old i hi
          exact ⟨x1.trans y1, x2.trans y2, x3.trans y3⟩
        wr := fun i b hb hw => by
          rcases F2.wr i b hb hw with h | h
          · obtain ⟨i0, c0, h1, h2, h3⟩ := hM _ h
            rw [← h3]; exact F'.wr i0 c0 h1 h2
          · rw [hE'] at h; exact .inr (Nat.le_trans (Nat.le_trans F.fr.size hsz) h)
        nx := F2.nx
        nk := ⟨by have := F2.nk.1; rw [hE'] at this; exact Nat.le_trans hkn this, F2.nk.2⟩
        kk := F.kk
        fr := F'.fr.trans hfr (fun j hj => by obtain ⟨i0, c0, h1, h2, h3⟩ := hM j hj; rw [← h3]; exact F'.wr i0 c0 h1 h2)
        df := by
          obtain ⟨ds, k1, k2, k3⟩ := F'.df
          refine ⟨ds, k1, k2, fun d' hd' => ⟨(k3 d' hd').1, (hfr.block d' (Array.getElem?_eq_some_iff.1 (k3 d' hd').2).1 ?_).trans (k3 d' hd').2⟩⟩
          intro hm
          obtain ⟨i0, c0, h1, h2, h3⟩ := hM _ hm
          exact (F'.hp.blk i0 c0 h1).not_deferred _ (h3 ▸ (k3 d' hd').2)
        wf := ⟨fun t v h => (htm0 t v h).mono (by have := F2.nk.1; rw [hE'] at this; exact this), F2.wf.hp⟩ }, ?_, Nat.le_trans hsz hsz2⟩
      intro i hi
      obtain ⟨y1, y2, y3⟩ := hag i hi
      rcases hi with hi | hi
      · obtain ⟨x1, x2, x3⟩ := hold i hi
        exact ⟨x1.trans y1, x2.trans y2, x3.trans y3⟩
      · obtain ⟨j, rfl⟩ := Nat.exists_eq_add_of_le hi
        simp only [F2.ok.g, F2.ok.d, F2.ok.c, F.ok.g, F.ok.d, F.ok.c, and_self]
    have hmap : (pre ++ [x]).map Subtype.val = pre.map Subtype.val ++ [x.1] := by simp
    cases e with
    | normal =>
      obtain ⟨g', hinv', hq⟩ := hq
      obtain ⟨l', hre⟩ := RoundOk.elim hq
      refine ⟨keeps, ⟨?_, fun k ds _ hw hd => keeps.same k _ hw hd rfl, hsz2⟩, ?_⟩
      · intro i b hb
        obtain ⟨cs, hcs⟩ := keepOk_get (hmp _ g (hmem pre) hinv).2 i b hb
        obtain ⟨b', h1, _⟩ := givH_get hit i b hb
        have hρ := (hag i (F.wf.hp i _ h1).1).1
        rw [← hρ]
        refine hfr.block _ (F'.hp.blk i _ hcs).lt ?_
        intro hm
        obtain ⟨j, c, h2, h3, h4⟩ := hM _ hm
        refine F'.hp.inj j i c _ h2 hcs ?_ h3 h4
        intro e; subst e
        rw [show lk (hs (pre.map Subtype.val) g) j = some (.ro cs) from hcs] at h2
        injection h2 with h2; subst h2; cases h3
      show ∃ g, inv ((pre ++ [x]).map Subtype.val) g ∧ G W' ⟨tm, hs ((pre ++ [x]).map Subtype.val) g, N, nt, k0⟩
      have := hlt _ g' (hmem (pre ++ [x]))
      rw [hmap] at this ⊢
      exact ⟨g', hinv', back l' _ N hre.fix hre.hp hre.inj (this hinv') hN⟩
    | exit i =>
      refine ⟨keeps, fun hpre => .inl ?_⟩
      rw [hmap] at hpre
      obtain ⟨h1, h2⟩ := hq hpre
      exact ⟨i, ⟨tm, s'.hp, s'.nx, nt, k0⟩, rfl, h1, h2, backId⟩
    | ret =>
      refine ⟨keeps, fun hpre => .inr ?_⟩
      rw [hmap] at hpre
      obtain ⟨h1, h2⟩ := hq hpre
      exact ⟨⟨tm, s'.hp, s'.nx, nt, k0⟩, rfl, h1, h2, backId⟩
    | goto t => exact hq.elim
    | panic c => exact hq.elim
    | outgrown => exact hq.elim
  · intro D ys W hD hys hI hW
    obtain ⟨g, hinv, hI⟩ := hI
    obtain ⟨R', F'⟩ := marked D _ W hD hW hI
    have hys : ys.map Subtype.val = xs := hys
    rw [hys] at F' hinv
    exact ⟨R', _, fin g hinv, F'⟩
  · intro D c pre W hD hpre hI hW
    rcases hI hpre with ⟨i, S, rfl, h2, h4, h5⟩ | ⟨S, rfl, h2, h4, h5⟩
    · obtain ⟨R', F'⟩ := marked D S W hD hW h5
      exact wpIn_exit ⟨R', S, h4, F'⟩
    · obtain ⟨R', F'⟩ := marked D S W hD hW h5
      exact wpIn_ret ⟨R', S, h4, F'⟩
#print axioms Tr.rangeX
theorem Tr.range {f : Operand} {p d id0 : Nat} {ops : Array Oper} {body : Code} {Q : Exit → AS → Prop} {tm : List (Nat × AV)} {hp : List (Nat × ABlk)} {nx nt k0 : Nat} (hT : TOk P T) {gf : FuncId} {caps : List Nat} (hf : ev ⟨tm, hp, nx, nt, k0⟩ f = some (.c (.fn gf [] caps))) (xs : List Int)
    (hp0 : List (Nat × ABlk)) (it : FIter P gf caps hp0 xs) (hit : givH hp hp0) (hro : allRo hp0 = true) (hs : List Int → List (Nat × ABlk)) (inv : List Int → Prop) (N : Nat) (hN : nx ≤ N ∧ N ≤ GB) (hi0 : inv []) (h0 : givH hp (hs [])) (hlt : ∀ pre, (∀ y ∈ pre, y ∈ xs) → hpLt N (hs pre))
    (hmp : ∀ pre, (∀ y ∈ pre, y ∈ xs) → mpIn hp (hs pre) ∧ keepOk (hs pre) hp0) (hfl : flatC body = true) {ty pos} (hops : ops = #[⟨some d, .assign (.tmp p), ty, pos, #[], none⟩]) (hpd : p < nt ∧ d < nt)
    (round : ∀ pre x, (∀ y ∈ pre, y ∈ xs) → inv pre → x ∈ xs → pre.length < xs.length → wpC P T md body ⟨(d, .c (.int .i64 x)) :: (p, .c (.int .i64 x)) :: tm, hs pre, N, nt, nx⟩ (roundA (X := Unit) ⟨tm, hp, nx, nt, k0⟩ (fun _ => inv (pre ++ [x])) (fun _ => hs (pre ++ [x])) (pre ++ [x] <+: xs) Q))
    (fin : inv xs → Q .normal ⟨tm, hs xs, N, nt, k0⟩) : Tr P (.rangeFunc f #[p] (.region id0 ops false) body) ⟨tm, hp, nx, nt, k0⟩ Q :=
  Tr.rangeX (X := Unit) (fun x => .c (.int .i64 x)) (fun _ _ => rfl) (fun _ _ => trivial) hT hf xs hp0 it hit hro (fun p _ => hs p) (fun p _ => inv p) () N hN hi0 h0 (fun pre _ h _ => hlt pre h) (fun pre _ h _ => hmp pre h) hfl hops hpd (fun pre _ x h1 h2 h3 h4 => round pre x h1 h2 h3 h4) (fun _ h => fin h)
end Go.AH

/-
  Handling: a contract says less of what it is handed and of what it hands back.
-/
namespace Go.AH
open Go.RowKit

/-- The second says no more than the first. -/
def wkC (hp : List (Nat × ABlk)) : AC → AC → Prop
  | .sl i o n _, .rs j p m => i = j ∧ o = p ∧ n = m
  | .row i n, .rs j p m => (i = j ∧ p = 0 ∧ n = m) ∧ (match lk hp i with | some (.row ..) => True | some (.own _) => True | _ => False)
  | .nils, .rs _ _ m => m = 0
  | .rp i o n _ _, .row j m => i = j ∧ o = 0 ∧ n = m
  | .rp i o n _ z, .rs j p m => (i = j ∧ p = o * z ∧ n = m) ∧ (match lk hp i with | some (.row ..) => True | _ => False)
  | x, y => x = y
def wkL (hp : List (Nat × ABlk)) : List AC → List AC → Prop
  | [], [] => True
  | x :: xs, y :: ys => wkC hp x y ∧ wkL hp xs ys
  | _, _ => False
def wkE (hp : List (Nat × ABlk)) : AE → AE → Prop
  | .c x, .c y => wkC hp x y
  | .g xs, .g ys => xs = ys ∨ wkL hp xs ys
  | _, _ => False
def wkEs (hp : List (Nat × ABlk)) : List AE → List AE → Prop
  | [], [] => True
  | x :: xs, y :: ys => wkE hp x y ∧ wkEs hp xs ys
  | _, _ => False
def wkV (hp : List (Nat × ABlk)) : AV → AV → Prop
  | .c x, .c y => wkC hp x y
  | .g xs, .g ys => xs = ys ∨ wkL hp xs ys
  | .t xs, .t ys => wkEs hp xs ys
  | _, _ => False
def wkVs (hp : List (Nat × ABlk)) : List AV → List AV → Prop
  | [], [] => True
  | x :: xs, y :: ys => wkV hp x y ∧ wkVs hp xs ys
  | _, _ => False
def wkB (hp : List (Nat × ABlk)) : ABlk → ABlk → Prop
  | .own xs, .own ys => xs = ys ∨ wkL hp xs ys
  | .row e z xs, .row e' z' ys => (e = e' ∧ z = z') ∧ (xs = ys ∨ wkL hp xs ys)
  | .ro xs, .ro ys => xs = ys ∨ wkL hp xs ys
  | .own xs, .ro ys => xs = ys ∨ wkL hp xs ys
  | .row _ _ xs, .ro ys => xs = ys ∨ wkL hp xs ys
  | .mp m, .mi I => I m ∧ primM m
  | .own xs, .li I => I xs ∧ ∀ x ∈ xs, x.prim = true
  | x, y => x = y
/-- t's blocks are among hp's. -/
def wkH (hp : List (Nat × ABlk)) : List (Nat × ABlk) → Prop
  | [] => True
  | (i, b) :: r => (match lk hp i with | some b' => wkB hp b' b | none => False) ∧ wkH hp r

variable {R : Ren} {hp : List (Nat × ABlk)} {w : World}

theorem wkC_sound {x y : AC} {v : Value} (h : wkC hp x y) (H : HRel R hp w) (hc : conC R x v) : conC R y v := by
  unfold wkC at h
  split at h
  · obtain ⟨rfl, rfl, rfl⟩ := h
    obtain ⟨a, c, h1, _, h2, h3⟩ := hc
    exact .inl ⟨a, c, h1, h2, h3⟩
  · rename_i i n j p m
    obtain ⟨⟨rfl, rfl, rfl⟩, hb⟩ := h
    have hd : R.δ i = 0 := by
      split at hb
      · rename_i e; obtain ⟨_, _, hd, _⟩ := H.blk _ _ e; exact hd
      · rename_i e; obtain ⟨_, _, _, hd, _⟩ := H.blk _ _ e; exact hd
      · exact hb.elim
    obtain ⟨h1, h2⟩ := hc
    exact .inl ⟨_, _, h1, fun _ => by simp [Ren.adr, hd], h2⟩
  · subst h; exact .inr ⟨rfl, hc⟩
  · obtain ⟨rfl, rfl, rfl⟩ := h
    obtain ⟨h1, h2, h3⟩ := hc
    rw [Nat.zero_mul] at h1
    rw [Nat.zero_add] at h2
    exact ⟨by rw [h1, h2], by omega⟩
  · rename_i i o n c z j p m
    obtain ⟨⟨rfl, rfl, rfl⟩, hb⟩ := h
    have hd : R.δ i = 0 := by
      split at hb
      · rename_i e; obtain ⟨_, _, hd, _⟩ := H.blk _ _ e; exact hd
      · exact hb.elim
    obtain ⟨h1, h2, h3⟩ := hc
    exact .inl ⟨_, _, h1, fun _ => by simp [Ren.adr, hd], h3⟩
  · exact h ▸ hc
theorem wkL_len : ∀ {xs ys : List AC}, wkL hp xs ys → xs.length = ys.length
  | [], [], _ => rfl
  | x :: xs, y :: ys, h => by simp [wkL_len h.2]
  | [], _ :: _, h => h.elim
  | _ :: _, [], h => h.elim
theorem wkL_get : ∀ {xs ys : List AC}, wkL hp xs ys → ∀ (i : Nat) (y : AC), ys[i]? = some y → ∃ x, xs[i]? = some x ∧ wkC hp x y
  | [], [], _, i, y, hi => by simp at hi
  | x :: xs, z :: ys, h, i, y, hi => by
    cases i with
    | zero => simp at hi; subst hi; exact ⟨x, rfl, h.1⟩
    | succ i => simp at hi; obtain ⟨x', a, b⟩ := wkL_get h.2 i y hi; exact ⟨x', by simpa using a, b⟩
  | [], _ :: _, h, _, _, _ => h.elim
  | _ :: _, [], h, _, _, _ => h.elim
theorem wkL_sound {xs ys : List AC} {vs : Array Value} {o : Nat} (h : xs = ys ∨ wkL hp xs ys) (H : HRel R hp w) (hc : conL R xs vs o) : conL R ys vs o ∧ xs.length = ys.length := by
  rcases h with rfl | h
  · exact ⟨hc, rfl⟩
  · refine ⟨fun i y hi => ?_, wkL_len h⟩
    obtain ⟨x, h1, h2⟩ := wkL_get h i y hi
    obtain ⟨v, h3, h4⟩ := hc i x h1
    exact ⟨v, h3, wkC_sound h2 H h4⟩
theorem wkE_sound {x y : AE} {v : Value} (h : wkE hp x y) (H : HRel R hp w) (hc : conE R x v) : conE R y v := by
  cases x <;> cases y <;> simp only [wkE] at h
  · exact wkC_sound h H hc
  · obtain ⟨vs, a, b, c⟩ := hc
    obtain ⟨d, e⟩ := wkL_sound h H c
    exact ⟨vs, a, by omega, d⟩
theorem wkEs_get : ∀ {xs ys : List AE}, wkEs hp xs ys → xs.length = ys.length ∧ ∀ (i : Nat) (y : AE), ys[i]? = some y → ∃ x, xs[i]? = some x ∧ wkE hp x y
  | [], [], _ => ⟨rfl, fun i y hi => by simp at hi⟩
  | x :: xs, z :: ys, h => by
    obtain ⟨h1, h2⟩ := wkEs_get h.2
    refine ⟨by simp [h1], fun i y hi => ?_⟩
    cases i with
    | zero => simp at hi; subst hi; exact ⟨x, rfl, h.1⟩
    | succ i => simp at hi; obtain ⟨x', a, b⟩ := h2 i y hi; exact ⟨x', by simpa using a, b⟩
  | [], _ :: _, h => h.elim
  | _ :: _, [], h => h.elim
theorem wkV_sound {x y : AV} {v : Value} (h : wkV hp x y) (H : HRel R hp w) (hc : conV R x v) : conV R y v := by
  cases x <;> cases y <;> simp only [wkV] at h
  · exact wkC_sound h H hc
  · obtain ⟨vs, a, b, c⟩ := hc
    obtain ⟨d, e⟩ := wkL_sound h H c
    exact ⟨vs, a, by omega, d⟩
  · obtain ⟨vs, a, b, c⟩ := hc
    obtain ⟨d, e⟩ := wkEs_get h
    refine ⟨vs, a, by omega, fun i y hi => ?_⟩
    obtain ⟨x, h1, h2⟩ := e i y hi
    obtain ⟨u, h3, h4⟩ := c i x h1
    exact ⟨u, h3, wkE_sound h2 H h4⟩
theorem wkVs_get : ∀ {xs ys : List AV}, wkVs hp xs ys → xs.length = ys.length ∧ ∀ (i : Nat) (y : AV), ys[i]? = some y → ∃ x, xs[i]? = some x ∧ wkV hp x y
  | [], [], _ => ⟨rfl, fun i y hi => by simp at hi⟩
  | x :: xs, z :: ys, h => by
    obtain ⟨h1, h2⟩ := wkVs_get h.2
    refine ⟨by simp [h1], fun i y hi => ?_⟩
    cases i with
    | zero => simp at hi; subst hi; exact ⟨x, rfl, h.1⟩
    | succ i => simp at hi; obtain ⟨x', a, b⟩ := h2 i y hi; exact ⟨x', by simpa using a, b⟩
  | [], _ :: _, h => h.elim
  | _ :: _, [], h => h.elim
theorem wkB_sound {x y : ABlk} {id : Nat} (h : wkB hp x y) (H : HRel R hp w) (hc : BRel R id w x) : BRel R id w y ∧ (y.wr = true → x.wr = true) := by
  unfold wkB at h
  split at h
  · obtain ⟨c, t, a, b, d, e⟩ := hc
    obtain ⟨f, g⟩ := wkL_sound h H e
    exact ⟨⟨c, t, a, b, by omega, f⟩, fun _ => rfl⟩
  · obtain ⟨⟨rfl, rfl⟩, h⟩ := h
    obtain ⟨c, a, b, d, e, e2, e3⟩ := hc
    obtain ⟨f, g⟩ := wkL_sound h H e3
    exact ⟨⟨c, a, b, d, e, by omega, f⟩, fun _ => rfl⟩
  · obtain ⟨c, t, z, a, b⟩ := hc
    exact ⟨⟨c, t, z, a, (wkL_sound h H b).1⟩, fun h => h⟩
  · obtain ⟨c, t, a, b, d, e⟩ := hc
    exact ⟨⟨c, t, _, a, (wkL_sound h H (by rw [b]; exact e)).1⟩, fun _ => rfl⟩
  · obtain ⟨c, a, b, d, e, e2, e3⟩ := hc
    exact ⟨⟨c, _, _, a, (wkL_sound h H (by rw [b]; exact e3)).1⟩, fun _ => rfl⟩
  · exact ⟨BRel.mi_iff.2 ⟨_, h, hc⟩, fun _ => rfl⟩
  · exact ⟨⟨_, h, hc⟩, fun _ => rfl⟩
  · subst h; exact ⟨hc, fun h => h⟩
theorem wkH_get : ∀ {l : List (Nat × ABlk)}, wkH hp l → ∀ i b, lk l i = some b → ∃ b', lk hp i = some b' ∧ wkB hp b' b
  | [], _, i, b, h => by cases h
  | (j, c) :: r, h, i, b, hi => by
    simp only [lk] at hi
    split at hi
    · rename_i e; subst e; injection hi with hi; subst hi
      have h1 := h.1
      split at h1
      · rename_i b' e; exact ⟨b', e, h1⟩
      · exact h1.elim
    · exact wkH_get h.2 i b hi
theorem wkH_sound {l : List (Nat × ABlk)} (h : wkH hp l) (H : HRel R hp w) : HRel R l w :=
  ⟨fun i b hb => by
      obtain ⟨b', h1, h2⟩ := wkH_get h i b hb
      exact (wkB_sound h2 H (H.blk _ _ h1)).1, fun i j b c hi hj hne hw => by
      obtain ⟨b', h1, h2⟩ := wkH_get h i b hi
      obtain ⟨c', h3, _⟩ := wkH_get h j c hj
      exact H.inj i j b' c' h1 h3 hne ((wkB_sound h2 H (H.blk _ _ h1)).2 hw)⟩

variable {P : Program} {f : FuncId} {args : List AV} {k : Nat} {Post : AV → List (Nat × ABlk) → Nat → Prop}

/-- Handed over more than is asked. -/
theorem FSpec.wk (h : FSpec P f args hp k Post) {args' : List AV} {hp' : List (Nat × ABlk)} (ha : wkVs hp' args' args) (hh : wkH hp' hp) : FSpec P f args' hp' k Post where
  call := h.call
  run := fun w R vs hok hsz hcon H => by
    obtain ⟨hl, hg⟩ := wkVs_get ha
    refine (h.run w R vs hok (by omega) (fun i v hi => ?_) (wkH_sound hh H)).mono ?_
    · obtain ⟨x, h1, h2⟩ := hg i v hi
      obtain ⟨u, h3, h4⟩ := hcon i x h1
      exact ⟨u, h3, wkV_sound h2 H h4⟩
    · rintro e w' ⟨u, r, hq, k', R', h1, h2, h3, h4, h5, h6, h7, h8, h9, h10, h11, h12⟩
      have up : ∀ i b, lk hp i = some b → b.wr = true → ∃ b', lk hp' i = some b' ∧ b'.wr = true := fun i b hb hw => by
        obtain ⟨b', g1, g2⟩ := wkH_get hh i b hb
        exact ⟨b', g1, (wkB_sound g2 H (H.blk _ _ g1)).2 hw⟩
      refine ⟨u, r, hq, k', R', h1, h2, h3, h4, h5, h6, h7, h8, h9, h10, fun i b hb hw => ?_, h12.mono ?_⟩
      · rcases h11 i b hb hw with ⟨i0, b0, g1, g2, g3⟩ | g
        · obtain ⟨b', g4, g5⟩ := up i0 b0 g1 g2
          exact .inl ⟨i0, b', g4, g5, g3⟩
        · exact .inr g
      · rintro j ⟨i, b, g1, g2, g3⟩
        obtain ⟨b', g4, g5⟩ := up i b g1 g2
        exact ⟨i, b', g4, g5, g3⟩
/-- Less is said of what comes back. -/
theorem FSpec.post (h : FSpec P f args hp k Post) {Post' : AV → List (Nat × ABlk) → Nat → Prop}
    (hp' : ∀ r hq k', Post r hq k' → ∃ r2 hq2, Post' r2 hq2 k' ∧ wkV hq r r2 ∧ wkH hq hq2 ∧ r2.lt k' ∧ hpLt k' hq2 ∧ (hq2.map Prod.fst).Nodup) : FSpec P f args hp k Post' where
  call := h.call
  run := fun w R vs hok hsz hcon H => by
    refine (h.run w R vs hok hsz hcon H).mono ?_
    rintro e w' ⟨u, r, hq, k', R', h1, h2, h3, h4, h5, h6, h7, h8, h9, h10, h11, h12⟩
    obtain ⟨r2, hq2, g1, g2, g3, g4, g5, g6⟩ := hp' r hq k' h2
    refine ⟨u, r2, hq2, k', R', h1, g1, h3, h4, h5, wkV_sound g2 h8 h6, g4, wkH_sound g3 h8, g6, fun i b hb => hpLt_get g5 hb, fun i b hb hw => ?_, h12⟩
    obtain ⟨b', e1, e2⟩ := wkH_get g3 i b hb
    exact h11 i b' e1 ((wkB_sound e2 h8 (h8.blk _ _ e1)).2 hw)
theorem FDet.post {r : AV} {hq : List (Nat × ABlk)} {k' : Nat} (h : FDet P f args hp k r hq k') (r2 : AV) (hq2 : List (Nat × ABlk)) (g2 : wkV hq r r2) (g3 : wkH hq hq2) (g4 : r2.lt k') (g5 : hpLt k' hq2) (g6 : nodB (hq2.map Prod.fst) = true) : FDet P f args hp k r2 hq2 k' :=
  FSpec.post h fun r0 hq0 k0 ⟨e1, e2, e3⟩ => by
    subst e1; subst e2; subst e3
    exact ⟨r2, hq2, ⟨rfl, rfl, rfl⟩, g2, g3, g4, g5, nodB_sound g6⟩
theorem FDet.wk {r : AV} {hq : List (Nat × ABlk)} {k' : Nat} (h : FDet P f args hp k r hq k') {args' : List AV} {hp' : List (Nat × ABlk)} (ha : wkVs hp' args' args) (hh : wkH hp' hp) : FDet P f args' hp' k r hq k' :=
  FSpec.wk h ha hh
theorem FSpec.imp (h : FSpec P f args hp k Post) {Post' : AV → List (Nat × ABlk) → Nat → Prop} (hi : ∀ r hq k', Post r hq k' → Post' r hq k') : FSpec P f args hp k Post' where
  call := h.call
  run := fun w R vs hok hsz hcon H => by
    refine (h.run w R vs hok hsz hcon H).mono ?_
    rintro e w' ⟨u, r, hq, k', R', h1, h2, h3⟩
    exact ⟨u, r, hq, k', R', h1, hi _ _ _ h2, h3⟩
/-- New blocks are handed back. -/
theorem Fin.new {s : AS} {r : AV} {Post : AV → List (Nat × ABlk) → Nat → Prop} (l : List Nat) (r0 : AV) (hp' : List (Nat × ABlk)) (hpost : Post r0 hp' (s.k0 + l.length)) (hres : r0.ren (qf s.k0 l) = r) (hh : hpAll s.hp (qf s.k0 l) hp')
    (hb : (nodB (hp'.map fun p => qf s.k0 l p.1) && nodB (hp'.map Prod.fst) && Nat.ble (s.k0 + l.length) GB) = true) (rlt : r0.lt (s.k0 + l.length)) (hlt : hpLt (s.k0 + l.length) hp') : Fin s r Post := by
  simp only [Bool.and_eq_true] at hb
  exact Fin.mk l r0 hp' ⟨hpost, hres, hh, nodB_sound hb.1.1, nodB_sound hb.1.2, rlt, hlt, Nat.le_of_ble_eq_true hb.2⟩
/-- The end of a round that has made blocks: number i of l is number j of the state. -/
theorem RoundOk.new {k : Nat} {s : AS} {hp' : List (Nat × ABlk)} (l : List (Nat × Nat)) (hf : (l.all fun p => Nat.ble k p.1 && Nat.blt p.1 GB) = true) (hh : hpAll s.hp (rn l) hp') (hn : nodB (hp'.map fun p => rn l p.1) = true) : RoundOk k s hp' :=
  RoundOk.mk l ⟨fun p hp => by
    have := List.all_eq_true.1 hf p hp
    simp only [Bool.and_eq_true] at this
    exact ⟨Nat.le_of_ble_eq_true this.1, Nat.le_of_ble_eq_true this.2⟩, hh, nodB_sound hn⟩
/-- A call that reads alone, in a region that draws its order; what it hands back is new. -/
theorem CallQ.new {s : AS} {vs : List AV} {kq : AV → List (Nat × ABlk) → Nat → Prop} {hp0 : List (Nat × ABlk)} (l : List Nat) {r : AV} {hp1 : List (Nat × ABlk)} {k1 : Nat} (r' : AV) (nb : List (Nat × ABlk)) (h : FDet P f args hp0 l.length r hp1 k1) (ha : args.map (AV.ren (qq l s.nx)) = vs)
    (hb : (oldB s.nx l && allRo hp0 && nodB (hp0.map Prod.fst) && nodB (hp1.map Prod.fst) && (hp1.all fun p => Nat.ble l.length p.1 && Nat.blt p.1 k1 && p.2.wr) && Nat.ble l.length k1 && Nat.ble k1 GB && Nat.ble (s.nx + (k1 - l.length)) GB) = true)
    (hl : lies l s.nx s.hp hp0) (hr : r.ren (qq l s.nx) = r') (hn : (hp1.map fun p => (qq l s.nx p.1, p.2.ren (qq l s.nx))) = nb) (hk : s.on fun _ _ nx _ _ => kq r' nb (nx + (k1 - l.length))) : CallQ P f vs s kq := by
  simp only [Bool.and_eq_true] at hb
  obtain ⟨⟨⟨⟨⟨⟨⟨b1, b2⟩, b3⟩, b4⟩, b5⟩, b6⟩, b7⟩, b8⟩ := hb
  have b6 : l.length ≤ k1 := by simpa using b6
  have b7 : k1 ≤ GB := by simpa using b7
  have b8 : s.nx + (k1 - l.length) ≤ GB := by simpa using b8
  have hnew : ∀ p ∈ hp1, l.length ≤ p.1 ∧ p.1 < k1 ∧ p.2.wr = true := fun p hp => by
    have := List.all_eq_true.1 b5 p hp
    simp only [Bool.and_eq_true] at this
    exact ⟨Nat.le_of_ble_eq_true this.1.1, Nat.le_of_ble_eq_true this.1.2, this.2⟩
  have hGB : ∀ p ∈ hp1, p.1 < GB := fun p hp => by have := hnew p hp; omega
  refine callQ_intro args hp0 l r hp1 k1 hp1 ⟨h, oldB_sound b1, ha, lies_get hl, ?_, nodB_sound b4, ?_, (fun i b h => ?_), ⟨b6, b7⟩, nodB_sound b3, (fun p hp => .inl (hnew p hp).2.1), (fun p hp hw ho => ?_), b8⟩ ?_
  · intro i j b c hi _ _ hw
    rw [allRo_sound b2 i b hi] at hw; cases hw
  · intro i b hi hw
    rw [allRo_sound b2 i b hi] at hw; cases hw
  · have hm := mem_lk h
    obtain ⟨h1, h2, h3⟩ := hnew _ hm
    exact ⟨.inl ⟨h1, h2⟩, h3, h⟩
  · exfalso
    have h1 := hnew p hp
    have h2 := hGB p hp
    omega
  · rw [AS.on_eq] at hk; rw [hr, hn]; exact hk
/-- At a loop's head, with blocks made in between: number i of l is number j of the state. -/
theorem Sub.new {s t : AS} (l : List (Nat × Nat)) (h : t.nt = s.nt ∧ t.k0 = s.k0 ∧ (t.k0 ≤ t.nx ∧ t.nx ≤ s.nx)) (hf : (l.all fun p => Nat.ble s.k0 p.1 && Nat.blt p.1 GB) = true) (htm : lkAll s.tm (rn l) t.tm) (hhp : hpAll s.hp (rn l) t.hp)
    (hn : nodB (t.hp.map fun p => rn l p.1) = true) (h1 : tmLt t.nx t.tm) (h2 : hpLt t.nx t.hp) : Sub s t l :=
  ⟨h.1, h.2.1, h.2.2, fun p hp => by
    have := List.all_eq_true.1 hf p hp
    simp only [Bool.and_eq_true] at this
    exact ⟨Nat.le_of_ble_eq_true this.1, Nat.le_of_ble_eq_true this.2⟩, htm, hhp, nodB_sound hn, h1, h2⟩
/-- What may be written is as it was. -/
def sameW (hp1 : List (Nat × ABlk)) : List (Nat × ABlk) → Prop
  | [] => True
  | (i, b) :: r => (match b.wr with | true => lk hp1 i = some b | false => True) ∧ sameW hp1 r
theorem sameW_get {hp1 : List (Nat × ABlk)} : ∀ {l : List (Nat × ABlk)}, sameW hp1 l → ∀ i b, lk l i = some b → b.wr = true → lk hp1 i = some b
  | [], _, i, b, h, _ => by cases h
  | (j, c) :: r, h, i, b, hi, hw => by
    simp only [lk] at hi
    split at hi
    · rename_i e; subst e; injection hi with hi; subst hi
      have h1 := h.1
      rw [hw] at h1; exact h1
    · exact sameW_get h.2 i b hi hw
def subW (hp0 : List (Nat × ABlk)) : List (Nat × ABlk) → Prop
  | [] => True
  | (i, b) :: r => lk hp0 i = some b ∧ subW hp0 r
theorem subW_get {hp0 : List (Nat × ABlk)} : ∀ {l : List (Nat × ABlk)}, subW hp0 l → ∀ p ∈ l, lk hp0 p.1 = some p.2
  | [], _, p, h => (List.not_mem_nil h).elim
  | (j, c) :: r, h, p, hp => by
    rcases List.mem_cons.1 hp with rfl | hp
    · exact h.1
    · exact subW_get h.2 p hp
/-- A call in a region that draws its order: what it may write it leaves as it is known. -/
theorem CallQ.keep {s : AS} {vs : List AV} {kq : AV → List (Nat × ABlk) → Nat → Prop} {hp0 : List (Nat × ABlk)} (l : List Nat) {r : AV} {hp1 : List (Nat × ABlk)} (r' : AV) (h : FDet P f args hp0 l.length r hp1 l.length) (ha : args.map (AV.ren (qq l s.nx)) = vs)
    (hb : (oldB s.nx l && nodB l && (l.all fun i => Nat.blt i GB) && nodB (hp0.map Prod.fst) && nodB (hp1.map Prod.fst) && Nat.ble s.nx GB && Nat.ble l.length GB) = true) (h1 : sameW hp1 hp0) (h2 : subW hp0 hp1)
    (hl : lies l s.nx s.hp hp0) (hr : r.ren (qq l s.nx) = r') (hk : s.on fun _ _ nx _ _ => kq r' [] nx) : CallQ P f vs s kq := by
  simp only [Bool.and_eq_true] at hb
  obtain ⟨⟨⟨⟨⟨⟨b1, b2⟩, b3⟩, b4⟩, b5⟩, b6⟩, b7⟩ := hb
  have b6 : s.nx ≤ GB := by simpa using b6
  have b7 : l.length ≤ GB := by simpa using b7
  have b3' : ∀ k ∈ l, k < GB := fun k hk => Nat.le_of_ble_eq_true (List.all_eq_true.1 b3 k hk)
  refine callQ_intro args hp0 l r hp1 l.length [] ⟨h, oldB_sound b1, ha, lies_get hl, ?_, nodB_sound b5, (fun i b hi hw => .inl (sameW_get h1 i b hi hw)), (fun i b h => by cases h), ⟨Nat.le_refl _, b7⟩, nodB_sound b4, (fun p hp => ?_), (fun p hp hw _ => ⟨_, subW_get h2 p hp, hw⟩), by simpa using b6⟩ ?_
  · intro i j b c hi hj hne _
    exact qq_inj b2 b3' (lies_get hl i b hi).1 (lies_get hl j c hj).1 hne
  · exact (lies_get hl p.1 p.2 (subW_get h2 p hp)).1
  · rw [AS.on_eq] at hk; simpa [hr] using hk
theorem prim_mp {m : List (List AC × AC)} (h : primM m) (n : Nat) : ABlk.lt n (.mp m) := fun p hp => ⟨fun x hx => prim_lt ((h p hp).1 x hx), prim_lt (h p hp).2⟩
theorem prim_ren {x : AC} (h : x.prim = true) (q : Nat → Nat) : x.ren q = x := by cases x <;> first | rfl | cases h
theorem mp_ren {m : List (List AC × AC)} (h : primM m) (q : Nat → Nat) : (ABlk.mp m).ren q = .mp m := by
  simp only [ABlk.ren]
  congr 1
  conv => rhs; rw [← List.map_id m]
  refine List.map_congr_left fun p hp => ?_
  obtain ⟨h1, h2⟩ := h p hp
  have : p.1.map (AC.ren q) = p.1 := by
    conv => rhs; rw [← List.map_id p.1]
    exact List.map_congr_left fun x hx => prim_ren (h1 x hx) q
  rw [this, prim_ren h2 q]; rfl
/-- A law of a map is some map's. -/
def openMi (i : Nat) (m : List (List AC × AC)) : List (Nat × ABlk) → List (Nat × ABlk)
  | [] => []
  | (j, b) :: r => if j = i then (j, .mp m) :: r else (j, b) :: openMi i m r
theorem lk_openMi (i : Nat) (m : List (List AC × AC)) : ∀ (hp : List (Nat × ABlk)) (j : Nat), lk (openMi i m hp) j = if j = i then (match lk hp i with | some _ => some (.mp m) | none => none) else lk hp j
  | [], j => by simp [openMi, lk]
  | (k, b) :: r, j => by
    simp only [openMi]
    by_cases h : k = i
    · subst h
      simp only [if_true, lk]
      by_cases h2 : k = j
      · subst h2; simp
      · simp [h2, Ne.symm h2]
    · simp only [if_neg h, lk]
      by_cases h2 : k = j
      · subst h2; simp [h]
      · simp only [if_neg h2]; exact lk_openMi i m r j
theorem FSpec.mi {hp : List (Nat × ABlk)} (i : Nat) {I : List (List AC × AC) → Prop} (hi : lk hp i = some (.mi I)) (hc : ∀ (vs : Array Value) (w : World), (callFunc f vs).run P w = .ok (.enter f vs) w) (h : ∀ m, I m → primM m → FSpec P f args (openMi i m hp) k Post) : FSpec P f args hp k Post where
  call := hc
  run := fun w R vs hok hsz hcon H => by
    obtain ⟨m, ⟨hI, hp'⟩, hB⟩ := BRel.mi_iff.1 (H.blk i _ hi)
    have H2 : HRel R (openMi i m hp) w := by
      refine ⟨fun j b hb => ?_, fun j j' b c hb hb' hne hw => ?_⟩
      · rw [lk_openMi] at hb
        split at hb
        · rename_i e; subst e; rw [hi] at hb; injection hb with hb; exact hb ▸ hB
        · exact H.blk j b hb
      · rw [lk_openMi] at hb hb'
        have hx : ∀ {j b}, (if j = i then (match lk hp i with | some _ => some (ABlk.mp m) | none => none) else lk hp j) = some b → ∃ b', lk hp j = some b' ∧ (b.wr = true → b'.wr = true) := by
          intro j b hb
          split at hb
          · rename_i e; subst e; exact ⟨_, hi, fun _ => rfl⟩
          · exact ⟨b, hb, fun h => h⟩
        obtain ⟨b1, e1, e2⟩ := hx hb
        obtain ⟨c1, e3, _⟩ := hx hb'
        exact H.inj j j' b1 c1 e1 e3 hne (e2 hw)
    refine ((h m hI hp').run w R vs hok hsz hcon H2).mono ?_
    have up : ∀ j b, lk (openMi i m hp) j = some b → b.wr = true → ∃ b', lk hp j = some b' ∧ b'.wr = true := fun j b hb hw => by
      rw [lk_openMi] at hb
      split at hb
      · rename_i e; subst e; exact ⟨_, hi, rfl⟩
      · exact ⟨b, hb, hw⟩
    rintro e w' ⟨u, r, hq, k', R', h1, h2, h3, h4, h5, h6, h7, h8, h9, h10, h11, h12⟩
    refine ⟨u, r, hq, k', R', h1, h2, h3, h4, h5, h6, h7, h8, h9, h10, fun j b hb hw => ?_, h12.mono ?_⟩
    · rcases h11 j b hb hw with ⟨i0, b0, g1, g2, g3⟩ | g
      · obtain ⟨b', g4, g5⟩ := up i0 b0 g1 g2
        exact .inl ⟨i0, b', g4, g5, g3⟩
      · exact .inr g
    · rintro j ⟨i0, b, g1, g2, g3⟩
      obtain ⟨b', g4, g5⟩ := up i0 b g1 g2
      exact ⟨i0, b', g4, g5, g3⟩
theorem rowEq {e z : Nat} {q : Nat → Nat} {xs : List Int} {cs : List AC} (h : cs = ints xs) : some (ABlk.row e z cs) = some ((ABlk.row e z (ints xs)).ren q) := by
  simp only [ABlk.ren, ints_ren, h]
theorem ownEq {q : Nat → Nat} {xs : List Int} {cs : List AC} (h : cs = ints xs) : some (ABlk.own cs) = some ((ABlk.own (ints xs)).ren q) := by
  simp only [ABlk.ren, ints_ren, h]
theorem ints_LA (p : Nat → Prop) (xs : List Int) : LA p (ints xs) ↔ True := ⟨fun _ => trivial, fun _ x hx => by
  obtain ⟨y, _, rfl⟩ := List.mem_map.1 hx; trivial⟩
theorem LA_nil (p : Nat → Prop) : LA p [] ↔ True := ⟨fun _ => trivial, fun _ x hx => (List.not_mem_nil hx).elim⟩
theorem LA_cons (p : Nat → Prop) (x : AC) (xs : List AC) : LA p (x :: xs) ↔ x.all p ∧ LA p xs :=
  ⟨fun h => ⟨h x (by simp), fun y hy => h y (by simp [hy])⟩, fun h y hy => by
    rcases List.mem_cons.1 hy with rfl | hy
    · exact h.1
    · exact h.2 y hy⟩
theorem nilsCond {a b m c : Nat} (h : (Nat.blt a b && decide ((m : Int) * (c : Int) ≤ 140737488355328) && Nat.ble m 9223372036854775807) = true) : a < b ∧ (m : Int) * (c : Int) ≤ 140737488355328 ∧ m ≤ 9223372036854775807 := by
  simp only [Bool.and_eq_true, decide_eq_true_eq] at h
  exact ⟨Nat.le_of_ble_eq_true h.1.1, h.1.2, Nat.le_of_ble_eq_true h.2⟩
theorem bsCond {a b c d e : Nat} (h : (Nat.blt a b && Nat.blt 0 c && Nat.beq d c && Nat.ble e 16777216) = true) : a < b ∧ 0 < c ∧ d = c ∧ e ≤ 16777216 := by
  simp only [Bool.and_eq_true] at h
  exact ⟨Nat.le_of_ble_eq_true h.1.1.1, Nat.le_of_ble_eq_true h.1.1.2, Nat.eq_of_beq_eq_true h.1.2, Nat.le_of_ble_eq_true h.2⟩
theorem LL_nil (n : Nat) : LL n [] ↔ True := ⟨fun _ => trivial, fun _ x hx => (List.not_mem_nil hx).elim⟩
theorem LL_cons (n : Nat) (x : AC) (xs : List AC) : LL n (x :: xs) ↔ x.lt n ∧ LL n xs :=
  ⟨fun h => ⟨h x (by simp), fun y hy => h y (by simp [hy])⟩, fun h y hy => by
    rcases List.mem_cons.1 hy with rfl | hy
    · exact h.1
    · exact h.2 y hy⟩
end Go.AH

/-
  A slice that is nil, where one is read.
-/
namespace Go.AH
open Go

variable {P : Program} {f : FuncId} {args : List AV} {hp : List (Nat × ABlk)}

/-- A contract that reads slice 0, at the empty slice: no such block is wanted. -/
theorem FDet.nil0 {r : AV} {k' : Nat} (h : FDet P f args ((0, .ro []) :: hp) 1 r [] k') (args' : List AV) (j : Nat) (cs : List AC) (hj : lk hp j = some (.ro cs)) (hw : wkVs ((0, .ro []) :: hp) args' args)
    (ha : ∀ v ∈ args', v.all (· ≠ 0)) (hb : ∀ p ∈ hp, p.1 ≠ 0 ∧ p.2.all (· ≠ 0)) (hr : r.all (· ≠ 0)) : FDet P f args' hp 1 r [] k' where
  call := h.call
  run := fun w R vs hok hsz hcon H => by
    have hb2 : ∀ i b, lk hp i = some b → i ≠ 0 ∧ b.all (· ≠ 0) := fun i b hi => hb _ (mem_lk hi)
    have hag : AgreeOn (· ≠ 0) R (R.set 0 (R.ρ j) 0 (R.κ j)) := fun i hi => by simp [Ren.set, hi]
    have H1 : HRel (R.set 0 (R.ρ j) 0 (R.κ j)) ((0, .ro []) :: hp) w := by
      refine ⟨fun i b hi => ?_, fun i i' b c hi hi' hne hwr => ?_⟩
      · simp only [lk] at hi
        split at hi
        · rename_i e; subst e; injection hi with hi; subst hi
          obtain ⟨c, t, z, hh, _⟩ := H.blk j _ hj
          exact ⟨c, t, z, by simpa using hh, fun i x hx => by simp at hx⟩
        · obtain ⟨h1, h2⟩ := hb2 i b hi
          exact BRel.agreeOn hag h1 h2 (H.blk i b hi)
      · simp only [lk] at hi hi'
        split at hi
        · injection hi with hi; subst hi; cases hwr
        · have h1 := hb2 i b hi
          rw [(hag i h1.1).1]
          split at hi'
          · rename_i e; subst e
            rw [Ren.set_ρ]
            refine H.inj i j b _ hi hj ?_ hwr
            intro e; subst e; rw [hj] at hi; injection hi with hi; subst hi; cases hwr
          · have h2 := hb2 i' c hi'
            rw [(hag i' h2.1).1]
            exact H.inj i i' b c hi hi' hne hwr
    obtain ⟨hl, hg⟩ := wkVs_get hw
    refine (h.run w _ vs (Ren.set_ok 0 _ _ _ (by decide) hok) (by omega) (fun i v hi => ?_) H1).mono ?_
    · obtain ⟨x, h1, h2⟩ := hg i v hi
      obtain ⟨u, h3, h4⟩ := hcon i x h1
      exact ⟨u, h3, wkV_sound h2 H1 (conV.agreeOn hag (ha x (List.mem_of_getElem? h1)) h4)⟩
    · rintro e w' ⟨u, r', hq, k2, R', h1, ⟨e1, e2, e3⟩, h3, h4, h5, h6, h7, h8, h9, h10, h11, h12⟩
      subst e1; subst e2; subst e3
      have hag2 : AgreeOn (· ≠ 0) R' (R'.set 0 (R.ρ 0) (R.δ 0) (R.κ 0)) := fun i hi => by simp [Ren.set, hi]
      refine ⟨u, r', [], k2, R'.set 0 (R.ρ 0) (R.δ 0) (R.κ 0), h1, ⟨rfl, rfl, rfl⟩, Ren.set_ok 0 _ _ _ (by decide) h3, fun i hi => ?_, h5, conV.agreeOn hag2 hr h6, h7, ⟨(fun i b hb => by cases hb), (fun i i' b c hi => by cases hi)⟩, h9, h10, (fun i b hb => by cases hb), h12.mono ?_⟩
      · by_cases h0 : i = 0
        · subst h0; simp
        · obtain ⟨a, b, c⟩ := h4 i hi
          obtain ⟨a2, b2, c2⟩ := hag i h0
          obtain ⟨a3, b3, c3⟩ := hag2 i h0
          exact ⟨by rw [a3, a, a2], by rw [b3, b, b2], by rw [c3, c, c2]⟩
      · rintro j' ⟨i, b, g1, g2, g3⟩
        simp only [lk] at g1
        split at g1
        · injection g1 with g1; subst g1; cases g2
        · exact ⟨i, b, g1, g2, by rw [← (hag i (hb2 i b g1).1).1]; exact g3⟩
end Go.AH

/-
  A call by a contract that says what comes back up to something unknown.
-/
namespace Go.AH
open Go

variable {P : Program} {f : FuncId} {vs : List AV} {s : AS} {kk : AV → AS → Prop}

/-- A call by a contract with a ghost: what comes back depends on an x of which I is known. -/
theorem CallA.any {X : Type} {I : X → Prop} {args : List AV} {hp0 : List (Nat × ABlk)} (l : List Nat) {r : X → AV} {hp1 : X → List (Nat × ABlk)} {k1 : Nat} (r' : X → AV) (hp2 : X → List (Nat × ABlk))
    (h : FSpec P f args hp0 l.length (fun r2 hq k' => ∃ x, I x ∧ r2 = r x ∧ hq = hp1 x ∧ k' = k1)) (ha : args.map (AV.ren (qq l s.nx)) = vs)
    (hb : (oldB s.nx l && nodB l && (l.all fun i => Nat.blt i GB) && Nat.ble (s.nx + (k1 - l.length)) GB) = true)
    (hl : lies l s.nx s.hp hp0) (hr : ∀ x, (r x).ren (qq l s.nx) = r' x) (hh : ∀ x, behind l s.nx hp0 (hp1 x) (gone l s.nx hp0 s.hp) = hp2 x) (hk : ∀ x, I x → s.on fun tm hp nx nt k0 => kk (r' x) ⟨tm, hp2 x, nx + (k1 - l.length), nt, k0⟩) : CallA P f vs s kk := by
  simp only [Bool.and_eq_true] at hb
  obtain ⟨⟨⟨b1, b2⟩, b3⟩, b4⟩ := hb
  have b4 : s.nx + (k1 - l.length) ≤ GB := by simpa using b4
  have b3 : ∀ k ∈ l, k < GB := fun k hk => by simpa using List.all_eq_true.1 b3 k hk
  refine callA_intro (args := args) (hp0 := hp0) (l := l) ⟨h, oldB_sound b1, ha, lies_get hl, ?_, ?_⟩
  · intro i j b c hi hj hne _
    exact qq_inj b2 b3 (lies_get hl i b hi).1 (lies_get hl j c hj).1 hne
  · rintro r2 hp' k' ⟨x, hx, rfl, rfl, rfl⟩
    exact ⟨b4, by rw [hr, hh]; exact hk x hx⟩
end Go.AH

/-
  Short words for the steps of a walk: conditions that close themselves.
-/
namespace Go.AH
open Go

/-- The condition closes itself, and the walk goes on. -/
theorem Wk.and {p q : Prop} (hq : q) (hp : p := by (first | exact Nat.le_of_ble_eq_true rfl | exact ⟨rfl, Nat.le_of_ble_eq_true rfl⟩ | exact ⟨Nat.le_of_ble_eq_true rfl, rfl⟩ | exact ⟨rfl, rfl⟩ | (with_reducible assumption) | exact ⟨by with_reducible assumption, rfl⟩ | ((with_reducible refine bsCond ?_); rfl) | ((with_reducible refine nilsCond ?_); rfl) | omega | exact ⟨rfl, by omega⟩ | exact ⟨by omega, rfl⟩ | exact ⟨by omega, by omega, by omega, by omega, rfl⟩ | decide | (unfold I64; omega) | exact ⟨by omega, by omega, by unfold I64; omega⟩ | exact ⟨trivial, fun q hq => absurd hq List.not_mem_nil⟩ | (simp [AV.all, AC.all, AE.all, ABlk.all, avAll, holes, rgN, outside, ints_LA, LA_nil, LA_cons] <;> fail) | exact ⟨by omega, by show _ < (64 : Int); omega⟩)) : p ∧ q := ⟨hp, hq⟩
/-- The test is true. -/
theorem Wk.yes {p q r s : Prop} (hq : q) (h : ¬ r := by decide) : (p → q) ∧ (r → s) := ⟨fun _ => hq, fun hr => absurd hr h⟩
/-- The test is false. -/
theorem Wk.no {p q r s : Prop} (hs : s) (h : ¬ p := by decide) : (p → q) ∧ (r → s) := ⟨fun hp => absurd hp h, fun _ => hs⟩
/-- The rest of a walk. -/
structure Wkq (Q : Prop) : Prop where
  of : Q
/-- Walk on to the next thing that needs a word. -/
theorem Wk.on {P Q : Prop} (q : Q) (h : Wkq Q → P := by intro h; (conv => whnf); (repeat ((first | (refine ⟨rfl, ?_⟩) | (refine ⟨trivial, ?_⟩) | (refine Wk.yes ?_) | (refine Wk.no ?_) | (refine Wk.and ?_)); (conv => whnf))); exact h.of) : P := h ⟨q⟩
end Go.AH
