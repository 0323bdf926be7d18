/-
  Regions and code over abstract states; a function's contract out of its body.
-/
import Derived.Test.YtfphkpdobbffeaaDoorAh9
import Derived.Shelf.Abstract
set_option linter.unusedSimpArgs false
set_option linter.unusedVariables false
namespace Go.AH
open Go.RowKit

/-- No fence but the round's. -/
def FW (r : Option Nat) : Fence := { Fence.wide with round := r }

variable {P : Program} {T : Nat → Option TI} {md : Bool} {E : Env} {R R' : Ren} {s : AS} {a : Act} {w w' : World} {n : Nat} {r : Option Nat}

theorem callsFW {f : FuncId} {args : Array Value} {X : Ending → World → Prop} (h : Calls P f args w X) : CallsIn (FW r) n P f args w X := by
  have h2 : CallsIn Fence.wide n P f args w X := callsIn_wide.2 h
  exact ⟨trivial, fun cs hr => h2.2 cs (room_wide _)⟩

def AV.p (i : Nat) : AV := .c (.ptr i 0)

def argsA (s : AS) : List Operand → (List AV → Prop) → Prop
  | [], k => k []
  | x :: r, k => onV s x fun v => argsA s r fun vs => k (v :: vs)

/-- One operation. -/
def opA (P : Program) (T : Nat → Option TI) (md : Bool) (s : AS) (o : Op) (k : AV → AS → Prop) : Prop :=
  match o with
  | .call c => match c.callee with
    | .value x => onC s x fun p => match p with
      | .fn f fs cs => argsA s c.args.toList fun vs => CallA P f (fs.map AV.p ++ vs ++ cs.map AV.p) s k
      | _ => False
    | _ => stepA T md s (.call c) k
  | o => stepA T md s o k

def putA (d : Option Tmp) (v : AV) (s : AS) (k : AS → Prop) : Prop := match d with
  | none => k s
  | some d => s.on fun tm hp nx nt k0 => lit (decide (d < nt)) (k ⟨(d, v) :: tm, hp, nx, nt, k0⟩)

def opsW (P : Program) (T : Nat → Option TI) (md : Bool) (all : List Oper) : List Oper → AS → (AS → Prop) → Prop
  | [], s, K => K s
  | o :: r, s, K => match o.guard with
    | none => opA P T md s o.op fun v s' => putA o.dst v s' fun s'' => opsW P T md all r s'' K
    | some (j, want) => match (all[j]?).bind (·.dst) with
      | some d => match lk s.tm d with
        | some (.c (.bool b)) =>
          (b = want → s.on fun tm hp nx nt k0 => opA P T md ⟨(d, .c (.bool want)) :: tm, hp, nx, nt, k0⟩ o.op fun v s' => putA o.dst v s' fun s'' => opsW P T md all r s'' K) ∧
          (b = (!want) → s.on fun tm hp nx nt k0 => putA o.dst (.t []) ⟨(d, .c (.bool (!want))) :: tm, hp, nx, nt, k0⟩ fun s'' => opsW P T md all r s'' K)
        | some (.t []) => putA o.dst (.t []) s fun s'' => opsW P T md all r s'' K
        | _ => False
      | none => False

/-- No loop over a function within. -/
def flatC : Code → Bool
  | .seq x y => flatC x && flatC y
  | .cond _ x y => flatC x && flatC y
  | .block _ c => flatC c
  | .loop c => flatC c
  | .scope c => flatC c
  | .rangeFunc .. => false
  | _ => true
/-- Where loops over functions may stand: outside their rounds. -/
def Top (c : Code) (n : Nat) (r : Option Nat) : Prop := (r = none ∧ 3 ≤ n) ∨ flatC c = true

/-- What code does, from any world that fits. -/
def Tr (P : Program) (c : Code) (s : AS) (Q : Exit → AS → Prop) : Prop :=
  ∀ (E : Env) (R : Ren) (a : Act) (w : World) (n : Nat) (r : Option Nat), Fit E R s a w → Top c n r → c.wpIn (FW r) n P (fun e a' w' => ∃ R' s', Q e s' ∧ Fit E R' s' a' w') a w

def thenA (k : AS → Prop) (Q : Exit → AS → Prop) : Exit → AS → Prop
  | .normal, s => k s
  | e, s => Q e s
def blockA (id : Nat) (Q : Exit → AS → Prop) : Exit → AS → Prop
  | .exit i, s => if i = id then Q .normal s else Q (.exit i) s
  | e, s => Q e s
def noGotoA (Q : Exit → AS → Prop) : Exit → AS → Prop
  | .goto _, _ => False
  | e, s => Q e s

def wpC (P : Program) (T : Nat → Option TI) (md : Bool) : Code → AS → (Exit → AS → Prop) → Prop
  | .skip, s, Q => Q .normal s
  | .region _ ops false, s, Q => opsW P T md ops.toList ops.toList s (Q .normal)
  | .region i ops true, s, Q => Tr P (.region i ops true) s Q
  | .seq x y, s, Q => wpC P T md x s (thenA (fun s' => wpC P T md y s' Q) Q)
  | .cond c x y, s, Q => onC s c fun q => match q with
    | .bool b => (b = true → wpC P T md x s Q) ∧ (b = false → wpC P T md y s Q)
    | _ => False
  | .block i c, s, Q => wpC P T md c s (blockA i Q)
  | .loop c, s, Q => Tr P (.loop c) s Q
  | .rangeFunc f ps x c, s, Q => Tr P (.rangeFunc f ps x c) s Q
  | .exit i, s, Q => Q (.exit i) s
  | .scope c, s, Q => wpC P T md c s (noGotoA Q)
  | .label _, s, Q => Q .normal s
  | .goto _, _, _ => False
  | .ret, s, Q => Q .ret s
  | .refuse _, _, _ => False

/-! ### Soundness -/
theorem argsA_sound : ∀ (l : List Operand) {k : List AV → Prop} (F : Fit E R s a w), argsA s l k → ∃ vs, k vs ∧ vs.length = l.length ∧ ∀ (i : Nat) (v : AV), vs[i]? = some v → ∃ u : Value, (l.map a.eval)[i]? = some u ∧ conV R v u
  | [], k, F, h => ⟨[], h, rfl, by simp⟩
  | x :: r, k, F, h => by
    simp only [argsA] at h
    obtain ⟨v, h, hc, hl⟩ := onV_sound F h
    obtain ⟨vs, h1, h2, h3⟩ := argsA_sound r F h
    refine ⟨v :: vs, h1, by simp [h2], fun i u hi => ?_⟩
    cases i with
    | zero => simp at hi; subst hi; exact ⟨_, rfl, hc⟩
    | succ i => simp at hi ⊢; simpa using h3 i u hi

theorem opA_sound (hT : TOk P T) {o : Oper} {k : AV → AS → Prop} {K : Act → World → Prop} {Q : Exit → Act → World → Prop} (h : opA P T md s o.op k) (F : Fit E R s a w)
    (hK : ∀ u w' s' R' v, k v s' → Fit E R' s' a w' → conV R' v u → v.lt s'.nx → K (a.put o.dst u) w') : o.wpIn (FW r) n P a w K Q := by
  refine ⟨fun f _ => trivial, ?_⟩
  have hnd : ∀ c, o.op ≠ .defer c := by
    intro c e
    rw [e] at h
    exact h
  rw [Oper.semAt_eq _ _ _ hnd]
  have step : stepA T md s o.op k → o.uponIn (FW r) n P a K Q ((execOp a.eval o).run P w) := by
    intro h
    obtain ⟨nx, w', u, R', s', v, h1, h2, h3, h4, h5, h6⟩ := step_sound hT F h
    rw [h1]
    rcases h2 with rfl | ⟨rfl, rfl⟩
    · exact hK u w' s' R' v h3 h4 h5 h6
    · exact hK undef w' s' R' v h3 h4 h5 h6
  unfold opA at h
  split at h
  · rename_i c ho
    split at h
    · rename_i x hcal
      obtain ⟨p, hk, hc, hp0⟩ := onC_sound F h
      split at hk <;> try exact hk.elim
      rename_i f fs cs
      obtain ⟨vs, hk, hlen, hvs⟩ := argsA_sound _ F hk
      obtain ⟨args, hp, l, Post, C⟩ := callA_elim hk
      simp only [conC] at hc
      have hcp : ∀ i, conV R (AV.p i) (R.p0 i) := fun i => rfl
      have hcalls := callOk_sound C F (us := (fs.map R.p0).toArray ++ c.args.map a.eval ++ (cs.map R.p0).toArray) (by simp [hlen]) (fun i v hi => by
        have e1 : ((fs.map R.p0).toArray ++ c.args.map a.eval ++ (cs.map R.p0).toArray)[i]? = (fs.map R.p0 ++ c.args.toList.map a.eval ++ cs.map R.p0)[i]? := by
          rw [← Array.getElem?_toList]; simp
        rw [e1]
        rw [List.append_assoc, List.getElem?_append, List.getElem?_append] at hi
        rw [List.append_assoc, List.getElem?_append, List.getElem?_append]
        simp only [List.length_map, hlen] at hi ⊢
        split at hi
        · rename_i q; rw [if_pos q]
          rw [List.getElem?_map] at hi ⊢
          cases hq : fs[i]? with
          | none => simp [hq] at hi
          | some j => simp [hq] at hi; subst hi; exact ⟨_, rfl, hcp j⟩
        · rename_i q; rw [if_neg q]
          split at hi
          · rename_i q2; rw [if_pos q2]; exact hvs _ v hi
          · rename_i q2; rw [if_neg q2]
            rw [List.getElem?_map] at hi ⊢
            cases hq : cs[i - fs.length - c.args.toList.length]? with
            | none => rw [hq] at hi; cases hi
            | some j => rw [hq] at hi; injection hi with hi; subst hi; exact ⟨_, rfl, hcp j⟩)
      have hrun : (execOp a.eval o).run P w = .ok (.enter f ((fs.map R.p0).toArray ++ c.args.map a.eval ++ (cs.map R.p0).toArray)) w := by
        have h2 := C.spec.call ((fs.map R.p0).toArray ++ c.args.map a.eval ++ (cs.map R.p0).toArray) w
        simp [execOp, ho, resolve, hcal, hc, Deferred.ofValue, invoke]
        simpa using h2
      rw [hrun]
      refine ⟨fun h => by simp [FW, Fence.wide] at h, callsFW (hcalls.mono ?_)⟩
      rintro e w' ⟨u, v, s', R', rfl, hk, F', hc', hl'⟩
      exact hK u w' s' R' v hk F' hc' hl'
    · exact step (by rw [ho]; exact h)
  · exact step h

theorem putA_sound {d : Option Tmp} {v : AV} {k : AS → Prop} {u : Value} (F : Fit E R s a w) (h : putA d v s k) (hc : conV R v u) (hl : v.lt s.nx) : ∃ s', k s' ∧ Fit E R s' (a.put d u) w := by
  cases d with
  | none => exact ⟨s, h, F⟩
  | some d =>
    obtain ⟨h1, h2⟩ := lit_iff.1 h
    rw [decide_eq_true_eq] at h1
    exact ⟨_, h2, F.put h1 hc hl⟩

theorem conV_undef (R : Ren) : conV R (.t []) undef := ⟨#[], rfl, rfl, by simp⟩

theorem Fit.tm_again {d : Nat} {v : AV} (F : Fit E R s a w) (h : lk s.tm d = some v) : Fit E R { s with tm := (d, v) :: s.tm } a w :=
  F.tm_sub fun i b hb => by
    simp only [lk] at hb
    split at hb
    · rename_i e; subst e; rw [h]; exact hb
    · exact hb

theorem opsW_sound (hT : TOk P T) {ops : Array Oper} {K : AS → Prop} {Q : Exit → Act → World → Prop} (hQ : ∀ s' R' a' w', K s' → Fit E R' s' a' w' → Q .normal a' w') : ∀ (l pre : List Oper) (s : AS) (R : Ren) (a : Act) (w : World), ops.toList = pre ++ l →
    opsW P T md ops.toList l s K → Fit E R s a w → wpOpsIn (FW r) n P ops Q (List.range' pre.length l.length) a w
  | [], pre, s, R, a, w, _, h, F => by
    simp only [List.length_nil, List.range'_zero, wpOpsIn]
    exact hQ s R a w h F
  | o :: l, pre, s, R, a, w, hops, h, F => by
    have ih : ∀ (s : AS) (R : Ren) (a : Act) (w : World), opsW P T md ops.toList l s K → Fit E R s a w → wpOpsIn (FW r) n P ops Q (List.range' (pre ++ [o]).length l.length) a w := fun s R a w => opsW_sound hT hQ l (pre ++ [o]) s R a w (by simp [hops])
    have hlen : (pre ++ [o]).length = pre.length + 1 := by simp
    rw [hlen] at ih
    have ho : ops[pre.length]? = some o := by
      rw [← Array.getElem?_toList, hops]; simp
    simp only [List.length_cons, List.range'_succ, wpOpsIn, ho]
    simp only [opsW, AS.on_eq] at h
    have run : ∀ s, Fit E R s a w → (opA P T md s o.op fun v s' => putA o.dst v s' fun s'' => opsW P T md ops.toList l s'' K) → o.wpIn (FW r) n P a w (wpOpsIn (FW r) n P ops Q (List.range' (pre.length + 1) l.length)) Q := by
      intro s F h
      refine opA_sound hT h F ?_
      intro u w' s' R' v hk F' hc hl
      obtain ⟨s'', hk, F''⟩ := putA_sound F' hk hc hl
      exact ih s'' R' _ w' hk F''
    have skip : ∀ s, Fit E R s a w → (putA o.dst (.t []) s fun s'' => opsW P T md ops.toList l s'' K) → wpOpsIn (FW r) n P ops Q (List.range' (pre.length + 1) l.length) (a.put o.dst undef) w := by
      intro s F h
      obtain ⟨s'', hk, F''⟩ := putA_sound F h (conV_undef R) (fun e he => by cases he)
      exact ih s'' R _ w hk F''
    split at h
    · rename_i hg
      rw [if_pos (by simp [Region.wanted, hg])]
      exact run s F h
    · rename_i j want hg
      split at h <;> try exact h.elim
      rename_i d hd
      have hy : yielded ops a.tmps j = match a.tmps[d]? with | some (.bool b) => some b | _ => none := by
        have : (ops[j]?).bind (·.dst) = some d := by rw [← Array.getElem?_toList]; exact hd
        simp only [yielded, this, Option.bind_some]
        cases a.tmps[d]? with
        | none => rfl
        | some v => cases v <;> rfl
      split at h <;> try exact h.elim
      · rename_i b hb
        obtain ⟨u, hu, hc⟩ := F.tm d _ hb
        simp only [conV, conC] at hc
        subst hc
        have hy2 : yielded ops a.tmps j = some b := by rw [hy, hu]
        by_cases hbw : b = want
        · rw [if_pos (by simp [Region.wanted, hg, hy2, hbw])]
          exact run _ (F.tm_again (by rw [← hbw]; exact hb)) (h.1 hbw)
        · rw [if_neg (by simp [Region.wanted, hg, hy2, hbw])]
          have hb2 : b = !want := by cases b <;> cases want <;> simp_all
          exact ⟨fun f _ => trivial, skip _ (F.tm_again (by rw [← hb2]; exact hb)) (h.2 hb2)⟩
      · rename_i hb
        obtain ⟨u, hu, hc⟩ := F.tm d _ hb
        obtain ⟨vs, rfl, _, _⟩ := hc
        have hy2 : yielded ops a.tmps j = none := by rw [hy, hu]
        rw [if_neg (by simp [Region.wanted, hg, hy2])]
        exact ⟨fun f _ => trivial, skip s F h⟩

theorem stepR_scope {b : Frame} {k : List Item} {cs : List Frame} {c : Code} : step P (lone (b.atR a (.code (.scope c) :: k)) cs w) = .next (lone (b.atR a (.code c :: .inScope c :: k)) cs w) :=
  step_lone_go (by simp [stepG, stepG.exec, Frame.atR])
theorem stepR_inScope {b : Frame} {k : List Item} {cs : List Frame} {c : Code} : step P (lone (b.atR a (.inScope c :: k)) cs w) = .next (lone (b.atR a k) cs w) :=
  step_lone_go (by simp [stepG, stepG.exec, Frame.atR])
def noGotoW (Q : Exit → Act → World → Prop) : Exit → Act → World → Prop
  | .goto _, _, _ => False
  | e, a, w => Q e a w
theorem wpIn_scope {F : Fence} {c : Code} {Q : Exit → Act → World → Prop} (h : c.wpIn F n P (noGotoW Q) a w) : (Code.scope c).wpIn F n P Q a w := by
  intro b k cs hro hb hr
  have h0 : (lone (b.atR a (.code (.scope c) :: k)) cs w).fenced P F := fenced_calm hb hr rfl
  obtain ⟨e, a₁, w₁, hq, harr⟩ := h b (.inScope c :: k) cs hro hb hr
  cases e with
  | normal => exact ⟨.normal, a₁, w₁, hq, .head h0 stepR_scope (StepsIn.trans harr (.one (fenced_calm hb hr rfl) stepR_inScope))⟩
  | exit id => exact ⟨.exit id, a₁, w₁, hq, fun k' hk => .head h0 stepR_scope (harr.1 k' (by simp [exitTo, hk])), fun hr' hk => let ⟨k₁, h1, h2⟩ := harr.2 hr' (by simp [exitTo, hk]); ⟨k₁, h1, .head h0 stepR_scope h2⟩⟩
  | goto l => exact hq.elim
  | ret => exact ⟨_, a₁, w₁, hq, .of_steps (.one h0 stepR_scope) harr⟩
  | panic ch => exact ⟨_, a₁, w₁, hq, .of_steps (.one h0 stepR_scope) harr⟩
  | outgrown => exact ⟨_, a₁, w₁, hq, .of_steps (.one h0 stepR_scope) harr⟩

theorem Tr.elim {c : Code} {Q : Exit → AS → Prop} (h : Tr P c s Q) (F : Fit E R s a w) (ht : Top c n r) : c.wpIn (FW r) n P (fun e a' w' => ∃ R' s', Q e s' ∧ Fit E R' s' a' w') a w := h E R a w n r F ht
theorem Tr.intro {c : Code} {Q : Exit → AS → Prop} (h : ∀ (E : Env) (R : Ren) (a : Act) (w : World) (n : Nat) (r : Option Nat), Fit E R s a w → Top c n r → c.wpIn (FW r) n P (fun e a' w' => ∃ R' s', Q e s' ∧ Fit E R' s' a' w') a w) : Tr P c s Q := h

theorem wpC_sound (hT : TOk P T) : ∀ (c : Code) (s : AS) (Q : Exit → AS → Prop), wpC P T md c s Q → Tr P c s Q
  | .skip, s, Q, h => fun E R a w n r F ht => wpIn_skip ⟨R, s, h, F⟩
  | .region i ops false, s, Q, h => fun E R a w n r F ht => by
    refine wpIn_region ?_
    rw [List.range_eq_range', ← Array.length_toList]
    exact opsW_sound hT (fun s' R' a' w' hk F' => ⟨R', s', hk, F'⟩) ops.toList [] s R a w (by simp) h F
  | .region i ops true, s, Q, h => h
  | .seq x y, s, Q, h => fun E R a w n r F ht => by
    have htx : Top x n r := ht.imp_right fun h => by simp only [flatC, Bool.and_eq_true] at h; exact h.1
    have hty : Top y n r := ht.imp_right fun h => by simp only [flatC, Bool.and_eq_true] at h; exact h.2
    refine wpIn_seq (wpIn_mono (wpC_sound hT x s _ h E R a w n r F htx) ?_)
    rintro e a' w' ⟨R', s', hk, F'⟩
    cases e with
    | normal => exact wpC_sound hT y s' Q hk E R' a' w' n r F' hty
    | _ => exact ⟨R', s', hk, F'⟩
  | .cond c x y, s, Q, h => fun E R a w n r F ht => by
    obtain ⟨q, hk, hc, hp0⟩ := onC_sound F h
    split at hk <;> try exact hk.elim
    rename_i b
    simp only [conC] at hc
    have htx : Top x n r := ht.imp_right fun h => by simp only [flatC, Bool.and_eq_true] at h; exact h.1
    have hty : Top y n r := ht.imp_right fun h => by simp only [flatC, Bool.and_eq_true] at h; exact h.2
    cases b with
    | true => exact wpIn_cond_true hc (wpC_sound hT x s Q (hk.1 rfl) E R a w n r F htx)
    | false => exact wpIn_cond_false hc (wpC_sound hT y s Q (hk.2 rfl) E R a w n r F hty)
  | .block i c, s, Q, h => fun E R a w n r F ht => by
    refine wpIn_block (wpIn_mono (wpC_sound hT c s _ h E R a w n r F ht) ?_)
    rintro e a' w' ⟨R', s', hk, F'⟩
    cases e with
    | exit j =>
      simp only [Exit.inBlock]
      simp only [blockA] at hk
      split at hk
      · rename_i e; rw [if_pos e]; exact ⟨R', s', hk, F'⟩
      · rename_i e; rw [if_neg e]; exact ⟨R', s', hk, F'⟩
    | _ => exact ⟨R', s', hk, F'⟩
  | .loop c, s, Q, h => h
  | .rangeFunc f ps x c, s, Q, h => h
  | .exit i, s, Q, h => fun E R a w n r F ht => wpIn_exit ⟨R, s, h, F⟩
  | .scope c, s, Q, h => fun E R a w n r F ht => by
    refine wpIn_scope (wpIn_mono (wpC_sound hT c s _ h E R a w n r F ht) ?_)
    rintro e a' w' ⟨R', s', hk, F'⟩
    cases e with
    | goto l => exact hk.elim
    | _ => exact ⟨R', s', hk, F'⟩
  | .label l, s, Q, h => fun E R a w n r F ht => wpIn_label ⟨R, s, h, F⟩
  | .goto l, s, Q, h => h.elim
  | .ret, s, Q, h => fun E R a w n r F ht => wpIn_ret ⟨R, s, h, F⟩
  | .refuse y, s, Q, h => h.elim

attribute [irreducible] Tr
end Go.AH
