/-
  A region that draws its order, walked once: the walk and its proof.
-/
import Derived.Test.YtfphkpdobbffeaaDoorAh16
set_option linter.unusedSimpArgs false
set_option linter.unusedVariables false
namespace Go.AH
open Go.RowKit

/-- One operation that leaves what is there alone: k is handed what it gives, the new blocks, the next number. -/
def quietA (P : Program) (T : Nat → Option TI) (md : Bool) (s : AS) (o : Op) (k : AV → List (Nat × ABlk) → Nat → Prop) : Prop :=
  match o with
  | .call c => match c.callee with
    | .value x => onC s x fun p => match p with
      | .fn f fs cs => argsA s c.args.toList fun vs => CallQ P f (fs.map AV.p ++ vs ++ cs.map AV.p) s k
      | _ => False
    | _ => match pureOp (.call c) with
      | true => stepA T md s (.call c) fun v _ => s.on fun _ _ nx _ _ => k v [] nx
      | false => False
  | o => match pureOp o with
    | true => stepA T md s o fun v _ => s.on fun _ _ nx _ _ => k v [] nx
    | false => match newOp o with
      | true => stepA T md s o fun v s' => s'.on fun _ hp nx _ _ => match hp with
        | b :: _ => k v [b] nx
        | [] => False
      | false => False

def avAll (hs : List (Nat × Nat)) (i : Nat) : Prop := ∀ p ∈ hs, outside p.1 p.2 i
def avB : List (Nat × Nat) → Nat → Bool
  | [], _ => true
  | (lo, hi) :: r, i => (Nat.blt i lo || Nat.ble hi i) && avB r i
def holes (un : List Nat) : List (Nat × Nat × Nat) → List (Nat × Nat)
  | [] => []
  | (j, lo, hi) :: r => match un.elem j with
    | true => (lo, hi) :: holes un r
    | false => holes un r
def keepT (dl : List Nat) : List (Nat × AV) → List (Nat × AV)
  | [] => []
  | (t, v) :: r => match dl.elem t with
    | true => keepT dl r
    | false => (t, v) :: keepT dl r
def keepH (hs : List (Nat × Nat)) : List (Nat × ABlk) → List (Nat × ABlk)
  | [] => []
  | (i, b) :: r => match avB hs i with
    | true => (i, b) :: keepH hs r
    | false => keepH hs r
def keepH' (hs : List (Nat × Nat)) (hp : List (Nat × ABlk)) : List (Nat × ABlk) := match hs with
  | [] => hp
  | hs => keepH hs hp
def dNext (hs : List (Nat × Nat)) (k : AV → List (Nat × ABlk) → Nat → Prop) (v : AV) (nb : List (Nat × ABlk)) (nx : Nat) : Prop :=
  lit (Nat.ble nx GB) (match hs with
    | [] => k v nb nx
    | hs => (v.all (avAll hs) ∧ ∀ q ∈ nb, q.2.all (avAll hs)) ∧ k v nb nx)
def dPut (d : Option Nat) (nt : Nat) (v : AV) (tm : List (Nat × AV)) (k : List (Nat × AV) → Prop) : Prop := match d with
  | none => k tm
  | some d => lit (decide (d < nt)) (k ((d, v) :: tm))
def dCat (nb hp : List (Nat × ABlk)) (k : List (Nat × ABlk) → Prop) : Prop := match nb with
  | [] => k hp
  | [b] => k (b :: hp)
  | b :: c :: r => k (b :: c :: (r ++ hp))
theorem dCat_eq (nb hp : List (Nat × ABlk)) (k : List (Nat × ABlk) → Prop) : dCat nb hp k = k (nb ++ hp) := by
  rcases nb with _ | ⟨b, _ | ⟨c, r⟩⟩ <;> rfl
def rgN (i nx nx' : Nat) (rg : List (Nat × Nat × Nat)) : List (Nat × Nat × Nat) := match Nat.beq nx' nx with
  | true => rg
  | false => (i, nx, nx') :: rg

def drawA (P : Program) (T : Nat → Option TI) (md : Bool) (all : List Oper) (K : AS → Prop) : List PE → List Oper → Nat → List (Nat × Nat × Nat) → AS → Prop
  | [], l, _, _, s => opsW P T md all l s K
  | _ :: _, [], _, _, _ => False
  | p :: pl, o :: l, i, rg, s => s.on fun tm hp nx nt k0 => match o.guard with
    | none => quietA P T md ⟨keepT p.dl tm, keepH' (holes p.un rg) hp, nx, nt, nx⟩ o.op (dNext (holes p.un rg) fun v nb nx' => dCat nb hp fun hp => dPut o.dst nt v tm fun tm => drawA P T md all K pl l (i + 1) (rgN i nx nx' rg) ⟨tm, hp, nx', nt, k0⟩)
    | some (j, want) => match (all[j]?).bind (·.dst) with
      | some d => match lk (keepT p.dl tm) d with
        | some (.c (.bool b)) =>
          (b = want → quietA P T md ⟨(d, .c (.bool want)) :: keepT p.dl tm, keepH' (holes p.un rg) hp, nx, nt, nx⟩ o.op (dNext (holes p.un rg) fun v nb nx' => dCat nb hp fun hp => dPut o.dst nt v ((d, .c (.bool want)) :: tm) fun tm => drawA P T md all K pl l (i + 1) (rgN i nx nx' rg) ⟨tm, hp, nx', nt, k0⟩)) ∧
          (b = (!want) → dPut o.dst nt (.t []) ((d, .c (.bool (!want))) :: tm) fun tm => drawA P T md all K pl l (i + 1) rg ⟨tm, hp, nx, nt, k0⟩)
        | some (.t []) => dPut o.dst nt (.t []) tm fun tm => drawA P T md all K pl l (i + 1) rg ⟨tm, hp, nx, nt, k0⟩
        | _ => False
      | none => False

variable {P : Program} {T : Nat → Option TI} {md : Bool} {E : Env} {R R2 : Ren} {s : AS} {a : Act} {w w' : World}

/-- What a quiet operation gives is one thing, and it gives it in every world that fits. -/
theorem quietA_det (hT : TOk P T) {o : Oper} {k : AV → List (Nat × ABlk) → Nat → Prop} (h : quietA P T md s o.op k) :
    ∃ v nb nx', k v nb nx' ∧ s.nx ≤ nx' ∧ (∀ i c, lk nb i = some c → (s.nx ≤ i ∧ i < nx') ∧ c.wr = true) ∧
      ∀ (E : Env) (R : Ren) (a : Act) (w : World) (n : Nat) (r : Option Nat) (Q : Exit → Act → World → Prop), Fit E R s a w →
        o.wpIn (FW r) n P a w (fun a' w' => ∃ u R2, a' = a.put o.dst u ∧ Fit E R2 ⟨s.tm, nb ++ s.hp, nx', s.nt, s.k0⟩ a w' ∧ conV R2 v u ∧ v.lt nx') Q := by
  obtain ⟨dst, op, ty, pos, after, guard⟩ := o
  have pure1 : pureOp op = true → stepA T md s op (fun v _ => s.on fun _ _ nx _ _ => k v [] nx) → (∀ k', opA P T md s op k' = stepA T md s op k') →
      ∃ v nb nx', k v nb nx' ∧ s.nx ≤ nx' ∧ (∀ i c, lk nb i = some c → (s.nx ≤ i ∧ i < nx') ∧ c.wr = true) ∧
      ∀ (E : Env) (R : Ren) (a : Act) (w : World) (n : Nat) (r : Option Nat) (Q : Exit → Act → World → Prop), Fit E R s a w →
        Oper.wpIn (FW r) n P ⟨dst, op, ty, pos, after, guard⟩ a w (fun a' w' => ∃ u R2, a' = a.put dst u ∧ Fit E R2 ⟨s.tm, nb ++ s.hp, nx', s.nt, s.k0⟩ a w' ∧ conV R2 v u ∧ v.lt nx') Q := by
    intro ho h hop
    obtain ⟨v, h1, h2⟩ := pure_det op ho _ h
    refine ⟨v, [], s.nx, h1, Nat.le_refl _, (fun i c h => by cases h), fun E R a w n r Q F => ?_⟩
    refine opA_sound (k := fun v' s' => v' = v ∧ s' = s) hT (o := ⟨dst, op, ty, pos, after, guard⟩) (by rw [hop]; exact h2 _ ⟨rfl, rfl⟩) F ?_
    rintro u w' s' R' v' ⟨rfl, rfl⟩ F' hc hl
    exact ⟨u, R', rfl, F', hc, hl⟩
  have new1 : newOp op = true → stepA T md s op (fun v s' => s'.on fun _ hp nx _ _ => match hp with | b :: _ => k v [b] nx | [] => False) → (∀ k', opA P T md s op k' = stepA T md s op k') →
      ∃ v nb nx', k v nb nx' ∧ s.nx ≤ nx' ∧ (∀ i c, lk nb i = some c → (s.nx ≤ i ∧ i < nx') ∧ c.wr = true) ∧
      ∀ (E : Env) (R : Ren) (a : Act) (w : World) (n : Nat) (r : Option Nat) (Q : Exit → Act → World → Prop), Fit E R s a w →
        Oper.wpIn (FW r) n P ⟨dst, op, ty, pos, after, guard⟩ a w (fun a' w' => ∃ u R2, a' = a.put dst u ∧ Fit E R2 ⟨s.tm, nb ++ s.hp, nx', s.nt, s.k0⟩ a w' ∧ conV R2 v u ∧ v.lt nx') Q := by
    intro ho h hop
    obtain ⟨v, c, h1, hw, h2⟩ := new_det op ho _ h
    refine ⟨v, [(s.nx, c)], s.nx + 1, h1, by omega, (fun i c' h => ?_), fun E R a w n r Q F => ?_⟩
    · simp only [lk] at h
      split at h
      · rename_i e; subst e; injection h with h; subst h; exact ⟨by omega, hw⟩
      · cases h
    refine opA_sound (k := fun v' s' => v' = v ∧ s' = ⟨s.tm, (s.nx, c) :: s.hp, s.nx + 1, s.nt, s.k0⟩) hT (o := ⟨dst, op, ty, pos, after, guard⟩) (by rw [hop]; exact h2 _ ⟨rfl, rfl⟩) F ?_
    rintro u w' s' R' v' ⟨rfl, rfl⟩ F' hc hl
    exact ⟨u, R', rfl, F', hc, hl⟩
  cases op with
  | call c =>
    obtain ⟨cal, args, tys⟩ := c
    cases cal with
    | value x =>
      simp only [quietA] at h
      obtain ⟨p, h, hp2⟩ := onC_det s x _ h
      cases p <;> try exact h.elim
      rename_i f fs cs
      have argsDet : ∀ (l : List Operand), DetC (argsA s l) := by
        intro l
        induction l with
        | nil => exact DetC.pure _
        | cons x l ih => exact DetC.bind (f := onV s x) (g := fun v k => argsA s l fun vs => k (v :: vs)) (onV_det s x) fun v => DetC.bind (f := argsA s l) (g := fun vs k => k (v :: vs)) ih fun vs => DetC.pure _
      obtain ⟨vs, h, hvs⟩ := argsDet _ _ h
      obtain ⟨as0, hp0, l, r, hp1, k1, nb, C, hk⟩ := callQ_elim h
      refine ⟨_, _, _, hk, by omega, ?_, fun E R a w n r Q F => ?_⟩
      · intro i c hc
        have := mem_lk hc
        obtain ⟨⟨j, c0⟩, hm, e⟩ := List.mem_map.1 this
        injection e with e1 e2
        -- the first entry of number i
        have mapLk : ∀ (nb : List (Nat × ABlk)) (b : ABlk), lk (nb.map fun p => (qq l s.nx p.1, p.2.ren (qq l s.nx))) i = some b → ∃ j c, lk nb j = some c ∧ qq l s.nx j = i ∧ c.ren (qq l s.nx) = b := by
          intro nb
          induction nb with
          | nil => intro b h; cases h
          | cons p nb ih =>
            obtain ⟨j, c⟩ := p
            intro b h
            simp only [List.map_cons, lk] at h
            split at h
            · rename_i e; injection h with h; exact ⟨j, c, by simp [lk], e, h⟩
            · rename_i e
              obtain ⟨j2, c2, h1, h2, h3⟩ := ih b h
              refine ⟨j2, c2, ?_, h2, h3⟩
              simp only [lk]
              rw [if_neg]
              · exact h1
              · intro e2; subst e2; exact e h2
        obtain ⟨j2, c2, g1, g2, g3⟩ := mapLk _ _ hc
        obtain ⟨g4, g5, _⟩ := C.new j2 c2 g1
        have := C.le
        rw [qq_new g4.1 (by omega)] at g2
        exact ⟨by omega, by rw [← g3, ABlk.ren_wr]; exact g5⟩
      · -- the call
        refine ⟨fun f _ => trivial, ?_⟩
        rw [Oper.semAt_eq _ _ _ (by intro c e; cases e)]
        obtain ⟨p, hk2, hc, hp0'⟩ := onC_sound F (hp2 (fun q => q = .fn f fs cs) rfl)
        subst hk2
        obtain ⟨vs2, hk3, hlen, hvs2⟩ := argsA_sound _ F (hvs (fun q => q = vs) rfl)
        subst hk3
        simp only [conC] at hc
        have hcp : ∀ i, conV R (AV.p i) (R.p0 i) := fun i => rfl
        have hcalls := callQ_sound C F (us := (fs.map R.p0).toArray ++ args.map a.eval ++ (cs.map R.p0).toArray) (by simp [hlen]) (fun i v hi => by
          have e1 : ((fs.map R.p0).toArray ++ args.map a.eval ++ (cs.map R.p0).toArray)[i]? = (fs.map R.p0 ++ args.toList.map a.eval ++ cs.map R.p0)[i]? := by
            rw [← Array.getElem?_toList]; simp
          rw [e1]
          rw [List.append_assoc, List.getElem?_append, List.getElem?_append] at hi
          rw [List.append_assoc, List.getElem?_append, List.getElem?_append]
          simp only [List.length_map, hlen] at hi ⊢
          split at hi
          · rename_i q; rw [if_pos q]
            rw [List.getElem?_map] at hi ⊢
            cases hq : fs[i]? with
            | none => simp [hq] at hi
            | some j => simp [hq] at hi; subst hi; exact ⟨_, rfl, hcp j⟩
          · rename_i q; rw [if_neg q]
            split at hi
            · rename_i q2; rw [if_pos q2]; exact hvs2 _ v hi
            · rename_i q2; rw [if_neg q2]
              rw [List.getElem?_map] at hi ⊢
              cases hq : cs[i - fs.length - args.toList.length]? with
              | none => rw [hq] at hi; cases hi
              | some j => rw [hq] at hi; injection hi with hi; subst hi; exact ⟨_, rfl, hcp j⟩)
        have hrun : (execOp a.eval ⟨dst, .call ⟨.value x, args, tys⟩, ty, pos, after, guard⟩).run P w = .ok (.enter f ((fs.map R.p0).toArray ++ args.map a.eval ++ (cs.map R.p0).toArray)) w := by
          have h2 := C.spec.call ((fs.map R.p0).toArray ++ args.map a.eval ++ (cs.map R.p0).toArray) w
          simp [execOp, resolve, hc, Deferred.ofValue, invoke]
          simpa using h2
        rw [hrun]
        refine ⟨fun h => by simp [FW, Fence.wide] at h, callsFW (hcalls.mono ?_)⟩
        rintro e w' ⟨u, R', rfl, F', hc', hl'⟩
        exact ⟨u, R', rfl, F', hc', hl'⟩
    | builtin b =>
      simp only [quietA] at h
      split at h
      · rename_i hp; exact pure1 hp h fun _ => rfl
      · exact h.elim
    | invoke x m =>
      simp only [quietA] at h
      split at h
      · rename_i hp; exact pure1 hp h fun _ => rfl
      · exact h.elim
  | _ =>
    simp only [quietA] at h
    split at h
    · rename_i hp; exact pure1 hp h fun _ => rfl
    · split at h
      · rename_i hp; exact new1 hp h fun _ => rfl
      · exact h.elim

end Go.AH
