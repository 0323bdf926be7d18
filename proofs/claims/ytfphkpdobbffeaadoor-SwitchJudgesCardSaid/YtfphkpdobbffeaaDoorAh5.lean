/-
  A region that draws its order, walked once: the walk and its proof.
-/
import Derived.Test.YtfphkpdobbffeaaDoorAh4
set_option linter.unusedSimpArgs false
set_option linter.unusedVariables false
namespace Go.AH
open Go.RowKit

def appQ (T : Nat → Option TI) (s : AS) (x y : Operand) (t t' : Nat) (k : AV → List (Nat × ABlk) → Nat → Prop) : Prop :=
  s.on fun tm hp nx nt k0 => t = t' ∧ onC ⟨tm, hp, nx, nt, k0⟩ x fun p => onC ⟨tm, hp, nx, nt, k0⟩ y fun q => match T t with
    | some { d := .slice e, .. } => (match T e with
      | some i => (0 < i.size ∧ i.zero.length = i.size) ∧ stepA.newsOf ⟨tm, hp, nx, nt, k0⟩ q i.size fun m nw =>
        (match p with
        | .nils => (nx < GB ∧ (m : Int) * i.bytes ≤ 140737488355328 ∧ m ≤ 9223372036854775807 ∧ 0 < m) ∧ k (.c (.row nx m)) [(nx, .row e i.size nw)] (nx + 1)
        | .rp id o len c z => (match lk hp id with
          | some (.row e' z' cs) => (e' = e ∧ z' = i.size ∧ z = i.size ∧ o * z + len * z ≤ cs.length) ∧
              (len + m ≤ c → k (.c (.rp id o (len + m) c z)) [(id, .row e z (cs.take (o * z + len * z) ++ nw ++ cs.drop (o * z + len * z + m * z)))] nx) ∧
              (c < len + m → (nx < GB ∧ ((len + m : Nat) : Int) * i.bytes ≤ 140737488355328 ∧ len + m ≤ 9223372036854775807) ∧ k (.c (.row nx (len + m))) [(nx, .row e i.size ((cs.drop (o * z)).take (len * z) ++ nw))] (nx + 1))
          | _ => False)
        | _ => False)
      | none => False)
    | _ => False

def quietA (P : Program) (T : Nat → Option TI) (md : Bool) (s : AS) (o : Op) (k : AV → List (Nat × ABlk) → Nat → Prop) : Prop :=
  match o with
  | .call c => match c.callee with
    | .value x => onC s x fun p => match p with
      | .fn f fs cs => argsA s c.args.toList fun vs => CallQ P f (fs.map AV.p ++ vs ++ cs.map AV.p) s k
      | _ => False
    | .builtin .append => match c.args.toList, c.argTypes.toList with
      | [x, y], [t, t'] => appQ T s x y t t' k
      | _, _ => False
    | _ => match pureOp (.call c) with
      | true => stepA T md s (.call c) fun v _ => s.on fun _ _ nx _ _ => k v [] nx
      | false => False
  | .store t x y => onC s x fun p => match p with
    | .ptr id _ => stepA T md s (.store t x y) fun v s' => s'.on fun _ hp nx _ _ => match lk hp id with
      | some b => k v [(id, b)] nx
      | none => False
    | _ => False
  | o => match pureOp o with
    | true => stepA T md s o fun v _ => s.on fun _ _ nx _ _ => k v [] nx
    | false => match newOp o with
      | true => stepA T md s o fun v s' => s'.on fun _ hp nx _ _ => match hp with
        | b :: _ => k v [b] nx
        | [] => False
      | false => False

def avAll (hs : List (Nat × Nat)) (i : Nat) : Prop := ∀ p ∈ hs, outside p.1 p.2 i
def avB : List (Nat × Nat) → Nat → Bool
  | [], _ => true
  | (lo, hi) :: r, i => (Nat.blt i lo || Nat.ble hi i) && avB r i
def holes (un : List Nat) : List (Nat × Nat × Nat) → List (Nat × Nat)
  | [] => []
  | (j, lo, hi) :: r => match un.elem j with
    | true => (lo, hi) :: holes un r
    | false => holes un r
def keepT {β : Type} (dl : List Nat) : List (Nat × β) → List (Nat × β)
  | [] => []
  | (t, v) :: r => match dl.elem t with
    | true => keepT dl r
    | false => (t, v) :: keepT dl r
def keepH (hs : List (Nat × Nat)) : List (Nat × ABlk) → List (Nat × ABlk)
  | [] => []
  | (i, b) :: r => match avB hs i with
    | true => (i, b) :: keepH hs r
    | false => keepH hs r
def keepH' (hs : List (Nat × Nat)) (hp : List (Nat × ABlk)) : List (Nat × ABlk) := match hs with
  | [] => hp
  | hs => keepH hs hp
def keepD (hd : List Nat) (hp : List (Nat × ABlk)) : List (Nat × ABlk) := match hd with
  | [] => hp
  | hd => keepT hd hp
def nbB (ws : List Nat) (b b' : Nat) (nb : List (Nat × ABlk)) : Bool := nb.all fun q => (Nat.ble b q.1 && Nat.blt q.1 b') || ws.elem q.1
def dNew (ws : List Nat) (b : Nat) (k : AV → List (Nat × ABlk) → Nat → Prop) (v : AV) (nb : List (Nat × ABlk)) (nx : Nat) : Prop := match nb with
  | [] => k v [] nx
  | nb => lit (nbB ws b nx nb) (k v nb nx)
theorem dNew_elim {ws : List Nat} {b : Nat} {k : AV → List (Nat × ABlk) → Nat → Prop} {v : AV} {nb : List (Nat × ABlk)} {nx : Nat} (h : dNew ws b k v nb nx) :
    (∀ i c, lk nb i = some c → (b ≤ i ∧ i < nx) ∨ i ∈ ws) ∧ k v nb nx := by
  cases nb with
  | nil => exact ⟨fun i c h => (by cases h), h⟩
  | cons p nb =>
    obtain ⟨h1, h2⟩ := lit_iff.1 h
    refine ⟨fun i c hc => ?_, h2⟩
    have := List.all_eq_true.1 h1 (i, c) (mem_lk hc)
    simp only [Bool.or_eq_true, Bool.and_eq_true] at this
    rcases this with h | h
    · exact .inl ⟨by simpa using h.1, by simpa using h.2⟩
    · exact .inr (by simpa using h)
def dNext (hs : List (Nat × Nat)) (k : AV → List (Nat × ABlk) → Nat → Prop) (v : AV) (nb : List (Nat × ABlk)) (nx : Nat) : Prop :=
  lit (Nat.ble nx GB) (match hs with
    | [] => k v nb nx
    | hs => (v.all (avAll hs) ∧ ∀ q ∈ nb, q.2.all (avAll hs)) ∧ k v nb nx)
def dPut (d : Option Nat) (nt : Nat) (v : AV) (tm : List (Nat × AV)) (k : List (Nat × AV) → Prop) : Prop := match d with
  | none => k tm
  | some d => lit (decide (d < nt)) (k ((d, v) :: tm))
def catH (nb hp : List (Nat × ABlk)) : List (Nat × ABlk) := match nb with
  | [] => hp
  | [(i, b)] => match lk hp i with
    | some _ => up hp i b
    | none => (i, b) :: hp
  | b :: c :: r => b :: c :: (r ++ hp)
def dCat (nb hp : List (Nat × ABlk)) (k : List (Nat × ABlk) → Prop) : Prop := match nb with
  | [] => k hp
  | [(i, b)] => match lk hp i with
    | some _ => k (up hp i b)
    | none => k ((i, b) :: hp)
  | b :: c :: r => k (b :: c :: (r ++ hp))
theorem dCat_eq (nb hp : List (Nat × ABlk)) (k : List (Nat × ABlk) → Prop) : dCat nb hp k = k (catH nb hp) := by
  rcases nb with _ | ⟨⟨i, b⟩, _ | ⟨c, r⟩⟩
  · rfl
  · simp only [dCat, catH]
    cases lk hp i <;> rfl
  · rfl
theorem lk_catH (nb hp : List (Nat × ABlk)) (j : Nat) : lk (catH nb hp) j = lk (nb ++ hp) j := by
  rcases nb with _ | ⟨⟨i, b⟩, _ | ⟨c, r⟩⟩
  · rfl
  · simp only [catH]
    cases h : lk hp i with
    | none => rfl
    | some c =>
      simp only [List.cons_append, List.nil_append, lk_up, lk]
  · rfl
def rgN (i nx nx' : Nat) (rg : List (Nat × Nat × Nat)) : List (Nat × Nat × Nat) := match Nat.beq nx' nx with
  | true => rg
  | false => (i, nx, nx') :: rg

def drawA (P : Program) (T : Nat → Option TI) (md : Bool) (all : List Oper) (K : AS → Prop) : List PE → List Oper → Nat → List (Nat × Nat × Nat) → AS → Prop
  | [], l, _, _, s => opsW P T md all l s K
  | _ :: _, [], _, _, _ => False
  | p :: pl, o :: l, i, rg, s => s.on fun tm hp nx nt k0 => match o.guard with
    | none => quietA P T md ⟨keepT p.dl tm, keepD p.hd (keepH' (holes p.un rg) hp), nx, nt, nx⟩ o.op (dNew p.ws nx (dNext (holes p.un rg) fun v nb nx' => dCat nb hp fun hp => dPut o.dst nt v tm fun tm => drawA P T md all K pl l (i + 1) (rgN i nx nx' rg) ⟨tm, hp, nx', nt, k0⟩))
    | some (j, want) => match (all[j]?).bind (·.dst) with
      | some d => match lk (keepT p.dl tm) d with
        | some (.c (.bool b)) =>
          (b = want → quietA P T md ⟨(d, .c (.bool want)) :: keepT p.dl tm, keepD p.hd (keepH' (holes p.un rg) hp), nx, nt, nx⟩ o.op (dNew p.ws nx (dNext (holes p.un rg) fun v nb nx' => dCat nb hp fun hp => dPut o.dst nt v ((d, .c (.bool want)) :: tm) fun tm => drawA P T md all K pl l (i + 1) (rgN i nx nx' rg) ⟨tm, hp, nx', nt, k0⟩))) ∧
          (b = (!want) → dPut o.dst nt (.t []) ((d, .c (.bool (!want))) :: tm) fun tm => drawA P T md all K pl l (i + 1) rg ⟨tm, hp, nx, nt, k0⟩)
        | some (.t []) => dPut o.dst nt (.t []) tm fun tm => drawA P T md all K pl l (i + 1) rg ⟨tm, hp, nx, nt, k0⟩
        | _ => False
      | none => False

variable {P : Program} {T : Nat → Option TI} {md : Bool} {E : Env} {R R2 : Ren} {s : AS} {a : Act} {w w' : World}

theorem onCells_elim {id : Nat} {k : ABlk → List AC → Prop} (h : onCells s id k) : ∃ b cs, lk s.hp id = some b ∧ k b cs ∧ ∀ k' : ABlk → List AC → Prop, k' b cs → onCells s id k' := by
  unfold onCells at h ⊢
  rcases hb : lk s.hp id with _ | ⟨c | c | ⟨e, z, c⟩ | m | m | ⟨b, q⟩ | I⟩ <;> rw [hb] at h <;> first | exact h.elim | exact ⟨_, _, rfl, h, fun k' h' => h'⟩
theorem onC_elim {x : Operand} {k : AC → Prop} (h : onC s x k) : ∃ p, ev s x = some (.c p) ∧ k p ∧ ∀ k' : AC → Prop, k' p → onC s x k' := by
  unfold onC at h ⊢
  cases hx : ev s x with
  | none => rw [hx] at h; exact h.elim
  | some q => cases q with
    | c p => rw [hx] at h; exact ⟨p, rfl, h, fun k' h' => h'⟩
    | g _ => rw [hx] at h; exact h.elim
    | t _ => rw [hx] at h; exact h.elim
theorem store_det {t : Nat} {x y : Operand} {k : AV → AS → Prop} (h : stepA T md s (.store t x y) k) : ∃ id o b bn, ev s x = some (.c (.ptr id o)) ∧ lk s.hp id = some b ∧ b.wr = true ∧ bn.wr = true ∧
    k (.t []) ⟨s.tm, up s.hp id bn, s.nx, s.nt, s.k0⟩ ∧ ∀ k' : AV → AS → Prop, k' (.t []) ⟨s.tm, up s.hp id bn, s.nx, s.nt, s.k0⟩ → stepA T md s (.store t x y) k' := by
  simp only [stepA, AS.on_eq] at h ⊢
  obtain ⟨p, hx, h1, hp⟩ := onC_elim h
  clear h
  obtain ⟨v, h2, hv⟩ := onV_det s y _ h1
  clear h1
  cases p <;> try exact h2.elim
  rename_i id o
  obtain ⟨b, cs, hb, h3, hcs⟩ := onCells_elim h2
  obtain ⟨hw, h⟩ := h3
  rcases hi : T t with _ | i <;> rw [hi] at h
  · exact h.elim
  rcases v with c | gs | _
  · obtain ⟨h0, h⟩ := h
    exact ⟨id, _, b, _, hx, hb, hw, by rw [ABlk.with_wr, hw], h, fun k' h' => hp _ (hv _ (hcs _ (by simp only [hi]; exact ⟨hw, h0, h'⟩)))⟩
  · simp only at h
    split at h
    · rename_i hs
      obtain ⟨h0, h⟩ := h
      exact ⟨id, _, b, _, hx, hb, hw, by rw [ABlk.with_wr, hw], h, fun k' h' => hp _ (hv _ (hcs _ (by simp only [hi, if_pos hs]; exact ⟨hw, h0, h'⟩)))⟩
    · rename_i hs
      cases o with
      | zero =>
        obtain ⟨h0, h⟩ := h
        exact ⟨id, _, b, _, hx, hb, hw, by rw [ABlk.with_wr, hw], h, fun k' h' => hp _ (hv _ (hcs _ (by simp only [hi, if_neg hs]; exact ⟨hw, h0, h'⟩)))⟩
      | succ o =>
        obtain ⟨h0, h⟩ := h
        exact ⟨id, _, b, _, hx, hb, hw, by rw [ABlk.with_wr, hw], h, fun k' h' => hp _ (hv _ (hcs _ (by simp only [hi, if_neg hs]; exact ⟨hw, h0, h'⟩)))⟩
  · exact h.elim

theorem newsOf_det (s : AS) (q : AC) (z : Nat) (k : Nat → List AC → Prop) (h : stepA.newsOf s q z k) : ∃ m nw, k m nw ∧ ∀ k' : Nat → List AC → Prop, k' m nw → stepA.newsOf s q z k' := by
  unfold stepA.newsOf at h ⊢
  split at h
  · obtain ⟨b, cs, h1, ⟨h2, h3⟩, h4⟩ := onCells_elim h
    exact ⟨_, _, h3, fun k' h' => h4 _ ⟨h2, h'⟩⟩
  · split at h
    · exact ⟨_, _, h.2, fun k' h' => ⟨h.1, h'⟩⟩
    · exact h.elim
  · exact ⟨_, _, h, fun k' h' => h'⟩
  · obtain ⟨b, cs, h1, ⟨h2, h3⟩, h4⟩ := onCells_elim h
    exact ⟨_, _, h3, fun k' h' => h4 _ ⟨h2, h'⟩⟩
  · split at h
    · exact ⟨_, _, h.2, fun k' h' => ⟨h.1, h'⟩⟩
    · exact h.elim
  · exact ⟨_, _, h.2, fun k' h' => ⟨h.1, h'⟩⟩
  · exact h.elim
theorem appQ_det {x y : Operand} {t t' : Nat} {args : Array Operand} {tys : Array TypeId} (ha : args.toList = [x, y]) (ht : tys.toList = [t, t']) {k : AV → List (Nat × ABlk) → Nat → Prop} (h : appQ T s x y t t' k) :
    (∃ v c, k v [(s.nx, c)] (s.nx + 1) ∧ c.wr = true ∧ stepA T md s (.call ⟨.builtin .append, args, tys⟩) fun v' s' => v' = v ∧ s' = ⟨s.tm, (s.nx, c) :: s.hp, s.nx + 1, s.nt, s.k0⟩) ∨
      ∃ v id b c, k v [(id, c)] s.nx ∧ lk s.hp id = some b ∧ b.wr = true ∧ c.wr = true ∧ stepA T md s (.call ⟨.builtin .append, args, tys⟩) fun v' s' => v' = v ∧ s' = ⟨s.tm, up s.hp id c, s.nx, s.nt, s.k0⟩ := by
  unfold appQ at h
  rw [AS.on_eq] at h
  obtain ⟨rfl, h⟩ := h
  obtain ⟨p, hp1, h, hp⟩ := onC_elim h
  obtain ⟨q, hq1, h, hq⟩ := onC_elim h
  cases hT : T t with
  | none => rw [hT] at h; exact h.elim
  | some ti =>
    obtain ⟨d, sz, by', zz, cc⟩ := ti
    rw [hT] at h
    cases d <;> try exact h.elim
    rename_i e
    simp only at h
    cases he : T e with
    | none => rw [he] at h; exact h.elim
    | some i =>
      rw [he] at h
      obtain ⟨h0, h⟩ := h
      obtain ⟨m, nw, h, hn⟩ := newsOf_det _ _ _ _ h
      cases p with
      | nils =>
        obtain ⟨⟨g1, g2, g3, g4⟩, h⟩ := h
        refine .inl ⟨_, _, h, rfl, ?_⟩
        simp only [stepA, ha, ht, hT]
        refine ⟨by trivial, hp _ (hq _ ?_)⟩
        simp only [he]
        exact ⟨h0, hn _ ⟨⟨g1, g2, g3⟩, fun e => by omega, fun _ => ⟨by trivial, by trivial⟩⟩⟩
      | rp id o len c z =>
        simp only at h
        cases hl : lk s.hp id with
        | none => rw [hl] at h; exact h.elim
        | some b =>
          rw [hl] at h
          cases b with
          | row e' z' cs =>
            obtain ⟨g, h1, h2⟩ := h
            by_cases hc : len + m ≤ c
            · refine .inr ⟨_, id, _, _, h1 hc, hl, rfl, rfl, ?_⟩
              simp only [stepA, ha, ht, hT]
              refine ⟨by trivial, hp _ (hq _ ?_)⟩
              simp only [he]
              refine ⟨h0, hn _ ?_⟩
              simp only [hl]
              exact ⟨g, fun _ => ⟨by trivial, by trivial⟩, fun h => by omega⟩
            · obtain ⟨g5, h⟩ := h2 (by omega)
              refine .inl ⟨_, _, h, rfl, ?_⟩
              simp only [stepA, ha, ht, hT]
              refine ⟨by trivial, hp _ (hq _ ?_)⟩
              simp only [he]
              refine ⟨h0, hn _ ?_⟩
              simp only [hl]
              exact ⟨g, fun h => absurd h hc, fun _ => ⟨g5, by trivial, by trivial⟩⟩
          | _ => exact h.elim
      | _ => exact h.elim

theorem quietA_det (hT : TOk P T) {o : Oper} {k : AV → List (Nat × ABlk) → Nat → Prop} (h : quietA P T md s o.op k) :
    ∃ v nb nx', k v nb nx' ∧ s.nx ≤ nx' ∧ (∀ i c, lk nb i = some c → NbOk s.hp s.nx nx' i ∧ c.wr = true) ∧
      ∀ (E : Env) (R : Ren) (a : Act) (w : World) (n : Nat) (r : Option Nat) (Q : Exit → Act → World → Prop), Fit E R s a w →
        o.wpIn (FW r) n P a w (fun a' w' => ∃ u R2, a' = a.put o.dst u ∧ Fit E R2 ⟨s.tm, nb ++ s.hp, nx', s.nt, s.k0⟩ a w' ∧ conV R2 v u ∧ v.lt nx') Q := by
  obtain ⟨dst, op, ty, pos, after, guard⟩ := o
  have pure1 : pureOp op = true → stepA T md s op (fun v _ => s.on fun _ _ nx _ _ => k v [] nx) → (∀ k', opA P T md s op k' = stepA T md s op k') →
      ∃ v nb nx', k v nb nx' ∧ s.nx ≤ nx' ∧ (∀ i c, lk nb i = some c → NbOk s.hp s.nx nx' i ∧ c.wr = true) ∧
      ∀ (E : Env) (R : Ren) (a : Act) (w : World) (n : Nat) (r : Option Nat) (Q : Exit → Act → World → Prop), Fit E R s a w →
        Oper.wpIn (FW r) n P ⟨dst, op, ty, pos, after, guard⟩ a w (fun a' w' => ∃ u R2, a' = a.put dst u ∧ Fit E R2 ⟨s.tm, nb ++ s.hp, nx', s.nt, s.k0⟩ a w' ∧ conV R2 v u ∧ v.lt nx') Q := by
    intro ho h hop
    obtain ⟨v, h1, h2⟩ := pure_det op ho _ h
    refine ⟨v, [], s.nx, h1, Nat.le_refl _, (fun i c h => by cases h), fun E R a w n r Q F => ?_⟩
    refine opA_sound (k := fun v' s' => v' = v ∧ s' = s) hT (o := ⟨dst, op, ty, pos, after, guard⟩) (by rw [hop]; exact h2 _ ⟨rfl, rfl⟩) F ?_
    rintro u w' s' R' v' ⟨rfl, rfl⟩ F' hc hl
    exact ⟨u, R', rfl, F', hc, hl⟩
  have new1 : newOp op = true → stepA T md s op (fun v s' => s'.on fun _ hp nx _ _ => match hp with | b :: _ => k v [b] nx | [] => False) → (∀ k', opA P T md s op k' = stepA T md s op k') →
      ∃ v nb nx', k v nb nx' ∧ s.nx ≤ nx' ∧ (∀ i c, lk nb i = some c → NbOk s.hp s.nx nx' i ∧ c.wr = true) ∧
      ∀ (E : Env) (R : Ren) (a : Act) (w : World) (n : Nat) (r : Option Nat) (Q : Exit → Act → World → Prop), Fit E R s a w →
        Oper.wpIn (FW r) n P ⟨dst, op, ty, pos, after, guard⟩ a w (fun a' w' => ∃ u R2, a' = a.put dst u ∧ Fit E R2 ⟨s.tm, nb ++ s.hp, nx', s.nt, s.k0⟩ a w' ∧ conV R2 v u ∧ v.lt nx') Q := by
    intro ho h hop
    obtain ⟨v, c, h1, hw, h2⟩ := new_det op ho _ h
    refine ⟨v, [(s.nx, c)], s.nx + 1, h1, by omega, (fun i c' h => ?_), fun E R a w n r Q F => ?_⟩
    · simp only [lk] at h
      split at h
      · rename_i e; subst e; injection h with h; subst h; exact ⟨.inl (by omega), hw⟩
      · cases h
    refine opA_sound (k := fun v' s' => v' = v ∧ s' = ⟨s.tm, (s.nx, c) :: s.hp, s.nx + 1, s.nt, s.k0⟩) hT (o := ⟨dst, op, ty, pos, after, guard⟩) (by rw [hop]; exact h2 _ ⟨rfl, rfl⟩) F ?_
    rintro u w' s' R' v' ⟨rfl, rfl⟩ F' hc hl
    exact ⟨u, R', rfl, F', hc, hl⟩
  cases op with
  | call c =>
    obtain ⟨cal, args, tys⟩ := c
    cases cal with
    | value x =>
      simp only [quietA] at h
      obtain ⟨p, h, hp2⟩ := onC_det s x _ h
      cases p <;> try exact h.elim
      rename_i f fs cs
      have argsDet : ∀ (l : List Operand), DetC (argsA s l) := by
        intro l
        induction l with
        | nil => exact DetC.pure _
        | cons x l ih => exact DetC.bind (f := onV s x) (g := fun v k => argsA s l fun vs => k (v :: vs)) (onV_det s x) fun v => DetC.bind (f := argsA s l) (g := fun vs k => k (v :: vs)) ih fun vs => DetC.pure _
      obtain ⟨vs, h, hvs⟩ := argsDet _ _ h
      obtain ⟨as0, hp0, l, r, hp1, k1, nb, C, hk⟩ := callQ_elim h
      refine ⟨_, _, _, hk, by omega, ?_, fun E R a w n r Q F => ?_⟩
      · intro i c hc
        have := mem_lk hc
        obtain ⟨⟨j, c0⟩, hm, e⟩ := List.mem_map.1 this
        injection e with e1 e2
        -- the first entry of number i
        have mapLk : ∀ (nb : List (Nat × ABlk)) (b : ABlk), lk (nb.map fun p => (qq l s.nx p.1, p.2.ren (qq l s.nx))) i = some b → ∃ j c, lk nb j = some c ∧ qq l s.nx j = i ∧ c.ren (qq l s.nx) = b := by
          intro nb
          induction nb with
          | nil => intro b h; cases h
          | cons p nb ih =>
            obtain ⟨j, c⟩ := p
            intro b h
            simp only [List.map_cons, lk] at h
            split at h
            · rename_i e; injection h with h; exact ⟨j, c, by simp [lk], e, h⟩
            · rename_i e
              obtain ⟨j2, c2, h1, h2, h3⟩ := ih b h
              refine ⟨j2, c2, ?_, h2, h3⟩
              simp only [lk]
              rw [if_neg]
              · exact h1
              · intro e2; subst e2; exact e h2
        obtain ⟨j2, c2, g1, g2, g3⟩ := mapLk _ _ hc
        obtain ⟨g4, g5, _⟩ := C.new j2 c2 g1
        have := C.le
        refine ⟨?_, by rw [← g3, ABlk.ren_wr]; exact g5⟩
        rcases g4 with g4 | ⟨c0, g4, g6⟩
        · rw [qq_new g4.1 (by omega)] at g2
          exact .inl (by omega)
        · obtain ⟨_, b', e1, e2⟩ := C.heap j2 c0 g4
          rw [g2] at e1
          exact .inr ⟨b', e1, by rw [e2.eq (by rw [ABlk.ren_wr]; exact g6), ABlk.ren_wr]; exact g6⟩
      · -- the call
        refine ⟨fun f _ => trivial, ?_⟩
        rw [Oper.semAt_eq _ _ _ (by intro c e; cases e)]
        obtain ⟨p, hk2, hc, hp0'⟩ := onC_sound F (hp2 (fun q => q = .fn f fs cs) rfl)
        subst hk2
        obtain ⟨vs2, hk3, hlen, hvs2⟩ := argsA_sound _ F (hvs (fun q => q = vs) rfl)
        subst hk3
        simp only [conC] at hc
        have hcp : ∀ i, conV R (AV.p i) (R.p0 i) := fun i => rfl
        have hcalls := callQ_sound C F (us := (fs.map R.p0).toArray ++ args.map a.eval ++ (cs.map R.p0).toArray) (by simp [hlen]) (fun i v hi => by
          have e1 : ((fs.map R.p0).toArray ++ args.map a.eval ++ (cs.map R.p0).toArray)[i]? = (fs.map R.p0 ++ args.toList.map a.eval ++ cs.map R.p0)[i]? := by
            rw [← Array.getElem?_toList]; simp
          rw [e1]
          rw [List.append_assoc, List.getElem?_append, List.getElem?_append] at hi
          rw [List.append_assoc, List.getElem?_append, List.getElem?_append]
          simp only [List.length_map, hlen] at hi ⊢
          split at hi
          · rename_i q; rw [if_pos q]
            rw [List.getElem?_map] at hi ⊢
            cases hq : fs[i]? with
            | none => simp [hq] at hi
            | some j => simp [hq] at hi; subst hi; exact ⟨_, rfl, hcp j⟩
          · rename_i q; rw [if_neg q]
            split at hi
            · rename_i q2; rw [if_pos q2]; exact hvs2 _ v hi
            · rename_i q2; rw [if_neg q2]
              rw [List.getElem?_map] at hi ⊢
              cases hq : cs[i - fs.length - args.toList.length]? with
              | none => rw [hq] at hi; cases hi
              | some j => rw [hq] at hi; injection hi with hi; subst hi; exact ⟨_, rfl, hcp j⟩)
        have hrun : (execOp a.eval ⟨dst, .call ⟨.value x, args, tys⟩, ty, pos, after, guard⟩).run P w = .ok (.enter f ((fs.map R.p0).toArray ++ args.map a.eval ++ (cs.map R.p0).toArray)) w := by
          have h2 := C.spec.call ((fs.map R.p0).toArray ++ args.map a.eval ++ (cs.map R.p0).toArray) w
          simp [execOp, resolve, hc, Deferred.ofValue, invoke]
          simpa using h2
        rw [hrun]
        refine ⟨fun h => by simp [FW, Fence.wide] at h, callsFW (hcalls.mono ?_)⟩
        rintro e w' ⟨u, R', rfl, F', hc', hl'⟩
        exact ⟨u, R', rfl, F', hc', hl'⟩
    | builtin b =>
      by_cases hb : b = .append
      · subst hb
        simp only [quietA] at h
        split at h
        · rename_i x y t t' hx hy
          rcases appQ_det (md := md) hx hy h with ⟨v, c, h1, hw, h2⟩ | ⟨v, id, b, c, h1, hl, hwb, hw, h2⟩
          · refine ⟨v, [(s.nx, c)], s.nx + 1, h1, by omega, (fun i c' h => ?_), fun E R a w n r Q F => ?_⟩
            · simp only [lk] at h
              split at h
              · rename_i e; subst e; injection h with h; subst h; exact ⟨.inl (by omega), hw⟩
              · cases h
            refine opA_sound (k := fun v' s' => v' = v ∧ s' = ⟨s.tm, (s.nx, c) :: s.hp, s.nx + 1, s.nt, s.k0⟩) (md := md) hT (o := ⟨dst, .call ⟨.builtin .append, args, tys⟩, ty, pos, after, guard⟩) h2 F ?_
            rintro u w' s' R' v' ⟨rfl, rfl⟩ F' hc hl
            exact ⟨u, R', rfl, F', hc, hl⟩
          · refine ⟨v, [(id, c)], s.nx, h1, Nat.le_refl _, (fun i c' hc => ?_), fun E R a w n r Q F => ?_⟩
            · simp only [lk] at hc
              split at hc
              · rename_i e; subst e; injection hc with hc; subst hc; exact ⟨.inr ⟨b, hl, hwb⟩, hw⟩
              · cases hc
            refine opA_sound (k := fun v' s' => v' = v ∧ s' = ⟨s.tm, up s.hp id c, s.nx, s.nt, s.k0⟩) (md := md) hT (o := ⟨dst, .call ⟨.builtin .append, args, tys⟩, ty, pos, after, guard⟩) h2 F ?_
            rintro u w' s' R' v' ⟨rfl, rfl⟩ F' hc hl'
            refine ⟨u, R', rfl, F'.hp_sub (hp' := [(id, c)] ++ s.hp) (fun i c' hc => ?_), hc, hl'⟩
            show lk (up s.hp id c) i = some c'
            rw [lk_up]
            simp only [List.cons_append, List.nil_append, lk] at hc
            exact hc
        · exact h.elim
      · have hq : ∀ k, quietA P T md s (.call ⟨.builtin b, args, tys⟩) k = (match pureOp (.call ⟨.builtin b, args, tys⟩) with
          | true => stepA T md s (.call ⟨.builtin b, args, tys⟩) fun v _ => s.on fun _ _ nx _ _ => k v [] nx
          | false => False) := by
          intro k; cases b <;> first | rfl | exact absurd rfl hb
        rw [hq] at h
        split at h
        · rename_i hp; exact pure1 hp h fun _ => rfl
        · exact h.elim
    | invoke x m =>
      simp only [quietA] at h
      split at h
      · rename_i hp; exact pure1 hp h fun _ => rfl
      · exact h.elim
  | store t x y =>
    simp only [quietA] at h
    obtain ⟨p, hpx, h0, _⟩ := onC_elim h
    clear h
    cases p <;> try exact h0.elim
    obtain ⟨id, o', b, bn, h1, h2, h3, h4, h5, h6⟩ := store_det h0
    rw [hpx] at h1
    injection h1 with h1; injection h1 with h1; injection h1 with h1 h1'
    rw [h1] at h5
    have h5 : k (.t []) [(id, bn)] s.nx := by
      have e : lk (up s.hp id bn) id = some bn := by rw [lk_up, if_pos rfl]
      simp only [AS.on_eq] at h5
      rw [e] at h5
      exact h5
    refine ⟨.t [], [(id, bn)], s.nx, h5, Nat.le_refl _, (fun i c hc => ?_), fun E R a w n r Q F => ?_⟩
    · simp only [lk] at hc
      split at hc
      · rename_i e; subst e; injection hc with hc; subst hc; exact ⟨.inr ⟨b, h2, h3⟩, h4⟩
      · cases hc
    refine opA_sound (k := fun v' s' => v' = .t [] ∧ s' = ⟨s.tm, up s.hp id bn, s.nx, s.nt, s.k0⟩) (md := md) hT (o := ⟨dst, .store t x y, ty, pos, after, guard⟩) (h6 (fun v' s' => v' = .t [] ∧ s' = ⟨s.tm, up s.hp id bn, s.nx, s.nt, s.k0⟩) ⟨rfl, rfl⟩) F ?_
    rintro u w' s' R' v' ⟨rfl, rfl⟩ F' hc hl
    refine ⟨u, R', rfl, F'.hp_sub (hp' := [(id, bn)] ++ s.hp) (fun i c hc => ?_), hc, hl⟩
    show lk (up s.hp id bn) i = some c
    rw [lk_up]
    simp only [List.cons_append, List.nil_append, lk] at hc
    exact hc
  | _ =>
    simp only [quietA] at h
    split at h
    · rename_i hp; exact pure1 hp h fun _ => rfl
    · split at h
      · rename_i hp; exact new1 hp h fun _ => rfl
      · exact h.elim

end Go.AH

/-
  A region that draws its order, walked once: every order.
-/
namespace Go.AH
open Go.RowKit

variable {P : Program} {T : Nat → Option TI} {md : Bool} {E : Env} {R R2 : Ren} {s : AS} {a : Act} {w w' : World}

/-! ### The plan is held against the operations -/
def befB (pl : List PE) (i j : Nat) (o : Oper) : Bool := o.after.any fun e => Region.binds .any e && (Nat.beq e.on j || (Nat.blt e.on i && (match pl[e.on]? with
  | some q => q.bf.elem j
  | none => Nat.blt j e.on)))
def dstIn (d : Option Nat) (l : List Nat) : Bool := match d with | none => true | some d => l.elem d
def sameDst (d e : Option Nat) : Bool := match d, e with | some d, some e => Nat.beq d e | _, _ => false
def subB : List Nat → List Nat → Bool
  | [], _ => true
  | x :: r, l => l.elem x && subB r l
theorem subB_sound : ∀ {l m : List Nat}, subB l m = true → ∀ x ∈ l, x ∈ m
  | [], m, h, x, hx => absurd hx List.not_mem_nil
  | y :: r, m, h, x, hx => by
    simp only [subB, Bool.and_eq_true] at h
    rcases List.mem_cons.1 hx with e | hx
    · subst e; simpa using h.1
    · exact subB_sound h.2 x hx
def planOk (ops : Array Oper) (pl : List PE) : Bool :=
  (List.range ops.size).all fun i => match ops[i]? with
    | none => true
    | some o => (o.after.all fun e => !Region.binds .any e || Nat.blt e.on i) && (match pl[i]? with
      | some p => (p.bf.all fun j => Nat.blt j i && befB pl i j o) && (List.range i).all fun j => (match ops[j]?, pl[j]? with
        | some oj, some q => (p.bf.elem j || ((p.un.elem j && dstIn oj.dst p.dl && dstIn o.dst q.dl) && (subB p.ws q.hd && subB q.ws p.hd))) && (!sameDst oj.dst o.dst || p.bf.elem j)
        | _, _ => false)
      | none => (List.range i).all fun j => befB pl i j o)

structure PlanP (ops : Array Oper) (pl : List PE) : Prop where
  lo : ∀ (i : Nat) (o : Oper), ops[i]? = some o → ∀ e ∈ o.after, Region.binds .any e = true → e.on < i
  bf : ∀ (i : Nat) (o : Oper) (p : PE), ops[i]? = some o → pl[i]? = some p → ∀ j ∈ p.bf, j < i ∧ ∃ e ∈ o.after, Region.binds .any e = true ∧ (e.on = j ∨ (e.on < i ∧ ((∃ q, pl[e.on]? = some q ∧ j ∈ q.bf) ∨ (pl[e.on]? = none ∧ j < e.on))))
  un : ∀ (i : Nat) (o : Oper) (p : PE) (j : Nat) (oj : Oper) (q : PE), ops[i]? = some o → pl[i]? = some p → j < i → ops[j]? = some oj → pl[j]? = some q → j ∉ p.bf → j ∈ p.un ∧ (∀ d, oj.dst = some d → d ∈ p.dl) ∧ (∀ d, o.dst = some d → d ∈ q.dl) ∧ (∀ x ∈ p.ws, x ∈ q.hd) ∧ ∀ x ∈ q.ws, x ∈ p.hd
  same : ∀ (i : Nat) (o : Oper) (p : PE) (j : Nat) (oj : Oper) (q : PE) (d : Nat), ops[i]? = some o → pl[i]? = some p → j < i → ops[j]? = some oj → pl[j]? = some q → oj.dst = some d → o.dst = some d → j ∈ p.bf
  suf : ∀ (i : Nat) (o : Oper), ops[i]? = some o → pl[i]? = none → ∀ j < i, ∃ e ∈ o.after, Region.binds .any e = true ∧ (e.on = j ∨ (e.on < i ∧ ((∃ q, pl[e.on]? = some q ∧ j ∈ q.bf) ∨ (pl[e.on]? = none ∧ j < e.on))))

theorem befB_sound {pl : List PE} {i j : Nat} {o : Oper} (h : befB pl i j o = true) : ∃ e ∈ o.after, Region.binds .any e = true ∧ (e.on = j ∨ (e.on < i ∧ ((∃ q, pl[e.on]? = some q ∧ j ∈ q.bf) ∨ (pl[e.on]? = none ∧ j < e.on)))) := by
  unfold befB at h
  rw [Array.any_eq_true'] at h
  obtain ⟨e, he, h⟩ := h
  simp only [Bool.and_eq_true, Bool.or_eq_true] at h
  refine ⟨e, he, h.1, ?_⟩
  rcases h.2 with h | h
  · exact .inl (Nat.eq_of_beq_eq_true h)
  · refine .inr ⟨by simpa using h.1, ?_⟩
    have h2 := h.2
    cases hq : pl[e.on]? with
    | none => rw [hq] at h2; exact .inr ⟨rfl, by simpa using h2⟩
    | some q => rw [hq] at h2; exact .inl ⟨q, rfl, by simpa using h2⟩
theorem dstIn_sound {d : Option Nat} {l : List Nat} (h : dstIn d l = true) : ∀ x, d = some x → x ∈ l := by
  rintro x rfl; simpa [dstIn] using h
theorem planOk_sound {ops : Array Oper} {pl : List PE} (h : planOk ops pl = true) : PlanP ops pl := by
  unfold planOk at h
  rw [List.all_eq_true] at h
  have h : ∀ i o, ops[i]? = some o → _ := fun i o ho => by
    have := h i (List.mem_range.2 (Array.getElem?_eq_some_iff.1 ho).1)
    rw [ho] at this
    exact Bool.and_eq_true_iff.1 this
  have pf : ∀ i o p, ops[i]? = some o → pl[i]? = some p → _ := fun i o p ho hp => by
    have := (h i o ho).2
    rw [hp] at this
    exact Bool.and_eq_true_iff.1 this
  have pr : ∀ i o p j oj q, ops[i]? = some o → pl[i]? = some p → j < i → ops[j]? = some oj → pl[j]? = some q → _ := fun i o p j oj q ho hp hj hoj hq => by
    have := (pf i o p ho hp).2
    rw [List.all_eq_true] at this
    have := this j (List.mem_range.2 hj)
    rw [hoj, hq] at this
    exact Bool.and_eq_true_iff.1 this
  refine ⟨fun i o ho e he hb => ?_, fun i o p ho hp j hj => ?_, fun i o p j oj q ho hp hj hoj hq hn => ?_, fun i o p j oj q d ho hp hj hoj hq h1 h2 => ?_, fun i o ho hp j hj => ?_⟩
  · have h1 := (h i o ho).1
    rw [Array.all_eq_true'] at h1
    have := h1 e he
    rw [hb] at this
    simpa using this
  · have h1 := (pf i o p ho hp).1
    rw [List.all_eq_true] at h1
    have := h1 j hj
    simp only [Bool.and_eq_true] at this
    exact ⟨by simpa using this.1, befB_sound this.2⟩
  · have h1 := (pr i o p j oj q ho hp hj hoj hq).1
    simp only [Bool.or_eq_true, Bool.and_eq_true] at h1
    rcases h1 with h1 | h1
    · exact absurd (by simpa using h1) hn
    · exact ⟨by simpa using h1.1.1.1, dstIn_sound h1.1.1.2, dstIn_sound h1.1.2, subB_sound h1.2.1, subB_sound h1.2.2⟩
  · have h3 := (pr i o p j oj q ho hp hj hoj hq).2
    simp only [Bool.or_eq_true, Bool.not_eq_true'] at h3
    rcases h3 with h3 | h3
    · simp [h1, h2, sameDst] at h3
    · simpa using h3
  · have h1 := (h i o ho).2
    rw [hp] at h1
    have h1 := List.all_eq_true.1 h1
    exact befB_sound (h1 j (List.mem_range.2 hj))

/-! ### The walk gives the records -/
structure Sub0 (s0 : AS) (rest : List Rc) (s : AS) : Prop where
  nx : s.nx = nxR s0.nx rest
  nt : s.nt = s0.nt
  k0 : s.k0 = s0.k0
  tm : ∀ t v, lk s.tm t = some v → lk (tmR (fun _ => true) s0.tm rest) t = some v
  hp : ∀ i c, lk s.hp i = some c → lk (hpR (fun _ => true) s0.hp rest) i = some c

theorem lk_keepT {β : Type} {dl : List Nat} : ∀ {tm : List (Nat × β)} {t : Nat} {v : β}, lk (keepT dl tm) t = some v → lk tm t = some v ∧ t ∉ dl
  | (j, u) :: r, t, v, h => by
    simp only [keepT] at h
    cases hd : dl.elem j with
    | true =>
      rw [hd] at h
      obtain ⟨h1, h2⟩ := lk_keepT h
      refine ⟨?_, h2⟩
      simp only [lk]
      rw [if_neg]
      · exact h1
      · intro e; subst e; exact h2 (by simpa using hd)
    | false =>
      rw [hd] at h
      simp only [lk] at h ⊢
      split at h
      · rename_i e; subst e; rw [if_pos rfl]; exact ⟨h, by simpa using hd⟩
      · rename_i e; rw [if_neg e]; exact lk_keepT h
theorem avB_sound : ∀ {hs : List (Nat × Nat)} {i : Nat}, avB hs i = true → avAll hs i
  | [], i, h => fun p hp => absurd hp (List.not_mem_nil)
  | (lo, hi) :: r, i, h => by
    simp only [avB, Bool.and_eq_true, Bool.or_eq_true] at h
    intro p hp
    rcases List.mem_cons.1 hp with e | hp
    · subst e
      rcases h.1 with h | h
      · exact .inl (by simpa using h)
      · exact .inr (by simpa using h)
    · exact avB_sound h.2 p hp
theorem lk_keepH {hs : List (Nat × Nat)} : ∀ {hp : List (Nat × ABlk)} {i : Nat} {c : ABlk}, lk (keepH hs hp) i = some c → lk hp i = some c ∧ avAll hs i
  | (j, u) :: r, i, c, h => by
    simp only [keepH] at h
    cases hd : avB hs j with
    | true =>
      rw [hd] at h
      simp only [lk] at h ⊢
      split at h
      · rename_i e; subst e; rw [if_pos rfl]; exact ⟨h, avB_sound hd⟩
      · rename_i e; rw [if_neg e]; exact lk_keepH h
    | false =>
      rw [hd] at h
      obtain ⟨h1, h2⟩ := lk_keepH h
      refine ⟨?_, h2⟩
      simp only [lk]
      by_cases e : j = i
      · subst e
        exfalso
        have : avB hs j = true := by
          clear h1 h hd
          induction hs with
          | nil => rfl
          | cons p hs ih =>
            obtain ⟨lo, hi⟩ := p
            simp only [avB, Bool.and_eq_true, Bool.or_eq_true]
            refine ⟨?_, ih fun p hp => h2 p (List.mem_cons_of_mem _ hp)⟩
            rcases h2 (lo, hi) (by simp) with h | h
            · left; simpa using h
            · right; simpa using h
        rw [hd] at this; cases this
      · rw [if_neg e]; exact h1
theorem lk_keepH' {hs : List (Nat × Nat)} {hp : List (Nat × ABlk)} {i : Nat} {c : ABlk} (h : lk (keepH' hs hp) i = some c) : lk hp i = some c ∧ avAll hs i := by
  cases hs with
  | nil => exact ⟨h, fun p hp => absurd hp (List.not_mem_nil)⟩
  | cons p hs => exact lk_keepH h
theorem lk_keepD {hd : List Nat} {hp : List (Nat × ABlk)} {i : Nat} {c : ABlk} (h : lk (keepD hd hp) i = some c) : lk hp i = some c ∧ i ∉ hd := by
  cases hd with
  | nil => exact ⟨h, List.not_mem_nil⟩
  | cons p hd => exact lk_keepT h
theorem mem_holes {un : List Nat} : ∀ {rg : List (Nat × Nat × Nat)} {k lo hi : Nat}, (k, lo, hi) ∈ rg → k ∈ un → (lo, hi) ∈ holes un rg
  | (j, l, h) :: r, k, lo, hi, hm, hk => by
    simp only [holes]
    rcases List.mem_cons.1 hm with e | hm
    · injection e with e1 e2; injection e2 with e2 e3; subst e1; subst e2; subst e3
      rw [show un.elem k = true by simpa using hk]; simp
    · split
      · exact List.mem_cons_of_mem _ (mem_holes hm hk)
      · exact mem_holes hm hk

structure Rg (rest : List Rc) (rg : List (Nat × Nat × Nat)) : Prop where
  all : ∀ k q, At rest k q → q.b' = q.b ∨ (k, q.b, q.b') ∈ rg
theorem Rg.out {rest : List Rc} {rg : List (Nat × Nat × Nat)} (h : Rg rest rg) {un : List Nat} {i : Nat} (hi : avAll (holes un rg) i) {k : Nat} {q : Rc} (hq : At rest k q) (hk : k ∈ un) : outside q.b q.b' i := by
  rcases h.all k q hq with e | e
  · unfold outside; omega
  · exact hi _ (mem_holes e hk)

theorem dNext_elim {hs : List (Nat × Nat)} {k : AV → List (Nat × ABlk) → Nat → Prop} {v : AV} {nb : List (Nat × ABlk)} {nx : Nat} (h : dNext hs k v nb nx) :
    nx ≤ GB ∧ (v.all (avAll hs) ∧ ∀ q ∈ nb, q.2.all (avAll hs)) ∧ k v nb nx := by
  obtain ⟨h1, h2⟩ := lit_iff.1 h
  refine ⟨by simpa using h1, ?_⟩
  cases hs with
  | nil =>
    have triv : ∀ i, avAll [] i := fun i p hp => absurd hp (List.not_mem_nil)
    refine ⟨⟨?_, fun q hq => ?_⟩, h2⟩
    · have hx : ∀ x : AC, x.all (avAll []) := fun x => by cases x <;> simp only [AC.all] <;> first | exact triv _ | exact ⟨fun i _ => triv i, fun i _ => triv i⟩
      cases v with
      | c x => exact hx x
      | g cs => exact fun x _ => hx x
      | t es => exact fun e _ => by cases e with
        | c x => exact hx x
        | g cs => exact fun x _ => hx x
    · have hx : ∀ x : AC, x.all (avAll []) := fun x => by cases x <;> simp only [AC.all] <;> first | exact triv _ | exact ⟨fun i _ => triv i, fun i _ => triv i⟩
      obtain ⟨_, b⟩ := q
      cases b with
      | ro cs => exact fun x _ => hx x
      | own cs => exact fun x _ => hx x
      | row _ _ cs => exact fun x _ => hx x
      | mp m => exact fun p _ => ⟨fun x _ => hx x, hx _⟩
      | mi I => trivial
      | si s p => trivial
      | li I => trivial
  | cons p hs => exact h2

def Ext (P : Program) (T : Nat → Option TI) (md : Bool) (ops : Array Oper) (K : AS → Prop) (s0 : AS) (rest : List Rc) (pl : List PE) (l : List Oper) : Prop :=
  ∃ ext s', Good P ops s0 (ext ++ rest) ∧ ext.length = pl.length ∧ (∀ k q, At (ext ++ rest) k q → rest.length ≤ k → pl[k - rest.length]? = some q.pe) ∧ Sub0 s0 (ext ++ rest) s' ∧ nxR s0.nx (ext ++ rest) ≤ GB ∧
      opsW P T md ops.toList (l.drop pl.length) s' K ∧ pl.length ≤ l.length

theorem draw_extract (hT : TOk P T) {ops : Array Oper} {K : AS → Prop} {s0 : AS} : ∀ (pl : List PE) (l pre : List Oper) (rest : List Rc) (rg : List (Nat × Nat × Nat)) (s : AS), ops.toList = pre ++ l → pre.length = rest.length →
    Good P ops s0 rest → Rg rest rg → Sub0 s0 rest s → nxR s0.nx rest ≤ GB → drawA P T md ops.toList K pl l rest.length rg s →
    Ext P T md ops K s0 rest pl l
  | [], l, pre, rest, rg, s, hops, hpre, hG, hR, hS, hN, h => ⟨[], s, hG, rfl, (fun k q hq hk => (by have := At.lt hq; simp at this; omega)), hS, hN, h, by simp⟩
  | p :: pl, [], pre, rest, rg, s, hops, hpre, hG, hR, hS, hN, h => by simp only [drawA] at h
  | p :: pl, o :: l, pre, rest, rg, s, hops, hpre, hG, hR, hS, hN, h => by
    have ho : ops[rest.length]? = some o := by
      rw [← Array.getElem?_toList, hops, ← hpre]; simp
    -- one record more
    have go : ∀ (tm1 : List (Nat × AV)) (v : AV) (nb : List (Nat × ABlk)) (nx' : Nat), (∀ t v, lk tm1 t = some v → lk s.tm t = some v) →
        dPut o.dst s.nt v tm1 (fun tm => drawA P T md ops.toList K pl l (rest.length + 1) (rgN rest.length s.nx nx' rg) ⟨tm, catH nb s.hp, nx', s.nt, s.k0⟩) →
        nx' ≤ GB → ((∀ d, o.dst = some d → d < s0.nt) → Fact P ops s0 ⟨o.dst, v, nb, s.nx, nx', p⟩ rest) →
        Ext P T md ops K s0 rest (p :: pl) (o :: l) := by
      intro tm1 v nb nx' htm1 hd hnx hF
      obtain ⟨hdn, hk⟩ : (∀ d, o.dst = some d → d < s0.nt) ∧ drawA P T md ops.toList K pl l (rest.length + 1) (rgN rest.length s.nx nx' rg) ⟨putT o.dst v tm1, catH nb s.hp, nx', s.nt, s.k0⟩ := by
        unfold dPut at hd
        cases hdd : o.dst with
        | none => rw [hdd] at hd; exact ⟨fun d h => (by cases h), hd⟩
        | some d =>
          rw [hdd] at hd
          obtain ⟨h1, h2⟩ := lit_iff.1 hd
          refine ⟨fun d' h => ?_, h2⟩
          injection h with h; subst h
          rw [← hS.nt]; simpa using h1
      have hF := hF hdn
      have hG2 : Good P ops s0 (⟨o.dst, v, nb, s.nx, nx', p⟩ :: rest) := ⟨hG, hF⟩
      have hS2 : Sub0 s0 (⟨o.dst, v, nb, s.nx, nx', p⟩ :: rest) ⟨putT o.dst v tm1, catH nb s.hp, nx', s.nt, s.k0⟩ := by
        refine ⟨rfl, hS.nt, hS.k0, fun t u h => ?_, fun i c h => ?_⟩
        · show lk (putT o.dst v (tmR (fun _ => true) s0.tm rest)) t = some u
          have h : lk (putT o.dst v tm1) t = some u := h
          rw [lk_putT] at h ⊢
          split at h
          · rename_i e; rw [if_pos e]; exact h
          · rename_i e; rw [if_neg e]; exact hS.tm t u (htm1 t u h)
        · show lk (nb ++ hpR (fun _ => true) s0.hp rest) i = some c
          have h : lk (catH nb s.hp) i = some c := h
          rw [lk_catH] at h
          rw [lk_append] at h ⊢
          cases hn : lk nb i with
          | some c2 => rw [hn] at h; exact h
          | none => rw [hn] at h; exact hS.hp i c h
      have hR2 : Rg (⟨o.dst, v, nb, s.nx, nx', p⟩ :: rest) (rgN rest.length s.nx nx' rg) := by
        refine ⟨fun k q hq => ?_⟩
        unfold rgN
        rcases hq with ⟨e1, e2⟩ | hq
        · subst e1; subst e2
          cases hb : Nat.beq nx' s.nx with
          | true => exact .inl (Nat.eq_of_beq_eq_true hb)
          | false => exact .inr (by simp)
        · rcases hR.all k q hq with e | e
          · exact .inl e
          · right; split
            · exact e
            · exact List.mem_cons_of_mem _ e
      obtain ⟨ext, s', g1, g2, g3, g4, g5, g6, g7⟩ := draw_extract hT pl l (pre ++ [o]) (⟨o.dst, v, nb, s.nx, nx', p⟩ :: rest) (rgN rest.length s.nx nx' rg) _ (by simp [hops]) (by simp [hpre]) hG2 hR2 hS2 hnx hk
      refine ⟨ext ++ [⟨o.dst, v, nb, s.nx, nx', p⟩], s', by simpa using g1, by simp [g2], ?_, by simpa using g4, by simpa using g5, by simpa using g6, by simp; omega⟩
      intro k q hq hk
      rw [List.append_assoc] at hq
      by_cases e : k = rest.length
      · subst e
        have h1 : At (⟨o.dst, v, nb, s.nx, nx', p⟩ :: rest) rest.length q := At.low hq (by simp)
        rcases h1 with ⟨_, h1⟩ | h1
        · subst h1; simp
        · have := At.lt h1; omega
      · have := g3 k q hq (by simp; omega)
        rw [show k - rest.length = (k - (rest.length + 1)) + 1 by omega]
        simpa using this
    -- the part that the operation sees
    have hk1 : ∀ t v, lk (keepT p.dl s.tm) t = some v → lk (tmR (fun _ => true) s0.tm rest) t = some v ∧ t ∉ p.dl := fun t v h => by
      obtain ⟨h1, h2⟩ := lk_keepT h; exact ⟨hS.tm t v h1, h2⟩
    have hh1 : ∀ i c, lk (keepD p.hd (keepH' (holes p.un rg) s.hp)) i = some c → lk (hpR (fun _ => true) s0.hp rest) i = some c ∧ (∀ k q, At rest k q → k ∈ p.un → outside q.b q.b' i) ∧ i ∉ p.hd := fun i c h => by
      obtain ⟨h0, h3⟩ := lk_keepD h
      obtain ⟨h1, h2⟩ := lk_keepH' h0; exact ⟨hS.hp i c h1, fun k q hq hk => hR.out h2 hq hk, h3⟩
    -- an operation that runs
    have run : ∀ (tm0 tm1 : List (Nat × AV)), (∀ t v, lk tm0 t = some v → lk (tmR (fun _ => true) s0.tm rest) t = some v ∧ t ∉ p.dl) → (∀ t v, lk tm1 t = some v → lk s.tm t = some v) →
        (∀ (E : Env) (R : Ren) (a : Act) (w : World), Fit E R ⟨tm0, keepD p.hd (keepH' (holes p.un rg) s.hp), s.nx, s.nt, s.nx⟩ a w → Region.wanted o (yielded ops a.tmps) = true) →
        quietA P T md ⟨tm0, keepD p.hd (keepH' (holes p.un rg) s.hp), s.nx, s.nt, s.nx⟩ o.op (dNew p.ws s.nx (dNext (holes p.un rg) fun v nb nx' => dPut o.dst s.nt v tm1 fun tm => drawA P T md ops.toList K pl l (rest.length + 1) (rgN rest.length s.nx nx' rg) ⟨tm, catH nb s.hp, nx', s.nt, s.k0⟩)) → Ext P T md ops K s0 rest (p :: pl) (o :: l) :=
      fun tm0 tm1 h0 h1 hw hq => by
        obtain ⟨v, nb, nx', hk, hle, hnb, hrun⟩ := quietA_det (o := o) hT hq
        obtain ⟨hws, hk⟩ := dNew_elim hk
        obtain ⟨hnx, ⟨av1, av2⟩, hk⟩ := dNext_elim hk
        refine go tm1 v nb nx' h1 hk hnx fun hdn => ⟨⟨o, tm0, keepD p.hd (keepH' (holes p.un rg) s.hp), ho, rfl, hdn, h0, hh1, fun i c hc => (hnb i c hc).1, ?_⟩, hS.nx, hle, fun i c hc => ⟨hws i c hc, (hnb i c hc).2⟩, ?_⟩
        · intro E R a w n r Q hb F
          unfold wpOpIn
          simp only [ho]
          rw [if_pos]
          · have := hrun E R a w n r Q (by rw [hS.nt]; exact F)
            rw [← hS.nt]; exact this
          · exact hw E R a w (by rw [hS.nt]; exact F)
        · intro k q hq hk
          exact ⟨av1.mono fun i hi => hR.out hi hq hk, fun i c hc => (av2 (i, c) (mem_lk hc)).mono fun i hi => hR.out hi hq hk⟩
    -- one that is passed over
    have skip : ∀ (tm0 tm1 : List (Nat × AV)), (∀ t v, lk tm0 t = some v → lk (tmR (fun _ => true) s0.tm rest) t = some v ∧ t ∉ p.dl) → (∀ t v, lk tm1 t = some v → lk s.tm t = some v) →
        (∀ (E : Env) (R : Ren) (a : Act) (w : World), Fit E R ⟨tm0, keepD p.hd (keepH' (holes p.un rg) s.hp), s.nx, s.nt, s.nx⟩ a w → Region.wanted o (yielded ops a.tmps) = false) →
        (dPut o.dst s.nt (.t []) tm1 fun tm => drawA P T md ops.toList K pl l (rest.length + 1) rg ⟨tm, s.hp, s.nx, s.nt, s.k0⟩) → Ext P T md ops K s0 rest (p :: pl) (o :: l) :=
      fun tm0 tm1 h0 h1 hw hq => by
        refine go tm1 (.t []) [] s.nx h1 ?_ (by rw [hS.nx]; exact hN) fun hdn => ⟨⟨o, tm0, keepD p.hd (keepH' (holes p.un rg) s.hp), ho, rfl, hdn, h0, hh1, (fun i c h => by cases h), ?_⟩, hS.nx, Nat.le_refl _, (fun i c h => by cases h), ?_⟩
        · have : rgN rest.length s.nx s.nx rg = rg := by simp [rgN]
          rw [this]; exact hq
        · intro E R a w n r Q hb F
          unfold wpOpIn
          simp only [ho]
          rw [if_neg]
          · exact ⟨fun f _ => trivial, undef, R, rfl, F, conV_undef R, fun e he => by cases he⟩
          · have := hw E R a w (by rw [hS.nt]; exact F)
            rw [this]; simp
        · intro k q hq hk
          exact ⟨(fun e he => (by cases he)), fun i c hc => (by cases hc)⟩
    simp only [drawA, AS.on_eq, dCat_eq] at h
    split at h
    · rename_i hg
      exact run _ _ hk1 (fun _ _ h => h) (fun E R a w F => by simp [Region.wanted, hg]) h
    · rename_i j want hg
      split at h <;> try exact h.elim
      rename_i d hd
      have hy : ∀ (a : Act), yielded ops a.tmps j = match a.tmps[d]? with | some (.bool b) => some b | _ => none := fun a => by
        have : (ops[j]?).bind (·.dst) = some d := by rw [← Array.getElem?_toList]; exact hd
        simp only [yielded, this, Option.bind_some]
        cases a.tmps[d]? with
        | none => rfl
        | some v => cases v <;> rfl
      split at h <;> try exact h.elim
      · rename_i b hb
        have ext : ∀ b2, b = b2 → ∀ (tm : List (Nat × AV)) t v, lk tm d = some (.c (.bool b)) → lk ((d, .c (.bool b2)) :: tm) t = some v → lk tm t = some v := by
          intro b2 e tm t v h1 h2
          simp only [lk] at h2
          split at h2
          · rename_i e2; subst e2; rw [h1, e]; exact h2
          · exact h2
        have hb' := (lk_keepT hb).1
        have yb : ∀ (b2 : Bool), b = b2 → ∀ (E : Env) (R : Ren) (a : Act) (w : World), Fit E R ⟨(d, .c (.bool b2)) :: keepT p.dl s.tm, keepD p.hd (keepH' (holes p.un rg) s.hp), s.nx, s.nt, s.nx⟩ a w → yielded ops a.tmps j = some b2 := fun b2 e E R a w F => by
          obtain ⟨u, hu, hc⟩ := F.tm d (.c (.bool b2)) (by simp [lk])
          simp only [conV, conC] at hc
          subst hc
          rw [hy, hu]
        by_cases hbw : b = want
        · refine run _ _ (fun t v ht => hk1 t v (ext want hbw _ t v hb ht)) (fun t v ht => ext want hbw _ t v hb' ht) (fun E R a w F => ?_) (h.1 hbw)
          have := yb want hbw E R a w F
          simp [Region.wanted, hg, this]
        · have hb2 : b = !want := by cases b <;> cases want <;> simp_all
          refine skip ((d, .c (.bool (!want))) :: keepT p.dl s.tm) _ (fun t v ht => hk1 t v (ext (!want) hb2 _ t v hb ht)) (fun t v ht => ext (!want) hb2 _ t v hb' ht) (fun E R a w F => ?_) (h.2 hb2)
          have := yb (!want) hb2 E R a w F
          cases want <;> simp [Region.wanted, hg, this]
      · rename_i hb
        refine skip _ _ hk1 (fun _ _ h => h) (fun E R a w F => ?_) h
        obtain ⟨u, hu, hc⟩ := F.tm d _ hb
        obtain ⟨vs, rfl, _, _⟩ := hc
        have hy2 : yielded ops a.tmps j = none := by rw [hy, hu]
        simp [Region.wanted, hg, hy2]

end Go.AH

/-
  A region that draws its order: the rule.
-/
namespace Go.AH
open Go.RowKit

variable {P : Program} {T : Nat → Option TI} {md : Bool} {E : Env} {R R2 : Ren} {s : AS} {a : Act} {w w' : World} {n : Nat} {r : Option Nat}

def unl (listed : Array Bool) : Nat → Nat
  | 0 => 0
  | k + 1 => unl listed k + (if listed.getD k false = true then 0 else 1)
theorem getD_set {listed : Array Bool} {i k : Nat} (hi : i < listed.size) : (listed.setIfInBounds i true).getD k false = if k = i then true else listed.getD k false := by
  by_cases e : k = i
  · subst e; simp [hi]
  · rw [if_neg e, getD_set_ne false (fun h => e h.symm)]
theorem unl_set {listed : Array Bool} {i : Nat} (hi : i < listed.size) (hn : listed.getD i false = false) : ∀ N, unl (listed.setIfInBounds i true) N + (if i < N then 1 else 0) = unl listed N
  | 0 => by simp [unl]
  | k + 1 => by
    have ih := unl_set hi hn k
    simp only [unl, getD_set hi]
    by_cases e : k = i
    · subst e
      rw [if_neg (Nat.lt_irrefl _)] at ih
      rw [hn]; simp; omega
    · rw [if_neg e]
      by_cases h : i < k
      · rw [if_pos h] at ih; rw [if_pos (show i < k + 1 by omega)]; omega
      · rw [if_neg h] at ih; rw [if_neg (show ¬ i < k + 1 by omega)]; omega
theorem unl_zero {listed : Array Bool} : ∀ {N : Nat}, unl listed N = 0 → ∀ k, k < N → listed.getD k false = true
  | N + 1, h, k, hk => by
    simp only [unl] at h
    by_cases e : listed.getD N false = true
    · by_cases e2 : k = N
      · subst e2; exact e
      · exact unl_zero (N := N) (by omega) k (by omega)
    · rw [if_neg e] at h; omega
theorem unl_le (listed : Array Bool) : ∀ N, unl listed N ≤ N
  | 0 => Nat.le_refl _
  | k + 1 => by have := unl_le listed k; simp only [unl]; split <;> omega

variable {ops : Array Oper} {pl : List PE} {Q : Exit → Act → World → Prop}

theorem tail_any (hP : PlanP ops pl) : ∀ (d q fuel : Nat) (listed : Array Bool) (a : Act) (w : World), q + d = ops.size → pl.length ≤ q → d ≤ fuel → listed.size = ops.size → (∀ k, k < ops.size → (listed.getD k false = true ↔ k < q)) →
    wpOpsIn (FW r) n P ops Q (List.range' q d) a w → wpAnyIn (FW r) n P .any ops Q fuel listed a w := by
  have ready : ∀ (q : Nat) (listed : Array Bool), pl.length ≤ q → listed.size = ops.size → (∀ k, k < ops.size → (listed.getD k false = true ↔ k < q)) → ∀ i, i ∈ Region.ready .any ops listed ↔ (i = q ∧ q < ops.size) := by
    intro q listed hq hsz hl i
    rw [mem_ready]
    constructor
    · rintro ⟨h0, o, ho, hall⟩
      have hi : i < ops.size := (Array.getElem?_eq_some_iff.1 ho).1
      have h0' : listed.getD i false = false := by
        have : listed.getD i true = listed.getD i false := by simp [hsz, hi]
        rw [← this]; exact h0
      have hqi : q ≤ i := by
        by_cases h : i < q
        · rw [(hl i hi).2 h] at h0'; cases h0'
        · omega
      by_cases e : i = q
      · exact ⟨e, by omega⟩
      · exfalso
        obtain ⟨e, he, hb, h⟩ := hP.suf i o ho (by simp; omega) q (by omega)
        have h1 := hall e he hb
        have h2 := hP.lo i o ho e he hb
        have h3 := (hl e.on (by omega)).1 h1
        rcases h with h | ⟨_, ⟨p, hp, hj⟩ | ⟨_, hj⟩⟩
        · omega
        · have hlt := (List.getElem?_eq_some_iff.1 hp).1
          have hx : e.on < ops.size := by omega
          have := (hP.bf e.on _ p (Array.getElem?_eq_getElem hx) hp q hj).1
          omega
        · omega
    · rintro ⟨rfl, hi⟩
      have h0 : listed.getD i true = false := by
        have h1 : ¬ listed.getD i false = true := fun h => by have := (hl i hi).1 h; omega
        have : listed.getD i true = listed.getD i false := by simp [hsz, hi]
        rw [this]; simpa using h1
      exact ⟨h0, ops[i], Array.getElem?_eq_getElem hi, fun e he hb => by
        have h2 := hP.lo i _ (Array.getElem?_eq_getElem hi) e he hb
        exact (hl e.on (by omega)).2 h2⟩
  intro d
  induction d with
  | zero =>
    intro q fuel listed a w hqd hq hf hsz hl h
    have hr : Region.ready .any ops listed = [] := List.eq_nil_iff_forall_not_mem.2 fun i hi => by
      have := (ready q listed hq hsz hl i).1 hi; omega
    have h : Q .normal a w := by simpa [wpOpsIn] using h
    cases fuel with
    | zero => exact ⟨hr, h⟩
    | succ f => exact ⟨fun _ => h, fun i hi => by rw [hr] at hi; cases hi⟩
  | succ d ih =>
    intro q fuel listed a w hqd hq hf hsz hl h
    cases fuel with
    | zero => omega
    | succ f =>
      refine ⟨fun hr => ?_, fun i hi => ?_⟩
      · have := (ready q listed hq hsz hl q).2 ⟨rfl, by omega⟩
        rw [hr] at this; cases this
      · obtain ⟨rfl, hi2⟩ := (ready q listed hq hsz hl i).1 hi
        rw [List.range'_succ, wpOpsIn_cons] at h
        refine wpOpIn_mono (fun a w h => ih (i + 1) f _ a w (by omega) (by omega) (by omega) (by simp [hsz]) (fun k hk => ?_) h) h
        rw [getD_set (by omega)]
        by_cases e : k = i
        · simp [e]
        · rw [if_neg e, hl k hk]; omega

theorem any_of_walk {s0 : AS} {Rs : List Rc} (hP : PlanP ops pl) (hlen : Rs.length = pl.length) (hsz' : pl.length ≤ ops.size) (hpe : ∀ k q, At Rs k q → pl[k]? = some q.pe) (hG : Good P ops s0 Rs)
    (hfin : ∀ a w, JJ s0 Rs E (fun _ => true) a w → wpOpsIn (FW r) n P ops Q (List.range' pl.length (ops.size - pl.length)) a w) :
    ∀ (fuel : Nat) (listed : Array Bool) (a : Act) (w : World), listed.size = ops.size → unl listed pl.length + (ops.size - pl.length) ≤ fuel → (∀ k, pl.length ≤ k → k < ops.size → listed.getD k false = false) →
      (∀ k q, At Rs k q → listed.getD k false = true → ∀ j ∈ q.pe.bf, listed.getD j false = true) → JJ s0 Rs E (fun k => listed.getD k false) a w → wpAnyIn (FW r) n P .any ops Q fuel listed a w := by
  have opsAt : ∀ k q, At Rs k q → ∃ o, ops[k]? = some o ∧ q.dst = o.dst := fun k q hq => by
    obtain ⟨pre, rest, e, hl⟩ := hq.split
    have := (Good.suf (pre := pre) (l := q :: rest) (by rw [← e]; exact hG)).2.run
    obtain ⟨o, _, _, ho, hd, _⟩ := this
    exact ⟨o, by rw [← hl]; exact ho, hd⟩
  have plan : Plan ops Rs := ⟨fun i k p q hp hq hik hn => by
      obtain ⟨oi, hoi, hdi⟩ := opsAt i p hp
      obtain ⟨ok, hok, hdk⟩ := opsAt k q hq
      have := hP.un k ok q.pe i oi p.pe hok (hpe k q hq) hik hoi (hpe i p hp) hn
      exact ⟨fun d h => this.2.2.1 d (by rw [← hdk]; exact h), fun d h => this.2.1 d (by rw [← hdi]; exact h), this.1, this.2.2.2.2, this.2.2.2.1⟩,
    fun i k p q d hp hq hik h1 h2 => by
      obtain ⟨oi, hoi, hdi⟩ := opsAt i p hp
      obtain ⟨ok, hok, hdk⟩ := opsAt k q hq
      exact hP.same k ok q.pe i oi p.pe d hok (hpe k q hq) hik hoi (hpe i p hp) (by rw [← hdi]; exact h1) (by rw [← hdk]; exact h2)⟩
  intro fuel
  induction fuel with
  | zero =>
    intro listed a w hsz hf hno hdown hJ
    have hall := unl_zero (listed := listed) (N := pl.length) (by omega)
    have hJ' : JJ s0 Rs E (fun _ => true) a w := by
      obtain ⟨R, F, h1, h2, h3, h4⟩ := hJ
      have e1 : ∀ k q, At Rs k q → (fun k => listed.getD k false) k = (fun _ => true) k := fun k q hq => hall k (by have := hq.lt; omega)
      refine ⟨R, ((F.tm_sub (tm' := tmR (fun _ => true) s0.tm Rs) fun t v h => ?_).hp_sub (hp' := hpR (fun _ => true) s0.hp Rs) fun i c h => ?_), h1, h2, h3, fun i q hq _ => h4 i q hq (e1 i q hq)⟩
      · rw [← h]; exact tmR_S fun k q hq _ => e1 k q hq
      · show lk (hpR _ s0.hp Rs) i = some c
        rw [← h]; exact hpR_S fun k q hq _ => e1 k q hq
    refine tail_any hP (ops.size - pl.length) pl.length 0 listed a w (by omega) (Nat.le_refl _) (by omega) hsz (fun k hk => ?_) (hfin a w hJ')
    constructor
    · intro h; by_cases e : k < pl.length
      · exact e
      · rw [hno k (by omega) hk] at h; cases h
    · exact hall k
  | succ f ih =>
    intro listed a w hsz hf hno hdown hJ
    by_cases hz : unl listed pl.length = 0
    · have hall := unl_zero (listed := listed) (N := pl.length) hz
      have hJ' : JJ s0 Rs E (fun _ => true) a w := by
        obtain ⟨R, F, h1, h2, h3, h4⟩ := hJ
        have e1 : ∀ k q, At Rs k q → (fun k => listed.getD k false) k = (fun _ => true) k := fun k q hq => hall k (by have := hq.lt; omega)
        refine ⟨R, ((F.tm_sub (tm' := tmR (fun _ => true) s0.tm Rs) fun t v h => ?_).hp_sub (hp' := hpR (fun _ => true) s0.hp Rs) fun i c h => ?_), h1, h2, h3, fun i q hq _ => h4 i q hq (e1 i q hq)⟩
        · rw [← h]; exact tmR_S fun k q hq _ => e1 k q hq
        · show lk (hpR _ s0.hp Rs) i = some c
          rw [← h]; exact hpR_S fun k q hq _ => e1 k q hq
      refine tail_any hP (ops.size - pl.length) pl.length (f + 1) listed a w (by omega) (Nat.le_refl _) (by omega) hsz (fun k hk => ?_) (hfin a w hJ')
      constructor
      · intro h; by_cases e : k < pl.length
        · exact e
        · rw [hno k (by omega) hk] at h; cases h
      · exact hall k
    · -- some of the plan have not come up
      have least : ∃ i, i < pl.length ∧ listed.getD i false = false ∧ ∀ k, k < i → listed.getD k false = true := by
        have : ∀ N, unl listed N ≠ 0 → ∃ i, i < N ∧ listed.getD i false = false ∧ ∀ k, k < i → listed.getD k false = true := by
          intro N
          induction N with
          | zero => intro h; exact absurd rfl h
          | succ N ih2 =>
            intro h
            by_cases h2 : unl listed N = 0
            · refine ⟨N, by omega, ?_, unl_zero h2⟩
              cases e : listed.getD N false with
              | false => rfl
              | true => simp only [unl, h2, e] at h; simp at h
            · obtain ⟨i, h3, h4⟩ := ih2 h2
              exact ⟨i, by omega, h4⟩
        exact this _ hz
      obtain ⟨i0, hi0, hun0, hlow⟩ := least
      refine ⟨fun hr => ?_, fun i hi => ?_⟩
      · exfalso
        have hlt : i0 < ops.size := by omega
        have : i0 ∈ Region.ready .any ops listed := mem_ready.2 ⟨by
          have : listed.getD i0 true = listed.getD i0 false := by simp [hsz, hlt]
          rw [this]; exact hun0, ops[i0], Array.getElem?_eq_getElem hlt, fun e he hb => hlow _ (hP.lo i0 _ (Array.getElem?_eq_getElem hlt) e he hb)⟩
        rw [hr] at this; cases this
      · obtain ⟨h0, o, ho, hall⟩ := mem_ready.1 hi
        have hlt : i < ops.size := (Array.getElem?_eq_some_iff.1 ho).1
        have h0' : listed.getD i false = false := by
          have : listed.getD i true = listed.getD i false := by simp [hsz, hlt]
          rw [← this]; exact h0
        -- what comes before has come up
        have before : ∀ j, (∃ e ∈ o.after, Region.binds .any e = true ∧ (e.on = j ∨ (e.on < i ∧ ((∃ q, pl[e.on]? = some q ∧ j ∈ q.bf) ∨ (pl[e.on]? = none ∧ j < e.on))))) → listed.getD j false = true := by
          rintro j ⟨e, he, hb, h⟩
          have h1 := hall e he hb
          rcases h with h | ⟨h2, ⟨q, hq, hj⟩ | ⟨hq, hj⟩⟩
          · rw [← h]; exact h1
          · obtain ⟨q', hq'⟩ := At.of_lt (l := Rs) (i := e.on) (by rw [hlen]; exact (List.getElem?_eq_some_iff.1 hq).1)
            have h3 := hpe _ q' hq'
            rw [hq] at h3; injection h3 with h3
            exact hdown e.on q' hq' h1 j (by rw [← h3]; exact hj)
          · have : pl.length ≤ e.on := by simpa using hq
            rw [hno e.on this (by omega)] at h1; cases h1
        have him : i < pl.length := by
          by_cases h : i < pl.length
          · exact h
          · exfalso
            have := before i0 (hP.suf i o ho (by simp; omega) i0 (by omega))
            rw [hun0] at this; cases this
        obtain ⟨p, hp⟩ := At.of_lt (l := Rs) (i := i) (by omega)
        have hbf : ∀ j ∈ p.pe.bf, listed.getD j false = true := fun j hj => before j (hP.bf i o p.pe ho (hpe i p hp) j hj).2
        refine wpOpIn_mono (fun a' w' hJ' => ih (listed.setIfInBounds i true) a' w' (by simp [hsz]) ?_ ?_ ?_ hJ') (sched_step (S' := fun k => (listed.setIfInBounds i true).getD k false) hG plan hJ hdown hp h0' hbf ⟨?_, ?_⟩)
        · have := unl_set (listed := listed) (i := i) (by omega) h0' pl.length
          rw [if_pos him] at this; omega
        · intro k hk hk2
          rw [getD_set (by omega), if_neg (by omega)]; exact hno k hk hk2
        · intro k q hq hs j hj
          rw [getD_set (by omega)] at hs ⊢
          split
          · rfl
          · by_cases e : k = i
            · subst e
              have e2 : q = p := hq.uniq hp
              subst e2; exact hbf j hj
            · rw [if_neg e] at hs; exact hdown k q hq hs j hj
        · show (listed.setIfInBounds i true).getD i false = true
          rw [getD_set (by omega), if_pos rfl]
        · intro k hk
          show (listed.setIfInBounds i true).getD k false = _
          rw [getD_set (by omega), if_neg hk]

theorem tmR_false (tm : List (Nat × AV)) : ∀ Rs : List Rc, tmR (fun _ => false) tm Rs = tm
  | [] => rfl
  | r :: rest => by simp [tmR, tmR_false tm rest]
theorem hpR_false (hp : List (Nat × ABlk)) : ∀ Rs : List Rc, hpR (fun _ => false) hp Rs = hp
  | [] => rfl
  | r :: rest => by simp [hpR, hpR_false hp rest]

theorem Tr.draw {id : Nat} {Q : Exit → AS → Prop} (pl : List PE) (hT : TOk P T) (hm : P.follows .mixedOrders = true) (hc : planOk ops pl = true) (h : drawA P T md ops.toList (Q .normal) pl ops.toList 0 [] s) : Tr P (.region id ops true) s Q := Tr.intro fun E R a w n r F ht => by
  refine wpIn_region_any hm ?_
  have Fd : Fit E R s a { w with drawn := w.drawn + 1 } := F.keep0 ⟨rfl, rfl, rfl, Nat.le_refl _, fun _ _ _ => rfl⟩
  have hP := planOk_sound hc
  have rep0 : ∀ k, (Array.replicate ops.size false).getD k false = false := fun k => by
    by_cases h : k < ops.size <;> simp [h]
  obtain ⟨Rs, s', hG, hlen, hpe, hS, hN, hops, hle⟩ := draw_extract (s0 := s) hT pl ops.toList [] [] [] s (by simp) rfl trivial ⟨fun k q h => h.elim⟩ ⟨rfl, rfl, rfl, fun _ _ h => h, fun _ _ h => h⟩ Fd.nk.2 h
  rw [List.append_nil] at hG hpe hS hN
  have hle' : pl.length ≤ ops.size := by simpa using hle
  refine any_of_walk (E := E) hP hlen hle' (fun k q hq => by simpa using hpe k q hq (Nat.zero_le _)) hG ?_ ops.size _ a _ (by simp) ?_ ?_ ?_ ?_
  · rintro a' w' ⟨R', F', _⟩
    have F2 : Fit E R' s' a' w' := by
      have := (F'.tm_sub (tm' := s'.tm) hS.tm).hp_sub (hp' := s'.hp) hS.hp
      obtain ⟨tm, hp, nx, nt, k0⟩ := s'
      obtain ⟨e1, e2, e3, _, _⟩ := hS
      simp only at e1 e2 e3
      subst e1; subst e2; subst e3
      exact this
    have hpre : ops.toList = ops.toList.take pl.length ++ ops.toList.drop pl.length := (List.take_append_drop _ _).symm
    have := opsW_sound (P := P) (n := n) (r := r) hT (ops := ops) (K := Q .normal) (Q := fun e a' w' => ∃ R' s', Q e s' ∧ Fit E R' s' a' w') (fun s' R' a' w' hk F' => ⟨R', s', hk, F'⟩) (ops.toList.drop pl.length) (ops.toList.take pl.length) s' R' a' w' hpre hops F2
    have e1 : (List.take pl.length ops.toList).length = pl.length := by simp; omega
    have e2 : (List.drop pl.length ops.toList).length = ops.size - pl.length := by simp
    rw [e1, e2] at this
    exact this
  · have := unl_le (Array.replicate ops.size false) pl.length; omega
  · intro k _ hk; simp [hk]
  · intro k q hq hs; rw [rep0] at hs; cases hs
  · have e : (fun k => (Array.replicate ops.size false).getD k false) = fun _ => false := by funext k; exact rep0 k
    have hnx : s.nx ≤ nxR s.nx Rs := Good.nx0 hG
    refine ⟨R, ?_, Fd.wf.tm, Fd.wf.hp, Fd.nk.1, fun i q hq hs => by rw [e] at hs; cases hs⟩
    have := Fd.ren (R' := R) (m := nxR s.nx Rs) (Agree.refl _ _) Fd.ok hnx hN
    rw [e]
    unfold StR
    rw [tmR_false, hpR_false]
    exact this

#print axioms Tr.draw
end Go.AH

/-
  Handling: weakening where nothing is renumbered, names for blocks of numbers.
-/
namespace Go.AH
open Go.RowKit

theorem AC.ren_id {q : Nat → Nat} (h : ∀ i, q i = i) (x : AC) : x.ren q = x := by
  have hl : ∀ l : List Nat, l.map q = l := fun l => by rw [show q = id from funext h]; simp
  cases x <;> simp only [AC.ren, h, hl]
theorem LL_ren_id {q : Nat → Nat} (h : ∀ i, q i = i) (cs : List AC) : cs.map (AC.ren q) = cs := by
  rw [show AC.ren q = id from funext (AC.ren_id h)]; simp
theorem AE.ren_id {q : Nat → Nat} (h : ∀ i, q i = i) (x : AE) : x.ren q = x := by
  cases x <;> simp only [AE.ren, AC.ren_id h, LL_ren_id h]
theorem AV.ren_id {q : Nat → Nat} (h : ∀ i, q i = i) (x : AV) : x.ren q = x := by
  cases x <;> simp only [AV.ren, AC.ren_id h, LL_ren_id h]
  rw [show AE.ren q = id from funext (AE.ren_id h)]; simp
theorem ABlk.ren_id {q : Nat → Nat} (h : ∀ i, q i = i) (x : ABlk) : x.ren q = x := by
  cases x <;> simp only [ABlk.ren, LL_ren_id h]
  rename_i m
  rw [show (fun p : List AC × AC => (p.1, p.2.ren q)) = id from funext fun p => by simp only [AC.ren_id h]; rfl]
  simp

def eqT (tm : List (Nat × AV)) : List (Nat × AV) → Prop
  | [] => True
  | (t, v) :: r => (match lk tm t with | some u => u = v | none => False) ∧ eqT tm r
def eqH (hp : List (Nat × ABlk)) : List (Nat × ABlk) → Prop
  | [] => True
  | (i, b) :: r => (match lk hp i with | some c => c = b | none => False) ∧ eqH hp r
theorem eqT_all {tm : List (Nat × AV)} {q : Nat → Nat} (hq : ∀ i, q i = i) : ∀ {l : List (Nat × AV)}, eqT tm l → lkAll tm q l
  | [], _ => trivial
  | (t, v) :: r, h => ⟨by
      have := h.1
      rw [AV.ren_id hq]
      cases hk : lk tm t with
      | none => rw [hk] at this; exact this.elim
      | some u => rw [hk] at this; rw [this], eqT_all hq h.2⟩
theorem eqH_all {hp : List (Nat × ABlk)} {q : Nat → Nat} (hq : ∀ i, q i = i) : ∀ {l : List (Nat × ABlk)}, eqH hp l → hpAll hp q l
  | [], _ => trivial
  | (t, v) :: r, h => ⟨by
      have := h.1
      rw [ABlk.ren_id hq, hq]
      cases hk : lk hp t with
      | none => rw [hk] at this; exact this.elim
      | some u => rw [hk] at this; rw [this], eqH_all hq h.2⟩

theorem rn_nil (i : Nat) : rn [] i = i := rfl

def nodB : List Nat → Bool
  | [] => true
  | i :: r => !r.elem i && nodB r
theorem nodB_sound : ∀ {l : List Nat}, nodB l = true → l.Nodup
  | [], _ => List.nodup_nil
  | i :: r, h => by
    simp only [nodB, Bool.and_eq_true, Bool.not_eq_true'] at h
    exact List.nodup_cons.2 ⟨by simpa using h.1, nodB_sound h.2⟩

def Sub0T (s t : AS) : Prop := t.nt = s.nt ∧ t.k0 = s.k0 ∧ (t.k0 ≤ t.nx ∧ t.nx ≤ s.nx) ∧ nodB (t.hp.map Prod.fst) = true ∧ tmLt t.nx t.tm ∧ hpLt t.nx t.hp
theorem Sub.nil {s t : AS} (h : Sub0T s t) (htm : eqT s.tm t.tm) (hhp : eqH s.hp t.hp) : Sub s t [] :=
  ⟨h.1, h.2.1, h.2.2.1, (fun p hp => absurd hp (List.not_mem_nil)), eqT_all rn_nil htm, eqH_all rn_nil hhp, nodB_sound h.2.2.2.1, h.2.2.2.2.1, h.2.2.2.2.2⟩

theorem AC.ren_lt_id {q : Nat → Nat} {n : Nat} (h : ∀ i, idOk n i → q i = i) {x : AC} (hx : x.lt n) : x.ren q = x := by
  cases x <;> simp only [AC.ren, AC.lt] at hx ⊢ <;> first | rw [h _ hx] | skip
  rename_i f fs cs
  have : ∀ l : List Nat, (∀ i ∈ l, idOk n i) → l.map q = l := fun l hl => by
    conv => rhs; rw [← List.map_id l]
    exact List.map_congr_left fun i hi => h i (hl i hi)
  rw [this fs hx.1, this cs hx.2]
theorem LL.ren_lt_id {q : Nat → Nat} {n : Nat} (h : ∀ i, idOk n i → q i = i) {cs : List AC} (hx : LL n cs) : cs.map (AC.ren q) = cs := by
  conv => rhs; rw [← List.map_id cs]
  exact List.map_congr_left fun x hi => AC.ren_lt_id h (hx x hi)
theorem AE.ren_lt_id {q : Nat → Nat} {n : Nat} (h : ∀ i, idOk n i → q i = i) {x : AE} (hx : x.lt n) : x.ren q = x := by
  cases x with
  | c x => simp only [AE.ren, AC.ren_lt_id h hx]
  | g cs => simp only [AE.ren, LL.ren_lt_id h hx]
theorem AV.ren_lt_id {q : Nat → Nat} {n : Nat} (h : ∀ i, idOk n i → q i = i) {x : AV} (hx : x.lt n) : x.ren q = x := by
  cases x with
  | c x => simp only [AV.ren, AC.ren_lt_id h hx]
  | g cs => simp only [AV.ren, LL.ren_lt_id h hx]
  | t es =>
    simp only [AV.ren]
    congr 1
    conv => rhs; rw [← List.map_id es]
    exact List.map_congr_left fun e hi => AE.ren_lt_id h (hx e hi)
theorem ABlk.ren_lt_id {q : Nat → Nat} {n : Nat} (h : ∀ i, idOk n i → q i = i) {x : ABlk} (hx : x.lt n) : x.ren q = x := by
  cases x with
  | ro cs => simp only [ABlk.ren, LL.ren_lt_id h hx]
  | own cs => simp only [ABlk.ren, LL.ren_lt_id h hx]
  | row e z cs => simp only [ABlk.ren, LL.ren_lt_id h hx]
  | mp m =>
    simp only [ABlk.ren]
    congr 1
    conv => rhs; rw [← List.map_id m]
    exact List.map_congr_left fun p hi => by rw [LL.ren_lt_id h (hx p hi).1, AC.ren_lt_id h (hx p hi).2]; rfl
  | mi I => rfl
  | si s p => rfl
  | li I => rfl
theorem qf_id {k : Nat} (i : Nat) (h : idOk k i) : qf k [] i = i := by
  unfold qf
  rcases h with h | h
  · rw [if_pos h]
  · by_cases h2 : i < k
    · rw [if_pos h2]
    · rw [if_neg h2, if_pos h]

theorem Fin.nil {s : AS} {r : AV} {Post : AV → List (Nat × ABlk) → Nat → Prop} (hp' : List (Nat × ABlk)) (hpost : Post r hp' s.k0) (hr : r.lt s.k0) (hh : eqH s.hp hp') (hl : hpLt s.k0 hp') (hn : nodB (hp'.map Prod.fst) = true) (hk : s.k0 ≤ GB) : Fin s r Post := by
  refine Fin.mk [] r hp' ⟨by simpa using hpost, AV.ren_lt_id qf_id hr, ?_, ?_, nodB_sound hn, by simpa using hr, by simpa using hl, by simpa using hk⟩
  · clear hpost hn
    induction hp' with
    | nil => trivial
    | cons p r ih =>
      obtain ⟨i, b⟩ := p
      obtain ⟨h1, h2, h3⟩ := hl
      refine ⟨?_, ih hh.2 h3⟩
      rw [qf_id i h1, ABlk.ren_lt_id qf_id h2]
      have := hh.1
      cases hk : lk s.hp i with
      | none => rw [hk] at this; exact this.elim
      | some u => rw [hk] at this; rw [this]
  · have : (hp'.map fun p => qf s.k0 [] p.1) = hp'.map Prod.fst := by
      clear hpost hh hn
      induction hp' with
      | nil => rfl
      | cons p r ih =>
        obtain ⟨i, b⟩ := p
        simp only [List.map_cons, qf_id i hl.1, ih hl.2.2]
    rw [this]; exact nodB_sound hn

/-! ### Blocks of numbers -/
def ints (xs : List Int) : List AC := xs.map (AC.int .i64)
theorem ints_len (xs : List Int) : (ints xs).length = xs.length := by simp [ints]
theorem ints_LL (n : Nat) (xs : List Int) : LL n (ints xs) := fun x hx => by
  obtain ⟨y, _, rfl⟩ := List.mem_map.1 hx; trivial
theorem ints_ren (q : Nat → Nat) (xs : List Int) : (ints xs).map (AC.ren q) = ints xs := by
  simp [ints, Function.comp_def, AC.ren]
theorem ints_getD (xs : List Int) (i : Nat) (d : Int) : (ints xs).getD i (.int .i64 d) = .int .i64 (xs.getD i d) := by
  simp [ints, List.getD_eq_getElem?_getD]
theorem ints_set (xs : List Int) (i : Nat) (d : Int) : (ints xs).set i (.int .i64 d) = ints (xs.set i d) := by
  simp [ints, List.map_set]
theorem ints_app (xs ys : List Int) : ints xs ++ ints ys = ints (xs ++ ys) := by simp [ints]
end Go.AH

/-
  Handling: calls whose contract says all.
-/
namespace Go.AH
open Go.RowKit

def FDet (P : Program) (f : FuncId) (args : List AV) (hp : List (Nat × ABlk)) (k : Nat) (r : AV) (hp1 : List (Nat × ABlk)) (k1 : Nat) : Prop :=
  FSpec P f args hp k (fun r' hp' k' => r' = r ∧ hp' = hp1 ∧ k' = k1)

variable {P : Program} {f : FuncId} {vs : List AV} {s : AS} {kk : AV → AS → Prop} {kq : AV → List (Nat × ABlk) → Nat → Prop}

def lies (l : List Nat) (n : Nat) (hp : List (Nat × ABlk)) : List (Nat × ABlk) → Prop
  | [] => True
  | (i, b) :: r => ((i < l.length ∨ GB ≤ i) ∧ match lk hp (qq l n i) with
    | some b' => (match b with
      | .ro cs => b'.cells = some (cs.map (AC.ren (qq l n))) ∨ (cs = [] ∧ b'.cells.isSome = true)
      | b => b' = b.ren (qq l n))
    | none => False) ∧ lies l n hp r
theorem lies_get {l : List Nat} {n : Nat} {hp : List (Nat × ABlk)} : ∀ {hp0 : List (Nat × ABlk)}, lies l n hp hp0 → ∀ i b, lk hp0 i = some b → (i < l.length ∨ GB ≤ i) ∧ ∃ b', lk hp (qq l n i) = some b' ∧ Gives b' (b.ren (qq l n))
  | (j, c) :: r, h, i, b, hb => by
    simp only [lk] at hb
    split at hb
    · rename_i e; subst e; injection hb with hb; subst hb
      obtain ⟨⟨h1, h2⟩, _⟩ := h
      refine ⟨h1, ?_⟩
      cases hq : lk hp (qq l n j) with
      | none => rw [hq] at h2; exact h2.elim
      | some b' =>
        rw [hq] at h2
        refine ⟨b', rfl, ?_⟩
        cases c with
        | ro cs =>
          rcases h2 with h2 | ⟨h2, h3⟩
          · exact .inr ⟨_, _, rfl, h2, .inl rfl⟩
          · obtain ⟨cs', hcs⟩ := Option.isSome_iff_exists.1 h3
            subst h2
            exact .inr ⟨_, _, rfl, hcs, .inr rfl⟩
        | own cs => exact .inl h2
        | row e z cs => exact .inl h2
        | mp m => exact .inl h2
        | mi I => exact .inl h2
        | si s p => exact .inl h2
        | li I => exact .inl h2
    · exact lies_get h.2 i b hb
def oldB (n : Nat) : List Nat → Bool
  | [] => true
  | i :: r => (Nat.blt i n || Nat.ble GB i) && oldB n r
theorem oldB_sound {n : Nat} : ∀ {l : List Nat}, oldB n l = true → ∀ i ∈ l, idOk n i
  | j :: r, h, i, hi => by
    simp only [oldB, Bool.and_eq_true, Bool.or_eq_true] at h
    rcases List.mem_cons.1 hi with e | hi
    · subst e
      rcases h.1 with h | h
      · exact .inl (by simpa using h)
      · exact .inr (by simpa using h)
    · exact oldB_sound h.2 i hi
def allRo : List (Nat × ABlk) → Bool
  | [] => true
  | (_, b) :: r => !b.wr && allRo r
theorem allRo_sound : ∀ {hp0 : List (Nat × ABlk)}, allRo hp0 = true → ∀ i b, lk hp0 i = some b → b.wr = false
  | (j, c) :: r, h, i, b, hb => by
    simp only [allRo, Bool.and_eq_true, Bool.not_eq_true'] at h
    simp only [lk] at hb
    split at hb
    · injection hb with hb; subst hb; exact h.1
    · exact allRo_sound h.2 i b hb

theorem qq_inj {l : List Nat} {n i j : Nat} (hl : nodB l = true) (hG : ∀ k ∈ l, k < GB) (hi : i < l.length ∨ GB ≤ i) (hj : j < l.length ∨ GB ≤ j) (hne : i ≠ j) : qq l n i ≠ qq l n j := by
  have hnd := nodB_sound hl
  intro e
  simp only [qq] at e
  by_cases h1 : GB ≤ i <;> by_cases h2 : GB ≤ j
  · rw [if_pos h1, if_pos h2] at e; exact hne e
  · have hj' : j < l.length := by omega
    rw [if_pos h1, if_neg h2, List.getElem?_eq_getElem hj'] at e
    have := hG _ (List.getElem_mem hj'); simp only at e; omega
  · have hi' : i < l.length := by omega
    rw [if_neg h1, if_pos h2, List.getElem?_eq_getElem hi'] at e
    have := hG _ (List.getElem_mem hi'); simp only at e; omega
  · have hi' : i < l.length := by omega
    have hj' : j < l.length := by omega
    rw [if_neg h1, if_neg h2, List.getElem?_eq_getElem hi', List.getElem?_eq_getElem hj'] at e
    simp only at e
    exact hne ((List.getElem_inj hnd).1 e)

theorem CallQ.ro {args : List AV} {hp0 : List (Nat × ABlk)} (l : List Nat) {r : AV} (r' : AV) (h : FDet P f args hp0 l.length r [] l.length) (ha : args.map (AV.ren (qq l s.nx)) = vs) (hb : (oldB s.nx l && allRo hp0 && nodB (hp0.map Prod.fst) && Nat.ble s.nx GB && Nat.ble l.length GB) = true)
    (hl : lies l s.nx s.hp hp0) (hr : r.ren (qq l s.nx) = r') (hk : s.on fun _ _ nx _ _ => kq r' [] nx) : CallQ P f vs s kq := by
  simp only [Bool.and_eq_true] at hb
  obtain ⟨⟨⟨⟨b1, b2⟩, b3⟩, b4⟩, b5⟩ := hb
  have b4 : s.nx ≤ GB := by simpa using b4
  have b5 : l.length ≤ GB := by simpa using b5
  refine callQ_intro args hp0 l r [] l.length [] ⟨h, oldB_sound b1, ha, lies_get hl, ?_, List.nodup_nil, ?_, (fun i b h => by cases h), ⟨Nat.le_refl _, b5⟩, nodB_sound b3, (fun p hp => by cases hp), (fun p hp => by cases hp), by simpa using b4⟩ ?_
  · intro i j b c hi _ _ hw
    rw [allRo_sound b2 i b hi] at hw; cases hw
  · intro i b hi hw
    rw [allRo_sound b2 i b hi] at hw; cases hw
  · rw [AS.on_eq] at hk; simpa [hr] using hk

theorem CallA.ro {args : List AV} {hp0 : List (Nat × ABlk)} (l : List Nat) {r : AV} (r' : AV) (h : FDet P f args hp0 l.length r [] l.length) (ha : args.map (AV.ren (qq l s.nx)) = vs) (hb : (oldB s.nx l && allRo hp0 && Nat.ble s.nx GB) = true)
    (hl : lies l s.nx s.hp hp0) (hr : r.ren (qq l s.nx) = r') (hk : kk r' s) : CallA P f vs s kk := by
  simp only [Bool.and_eq_true] at hb
  obtain ⟨⟨b1, b2⟩, b4⟩ := hb
  have b4 : s.nx ≤ GB := by simpa using b4
  refine callA_intro (args := args) (hp0 := hp0) (l := l) ⟨h, oldB_sound b1, ha, lies_get hl, ?_, ?_⟩
  · intro i j b c hi _ _ hw
    rw [allRo_sound b2 i b hi] at hw; cases hw
  · rintro r2 hp' k' ⟨rfl, rfl, rfl⟩
    have e : gone l s.nx hp0 s.hp = s.hp := by
      clear h hl
      induction hp0 with
      | nil => rfl
      | cons p hp0 ih =>
        obtain ⟨i, b⟩ := p
        simp only [allRo, Bool.and_eq_true, Bool.not_eq_true'] at b2
        simp only [gone, b2.1]
        exact ih b2.2
    have e2 : s.nx + (l.length - l.length) = s.nx := by omega
    refine ⟨by omega, ?_⟩
    rw [hr, e2, behind, e]; exact hk

theorem CallA.det {args : List AV} {hp0 : List (Nat × ABlk)} (l : List Nat) {r : AV} {hp1 : List (Nat × ABlk)} {k1 : Nat} (r' : AV) (hp2 : List (Nat × ABlk)) (h : FDet P f args hp0 l.length r hp1 k1) (ha : args.map (AV.ren (qq l s.nx)) = vs)
    (hb : (oldB s.nx l && nodB l && (l.all fun i => Nat.blt i GB) && Nat.ble (s.nx + (k1 - l.length)) GB) = true)
    (hl : lies l s.nx s.hp hp0) (hr : r.ren (qq l s.nx) = r') (hh : behind l s.nx hp0 hp1 (gone l s.nx hp0 s.hp) = hp2) (hk : s.on fun tm hp nx nt k0 => kk r' ⟨tm, hp2, nx + (k1 - l.length), nt, k0⟩) : CallA P f vs s kk := by
  simp only [Bool.and_eq_true] at hb
  obtain ⟨⟨⟨b1, b2⟩, b3⟩, b4⟩ := hb
  have b4 : s.nx + (k1 - l.length) ≤ GB := by simpa using b4
  have b3 : ∀ k ∈ l, k < GB := fun k hk => by simpa using List.all_eq_true.1 b3 k hk
  refine callA_intro (args := args) (hp0 := hp0) (l := l) ⟨h, oldB_sound b1, ha, lies_get hl, ?_, ?_⟩
  · intro i j b c hi hj hne _
    exact qq_inj b2 b3 (lies_get hl i b hi).1 (lies_get hl j c hj).1 hne
  · rintro r2 hp' k' ⟨rfl, rfl, rfl⟩
    exact ⟨b4, by rw [hr, hh]; exact hk⟩

end Go.AH

/-
  Loops over functions.
-/
namespace Go.AH
open Go.RowKit

def SeqL {α : Type} (n : Nat) (P : Program) (g : Nat) (lb : Array Value) (enc : α → Value) (Kp : Nat → World → World → Prop) (S Sp : List α → Prop) (N : Nat) (w : World) : Prop :=
  ∀ (l : Nat) (J Jx : List α → World → Prop) (W : World), Below w.heap.size w W → l < W.heap.size → OwnFrom W.heap.size J → OwnFrom W.heap.size Jx →
    (∀ pre x W1, J pre W1 → pre.length < N → YieldAt (FW none) (n - 1) P l #[enc x] W1 fun e W' =>
      (e = .returned (.bool true) ∧ J (pre ++ [x]) W' ∧ Kp l W1 W') ∨ (e = .returned (.bool false) ∧ Jx (pre ++ [x]) W' ∧ ∀ k ds, k ≠ l → w.heap.size ≤ k → W1.heap[k]? = some (.deferred ds) → W'.heap[k]? = some (.deferred ds))) →
    J [] W →
    CallsIn (FW none) n P g (#[.func (.yield l) #[] #[]] ++ lb) W fun e W' => (∃ v, e = .returned v) ∧ ((∃ xs, S xs ∧ J xs W') ∨ (∃ pre, Sp pre ∧ Jx pre W'))
theorem own_abides {β : Type} {B : Nat} {J : β → World → Prop} (h : OwnFrom B J) : AbidesFrom B J := fun s W W' row hs hg hr =>
  h s W W' row hs hg fun r e => ⟨(hr r e).1, by obtain ⟨_, o, h1, h2⟩ := hr r e; exact ⟨o, h1, Obj.not_cells_of_walk h2⟩⟩
theorem wpIn_rangeL {α : Type} {P : Program} {g : Operand} {p : Tmp} {assign body : Code} {Q : Exit → Act → World → Prop} {a : Act} {w : World} {n : Nat}
    (h1 : 1 ≤ n) {gf : Nat} {lb : Array Value} (hg : a.eval g = .func (.func gf) #[] lb) (eg : ∀ args w, (callFunc gf args).run P w = .ok (.enter gf args) w)
    {enc : α → Value} {Kp : Nat → World → World → Prop} {S Sp : List α → Prop} {N : Nat} (hseq : SeqL (n - 1) P gf lb enc Kp S Sp N w)
    (hKt : ∀ {l : Nat} {A B C : World}, Kp l A B → Kp l B C → Kp l A C) (hKb : ∀ (l : Nat) (W : World) (o : Obj), w.heap.size < l → Kp l W (W.putObj l o))
    (I : List α → World → Prop) (Ix : Code → List α → World → Prop) (hI : OwnFrom w.heap.size I) (hIx : ∀ c, OwnFrom w.heap.size (Ix c)) (h0 : I [] w) (a₁ : α → Act)
    (hassign : ∀ (l : Nat) (x : α) (W : World) (K : Act → World → Prop), K (a₁ x) W →
      assign.wpIn (FW (some l)) (n - 1 - 1) P (Exit.then K (fun _ _ _ => False)) { tmps := a.tmps.setIfInBounds p (enc x), defers := [] } W)
    (hbody : ∀ (l : Nat) (pre : List α) (x : α) (W : World), w.heap.size < l → I pre W → pre.length < N → body.wpIn (FW (some l)) (n - 1 - 1) P (ownPostG w.heap.size (Kp l) I Ix (pre ++ [x]) W) (a₁ x) W)
    (hdone : ∀ (D : Nat) (xs : List α) (W : World), w.heap.size ≤ D → S xs → I xs W → W.heap[D]? = some (.deferred (some [])) → Q .normal { a with defers := { target := .collected D, args := #[] } :: a.defers } W)
    (hstop : ∀ (D : Nat) (c : Code) (pre : List α) (W : World), w.heap.size ≤ D → Sp pre → Ix c pre W → W.heap[D]? = some (.deferred (some [])) → c.wpIn (FW none) n P Q { a with defers := { target := .collected D, args := #[] } :: a.defers } W) :
    (Code.rangeFunc g #[p] assign body).wpIn (FW none) n P Q a w := by
  refine wpIn_rangeFunc fun fn hfn => ?_
  let D := w.heap.size
  let rec0 : LoopState → Option Code → Loop := fun st pe => { state := st, pending := pe, fn := fn, tmps := a.tmps, params := #[p], assign := assign, body := body, defers := D }
  let W1 := (w.alloc (.deferred (some []))).alloc (.loop (rec0 .ready none))
  have sz : (w.alloc (.deferred (some []))).heap.size = D + 1 := by simp [D]
  have L1 : W1.heap[D + 1]? = some (.loop (rec0 .ready none)) := by
    have := World.alloc_heap_new (w.alloc (.deferred (some []))) (.loop (rec0 .ready none))
    rwa [sz] at this
  have K1 : W1.heap[D]? = some (.deferred (some [])) := (Below.heap_alloc _ _ _ (by omega)).trans (World.alloc_heap_new w _)
  have B1 : Below w.heap.size w W1 := (((Below.refl _ w).alloc (Nat.le_refl _) _).alloc (by simp) _)
  have szW : D + 1 < W1.heap.size := (Array.getElem?_eq_some_iff.1 L1).1
  have nw : ∀ {A : World} {row : Option Nat}, (∀ r, row = some r → W1.heap.size ≤ r ∧ ∃ o : Obj, A.heap[r]? = some o ∧ o.isCells = false) → ∀ r, row = some r → w.heap.size ≤ r ∧ ∃ o : Obj, A.heap[r]? = some o ∧ o.isCells = false :=
    fun h r e => ⟨by have := (h r e).1; show D ≤ r; omega, (h r e).2⟩
  have stay : ∀ {A B : World} {row : Option Nat} {k : Nat} {o : Obj}, A.grownBy B row → (∀ r, row = some r → W1.heap.size ≤ r ∧ ∃ o : Obj, A.heap[r]? = some o ∧ o.isCells = false) → k ≤ D + 1 → A.heap[k]? = some o → B.heap[k]? = some o :=
    fun hg hr hk1 hk => (hg.block _ (Array.getElem?_eq_some_iff.1 hk).1 (fun e => by have := (hr _ e.symm).1; omega)).trans hk
  have hrun : (Instr.enterLoop fn a.tmps #[p] assign body (FW none).round).run P w = .ok (D + 1, [{ target := .collected D, args := #[] }]) W1 := run_enterLoop_outer _ _ _ _ _
  refine ⟨D + 1, [{ target := .collected D, args := #[] }], W1, { target := .fn (.func gf) lb, args := #[.func (.yield (D + 1)) #[] #[]] }, W1, gf, #[.func (.yield (D + 1)) #[] #[]] ++ lb, W1, hrun, ?_, fun _ _ => trivial, by simp [invoke, go_sem, eg], fun _ => h1, ?_⟩
  · simp only [resolve, hg]
    simp [go_sem]
  refine (hseq (D + 1)
    (fun pre W => I pre W ∧ W.heap[D + 1]? = some (.loop (rec0 .ready none)) ∧ W.heap[D]? = some (.deferred (some [])))
    (fun pre W => ∃ c, Ix c pre W ∧ W.heap[D + 1]? = some (.loop (rec0 .done (some c))) ∧ W.heap[D]? = some (.deferred (some [])))
    W1 B1 szW
    (fun s A B row h hgr hr => ⟨hI s A B row h.1 hgr (nw hr), stay hgr hr (Nat.le_refl _) h.2.1, stay hgr hr (Nat.le_succ _) h.2.2⟩)
    (fun s A B row ⟨c, h2, h3, h4⟩ hgr hr => ⟨c, hIx c s A B row h2 hgr (nw hr), stay hgr hr (Nat.le_refl _) h3, stay hgr hr (Nat.le_succ _) h4⟩)
    (fun pre x W ⟨hi, hl, hk⟩ hlen => ?_) ⟨hI.alloc _ (hI.alloc _ h0), L1, K1⟩).mono ?_
  · -- a round
    have hlt := (Array.getElem?_eq_some_iff.1 hl).1
    refine ⟨fn, _, assign, body, run_yield hl (by simp [rec0]), roundIn_of_wpIn hfn ?_⟩
    have hz : (#[p].zip #[enc x]).foldl (fun t (q : Tmp × Value) => t.setIfInBounds q.1 q.2) a.tmps = a.tmps.setIfInBounds p (enc x) := by simp
    show assign.wpIn (FW (some (D + 1))) _ P _ { tmps := (#[p].zip #[enc x]).foldl (fun t (q : Tmp × Value) => t.setIfInBounds q.1 q.2) a.tmps, defers := [] } W
    rw [hz]
    refine hassign (D + 1) x W _ ⟨_, run_beginRound hl rfl, ?_⟩
    let W2 := W.putObj (D + 1) (.loop { rec0 .ready none with state := .busy })
    have hl2 : W2.heap[D + 1]? = some (.loop { rec0 .ready none with state := .busy }) := World.putObj_heap_same hlt
    have hk2 : W2.heap[D]? = some (.deferred (some [])) := (World.putObj_heap_other (by omega)).trans hk
    have hKp : Kp (D + 1) W W2 := hKb _ _ _ (Nat.lt_succ_self _)
    refine wpIn_mono (hbody (D + 1) pre x W2 (Nat.lt_succ_self _) (hI.putObj _ hi (Nat.le_succ _) hl rfl) hlen) ?_
    -- the round's end
    have fin : ∀ (j : Option Code) (W3 : World), KeepsFrom w.heap.size W2 W3 →
        (Instr.endRound (D + 1) j).run P W3 = .ok (.bool j.isNone) (W3.putObj (D + 1) (.loop (rec0 (if j.isNone then .ready else .done) j))) ∧
        W3.heap[D + 1]? = some (.loop { rec0 .ready none with state := .busy }) ∧
        (W3.putObj (D + 1) (.loop (rec0 (if j.isNone then .ready else .done) j))).heap[D + 1]? = some (.loop (rec0 (if j.isNone then .ready else .done) j)) ∧
        (W3.putObj (D + 1) (.loop (rec0 (if j.isNone then .ready else .done) j))).heap[D]? = some (.deferred (some [])) := fun j W3 h3 => by
      have e1 := h3.same _ _ (Nat.le_succ _) hl2 rfl
      exact ⟨run_endRound (P := P) j e1, e1, World.putObj_heap_same (Array.getElem?_eq_some_iff.1 e1).1, (World.putObj_heap_other (by omega)).trans (h3.same _ _ (Nat.le_refl _) hk2 rfl)⟩
    intro e a3 W3 hp
    have leave : ∀ (c : Code), KeepsFrom w.heap.size W2 W3 → Ix c (pre ++ [x]) W3 → ∃ v W4, (Instr.endRound (D + 1) (some c)).run P W3 = .ok v W4 ∧ (((Ending.returned v) = .returned (.bool true) ∧ (I (pre ++ [x]) W4 ∧ W4.heap[D + 1]? = some (.loop (rec0 .ready none)) ∧ W4.heap[D]? = some (.deferred (some []))) ∧ Kp (D + 1) W W4) ∨
        ((Ending.returned v) = .returned (.bool false) ∧ (∃ c, Ix c (pre ++ [x]) W4 ∧ W4.heap[D + 1]? = some (.loop (rec0 .done (some c))) ∧ W4.heap[D]? = some (.deferred (some []))) ∧ ∀ k ds, k ≠ D + 1 → w.heap.size ≤ k → W.heap[k]? = some (.deferred ds) → W4.heap[k]? = some (.deferred ds))) := fun c h3 h4 => by
      obtain ⟨g1, g2, g3, g4⟩ := fin (some c) W3 h3
      exact ⟨_, _, g1, .inr ⟨rfl, ⟨c, (hIx c).putObj _ h4 (Nat.le_succ _) g2 rfl, g3, g4⟩, fun k ds hk hw hd => (World.putObj_heap_other hk).trans (h3.same k _ hw ((World.putObj_heap_other hk).trans hd) rfl)⟩⟩
    cases e with
    | normal =>
      obtain ⟨g1, g2, g3, g4⟩ := fin none W3 hp.1
      exact ⟨_, _, g1, .inl ⟨rfl, ⟨hI.putObj _ hp.2.2 (Nat.le_succ _) g2 rfl, g3, g4⟩, hKt (hKt hKp hp.2.1) (hKb _ _ _ (Nat.lt_succ_self _))⟩⟩
    | ret => exact leave .ret hp.1 hp.2
    | exit i => exact leave (.exit i) hp.1 hp.2
    | goto t => exact leave (.goto t) hp.1 hp.2
    | panic c => exact hp.elim
    | outgrown => exact hp.elim
  · -- behind the iterator
    rintro e W2 ⟨⟨v, rfl⟩, (⟨xs, hS, hi, hl, hk⟩ | ⟨pre, hSp, c, hi, hl, hk⟩)⟩
    · exact ⟨none, _, run_endLoop (P := P) hl (by simp [rec0]), hdone _ xs _ (Nat.le_refl _) hS (hI.putObj _ hi (Nat.le_succ _) hl rfl) ((World.putObj_heap_other (by omega)).trans hk)⟩
    · exact ⟨some c, _, run_endLoop (P := P) hl (by simp [rec0]), hstop _ c pre _ (Nat.le_refl _) hSp ((hIx c).putObj _ hi (Nat.le_succ _) hl rfl) ((World.putObj_heap_other (by omega)).trans hk)⟩

def FIterV {α : Type} (val : α → Value) (P : Program) (gf : FuncId) (caps : List Nat) (hp0 : List (Nat × ABlk)) (xs : List α) : Prop :=
  (∀ (vs : Array Value) (w : World), (callFunc gf vs).run P w = .ok (.enter gf vs) w) ∧
  ∀ (R : Ren) (w : World) (n : Nat), R.ok → 1 ≤ n → HRel R hp0 w →
    SeqL n P gf (caps.map R.p0).toArray (fun x : { x : α // x ∈ xs } => val x.1) (fun l W W' => (∀ i b, lk hp0 i = some b → W'.heap[R.ρ i]? = W.heap[R.ρ i]?) ∧ (∀ k ds, k ≠ l → w.heap.size ≤ k → W.heap[k]? = some (.deferred ds) → W'.heap[k]? = some (.deferred ds)) ∧ W.heap.size ≤ W'.heap.size) (fun ys => ys.map Subtype.val = xs) (fun pre => pre.map Subtype.val <+: xs) xs.length w

def FIter (P : Program) (gf : FuncId) (caps : List Nat) (hp0 : List (Nat × ABlk)) (xs : List Int) : Prop := FIterV (Value.int .i64) P gf caps hp0 xs

def ABlk.isMap : ABlk → Bool
  | .mp _ => true
  | .mi _ => true
  | .si .. => true
  | .li _ => true
  | _ => false
def mpIn (hp : List (Nat × ABlk)) : List (Nat × ABlk) → Prop
  | [] => True
  | (i, b) :: r => match b.isMap with
    | true => (match lk hp i with | some c => c.isMap = true | _ => False) ∧ mpIn hp r
    | false => mpIn hp r
theorem mpIn_get {hp : List (Nat × ABlk)} : ∀ {l : List (Nat × ABlk)}, mpIn hp l → ∀ i b, lk l i = some b → b.isMap = true → ∃ c, lk hp i = some c
  | (j, b) :: r, h, i, m, hi, hm => by
    simp only [lk] at hi
    split at hi
    · rename_i e; subst e; injection hi with hi; subst hi
      have h1 : (match lk hp j with | some c => c.isMap = true | _ => False) := by
        simp only [mpIn, hm] at h; exact h.1
      cases hq : lk hp j with
      | some c => exact ⟨c, rfl⟩
      | none => rw [hq] at h1; exact h1.elim
    · refine mpIn_get ?_ i m hi hm
      simp only [mpIn] at h
      split at h
      · exact h.2
      · exact h

def keepOk (hp : List (Nat × ABlk)) : List (Nat × ABlk) → Prop
  | [] => True
  | (i, _) :: r => (match lk hp i with | some (.ro _) => True | _ => False) ∧ keepOk hp r
theorem keepOk_get {hp : List (Nat × ABlk)} : ∀ {l : List (Nat × ABlk)}, keepOk hp l → ∀ i b, lk l i = some b → ∃ cs, lk hp i = some (.ro cs)
  | (j, c) :: r, h, i, b, hi => by
    simp only [lk] at hi
    split at hi
    · rename_i e; subst e
      have h1 := h.1
      split at h1
      · rename_i cs hm; exact ⟨cs, hm⟩
      · exact h1.elim
    · exact keepOk_get h.2 i b hi
def givH (hp : List (Nat × ABlk)) : List (Nat × ABlk) → Prop
  | [] => True
  | (i, b) :: r => (match lk hp i with
    | some b' => (match b with
      | .ro cs => b'.cells = some cs
      | b => b' = b)
    | none => False) ∧ givH hp r
theorem givH_get {hp : List (Nat × ABlk)} : ∀ {l : List (Nat × ABlk)}, givH hp l → ∀ i b, lk l i = some b → ∃ b', lk hp i = some b' ∧ Gives b' b
  | (j, c) :: r, h, i, b, hb => by
    simp only [lk] at hb
    split at hb
    · rename_i e; subst e; injection hb with hb; subst hb
      have h2 := h.1
      cases hq : lk hp j with
      | none => rw [hq] at h2; exact h2.elim
      | some b' =>
        rw [hq] at h2
        refine ⟨b', rfl, ?_⟩
        cases c with
        | ro cs => exact .inr ⟨_, _, rfl, h2, .inl rfl⟩
        | own cs => exact .inl h2
        | row e z cs => exact .inl h2
        | mp m => exact .inl h2
        | mi I => exact .inl h2
        | si s p => exact .inl h2
        | li I => exact .inl h2
    · exact givH_get h.2 i b hb
theorem Gives.wr {b' b : ABlk} (h : Gives b' b) (hw : b.wr = true) : b'.wr = true := by rw [h.eq hw]; exact hw
theorem Gives.lt {b' b : ABlk} {n : Nat} (h : Gives b' b) (hl : b'.lt n) : b.lt n := by
  rcases h with e | ⟨cs, cs', e, hc, he⟩
  · exact e ▸ hl
  · subst e
    have h2 : LL n cs' := ABlk.lt_cells hl hc
    rcases he with rfl | rfl
    · exact h2
    · exact fun x hx => absurd hx List.not_mem_nil
theorem Fit.gives {E : Env} {R : Ren} {s : AS} {a : Act} {w : World} {hp' : List (Nat × ABlk)} (h : Fit E R s a w) (he : ∀ i b, lk hp' i = some b → ∃ b', lk s.hp i = some b' ∧ Gives b' b) : Fit E R { s with hp := hp' } a w where
  ok := h.ok
  nt := h.nt
  tm := h.tm
  hp := ⟨fun id b hb => by obtain ⟨b', h1, h2⟩ := he id b hb; exact h2.rel (h.hp.blk id b' h1), fun i j b c hi hj hne hw => by
    obtain ⟨b', h1, h2⟩ := he i b hi
    obtain ⟨c', h3, h4⟩ := he j c hj
    exact h.hp.inj i j b' c' h1 h3 hne (h2.wr hw), h.hp.zw, fun id b hb hw => by obtain ⟨b', h1, h2⟩ := he id b hb; exact h.hp.zn id b' h1 (h2.wr hw)⟩
  old := h.old
  wr := fun id b hb hw => by obtain ⟨b', h1, h2⟩ := he id b hb; exact h.wr id b' h1 (h2.wr hw)
  nx := fun id b hb => by obtain ⟨b', h1, h2⟩ := he id b hb; exact h.nx id b' h1
  nk := h.nk
  kk := h.kk
  fr := h.fr
  zg := h.zg
  df := h.df
  wf := ⟨h.wf.tm, fun i b hb => by obtain ⟨b', h1, h2⟩ := he i b hb; exact ⟨(h.wf.hp i b' h1).1, h2.lt (h.wf.hp i b' h1).2⟩⟩

structure RoundEnd (k : Nat) (hp hp' : List (Nat × ABlk)) (l : List (Nat × Nat)) : Prop where
  fix : ∀ p ∈ l, k ≤ p.1 ∧ p.1 < GB
  hp : hpAll hp (rn l) hp'
  inj : (hp'.map fun p => rn l p.1).Nodup

def RoundOk (k : Nat) (s : AS) (hp' : List (Nat × ABlk)) : Prop := ∃ l, RoundEnd k s.hp hp' l
theorem RoundOk.mk {k : Nat} {s : AS} {hp' : List (Nat × ABlk)} (l : List (Nat × Nat)) (h : RoundEnd k s.hp hp' l) : RoundOk k s hp' := ⟨l, h⟩
theorem RoundOk.nil {k : Nat} {s : AS} {hp' : List (Nat × ABlk)} (h : eqH s.hp hp') (hn : nodB (hp'.map Prod.fst) = true) : RoundOk k s hp' := ⟨[], (fun p hp => absurd hp (List.not_mem_nil)), eqH_all rn_nil h, nodB_sound hn⟩
theorem RoundOk.elim {k : Nat} {s : AS} {hp' : List (Nat × ABlk)} (h : RoundOk k s hp') : ∃ l, RoundEnd k s.hp hp' l := h
attribute [irreducible] RoundOk

def roundA {X : Type} (s0 : AS) (inv : X → Prop) (hp' : X → List (Nat × ABlk)) (pfx : Prop) (Q : Exit → AS → Prop) : Exit → AS → Prop
  | .normal, s => ∃ g, inv g ∧ RoundOk s0.nx s (hp' g)
  | .exit i, s => pfx → s.on fun _ hp nx _ _ => s0.on fun tm hp0 _ nt k0 => mpIn hp0 hp ∧ Q (.exit i) ⟨tm, hp, nx, nt, k0⟩
  | .ret, s => pfx → s.on fun _ hp nx _ _ => s0.on fun tm hp0 _ nt k0 => mpIn hp0 hp ∧ Q .ret ⟨tm, hp, nx, nt, k0⟩
  | _, _ => False

variable {P : Program} {T : Nat → Option TI} {md : Bool} {E : Env} {R R' R2 : Ren} {s s' : AS} {a a' : Act} {w w' : World} {n : Nat} {r : Option Nat}

theorem Fit.turned {row : Option Nat} (F : Fit E R s a w) (hg : w.grownBy w' row) (hr : ∀ k, row = some k → ∃ o : Obj, w.heap[k]? = some o ∧ o.isCells = false)
    (hm : ∀ i b, lk s.hp i = some b → b.isMap = true → some (R.ρ i) ≠ row) (hd : ∀ x ∈ a.defers, ∀ k, x.target = .collected k → some k ≠ row) (he : ∀ k, row = some k → E.W.heap.size ≤ k) : Fit E R s a w' where
  ok := F.ok
  nt := F.nt
  tm := F.tm
  hp := ⟨fun i c hc => by
    have hB := F.hp.blk i c hc
    refine hB.of_block (hg.block _ hB.lt ?_)
    intro e
    obtain ⟨o, ho, hcells⟩ := hr _ e.symm
    cases c with
    | ro cs => obtain ⟨c, t, z, h1, _⟩ := hB; rw [ho] at h1; injection h1 with h1; subst h1; cases hcells
    | own cs => obtain ⟨c, t, h1, _⟩ := hB; rw [ho] at h1; injection h1 with h1; subst h1; cases hcells
    | row e z cs => obtain ⟨c, h1, _⟩ := hB; rw [ho] at h1; injection h1 with h1; subst h1; cases hcells
    | mp m => exact hm i _ hc rfl e
    | mi I => exact hm i _ hc rfl e
    | si s p => exact hm i _ hc rfl e
    | li I => exact hm i _ hc rfl e, F.hp.inj, F.hp.zw.grown hg (fun {b} e => by
      cases hz : R.z b with
      | none => rfl
      | some c =>
        obtain ⟨t, v, h1⟩ := F.hp.zw b c hz
        obtain ⟨o, ho, hcells⟩ := hr b e.symm
        rw [ho] at h1; injection h1 with h1; subst h1; cases hcells), F.hp.zn⟩
  old := F.old
  wr := F.wr
  nx := F.nx
  nk := F.nk
  kk := F.kk
  fr := ⟨hg.os.trans F.fr.os, hg.tape.trans F.fr.tape, hg.output.trans F.fr.output, Nat.le_trans F.fr.size hg.size, fun k hk hn =>
    (hg.block k (Nat.lt_of_lt_of_le hk F.fr.size) (fun e => by have := he k e.symm; omega)).trans (F.fr.block k hk hn)⟩
  zg := F.zg
  df := by
    obtain ⟨ds, h1, hnd, h2⟩ := F.df
    refine ⟨ds, h1, hnd, fun d hd' => ⟨(h2 d hd').1, (hg.block d (Array.getElem?_eq_some_iff.1 (h2 d hd').2).1 ?_).trans (h2 d hd').2⟩⟩
    exact hd ⟨.collected d, #[]⟩ (by rw [h1]; exact List.mem_map.2 ⟨d, hd', rfl⟩) d rfl
  wf := F.wf

theorem Tr.rangeX {α X : Type} {val : α → Value} (abs : α → AV) (hval : ∀ x R, conV R (abs x) (val x)) (hvl : ∀ x n, (abs x).lt n) {f : Operand} {p d id0 : Nat} {ops : Array Oper} {body : Code} {Q : Exit → AS → Prop} {tm : List (Nat × AV)} {hp : List (Nat × ABlk)} {nx nt k0 : Nat} (hT : TOk P T) {gf : FuncId} {caps : List Nat} (hf : ev ⟨tm, hp, nx, nt, k0⟩ f = some (.c (.fn gf [] caps))) (xs : List α)
    (hp0 : List (Nat × ABlk)) (it : FIterV val P gf caps hp0 xs) (hit : givH hp hp0) (hro : allRo hp0 = true) (hs : List α → X → List (Nat × ABlk)) (inv : List α → X → Prop) (g0 : X) (N : Nat) (hN : nx ≤ N ∧ N ≤ GB) (hi0 : inv [] g0) (h0 : givH hp (hs [] g0)) (hlt : ∀ pre g, (∀ y ∈ pre, y ∈ xs) → inv pre g → hpLt N (hs pre g))
    (hmp : ∀ pre g, (∀ y ∈ pre, y ∈ xs) → inv pre g → mpIn hp (hs pre g) ∧ keepOk (hs pre g) hp0) (hfl : flatC body = true) {ty pos} (hops : ops = #[⟨some d, .assign (.tmp p), ty, pos, #[], none⟩]) (hpd : p < nt ∧ d < nt)
    (round : ∀ pre g x, (∀ y ∈ pre, y ∈ xs) → inv pre g → x ∈ xs → pre.length < xs.length → wpC P T md body ⟨(d, abs x) :: (p, abs x) :: tm, hs pre g, N, nt, nx⟩ (roundA ⟨tm, hp, nx, nt, k0⟩ (inv (pre ++ [x])) (hs (pre ++ [x])) (pre ++ [x] <+: xs) Q))
    (fin : ∀ g, inv xs g → Q .normal ⟨tm, hs xs g, N, nt, k0⟩) : Tr P (.rangeFunc f #[p] (.region id0 ops false) body) ⟨tm, hp, nx, nt, k0⟩ Q := Tr.intro fun E R a w n r F ht => by
  obtain ⟨rfl, hn⟩ : r = none ∧ 3 ≤ n := ht.elim id fun h => by simp [flatC] at h
  have hkn : E.k ≤ nx := F.nk.1
  have hmem : ∀ (pre : List { x : α // x ∈ xs }), ∀ y ∈ pre.map Subtype.val, y ∈ xs := fun pre y hy => by
    obtain ⟨z, _, rfl⟩ := List.mem_map.1 hy; exact z.2
  -- the iterator's value
  have hev : a.eval f = .func (.func gf) #[] (caps.map R.p0).toArray := by
    have := (ev_sound F hf).1
    simpa [conV, conC] using this
  have H0 : HRel R hp0 w := ⟨fun i b hb => by
      obtain ⟨b', h1, h2⟩ := givH_get hit i b hb
      exact h2.rel (F.hp.blk _ _ h1), (fun i j b c hi _ _ hw => by rw [allRo_sound hro i b hi] at hw; cases hw), F.hp.zw, fun i b hi hw => by rw [allRo_sound hro i b hi] at hw; cases hw⟩
  -- a mark lies ahead of the loop
  have hmark : ∀ x ∈ a.defers, ∀ k, x.target = .collected k → k < w.heap.size := by
    intro x hx k e
    obtain ⟨ds, k1, k2, k3⟩ := F.df
    rw [k1] at hx
    obtain ⟨d', hd', rfl⟩ := List.mem_map.1 hx
    injection e with e
    subst e
    exact (Array.getElem?_eq_some_iff.1 (k3 _ hd').2).1
  -- what a state behind the loop's head owes
  let G : World → AS → Prop := fun W S => ∃ R', Fit E R' S a W ∧ (∀ i, idOk nx i → R'.ρ i = R.ρ i ∧ R'.δ i = R.δ i ∧ R'.κ i = R.κ i) ∧ w.heap.size ≤ W.heap.size
  have own : ∀ S, mpIn hp S.hp → OwnFrom w.heap.size (fun (_ : Unit) W => G W S) := by
    intro S hm _ W W' row ⟨R', F', hag, hsz⟩ hg hr
    refine ⟨R', F'.turned hg (fun k e => (hr k e).2) (fun i m hi hm2 e => ?_) (fun x hx k e e2 => ?_) (fun k e => Nat.le_trans F.fr.size (hr k e).1), hag, Nat.le_trans hsz hg.size⟩
    · obtain ⟨m', hm'⟩ := mpIn_get hm i m hi hm2
      have h1 := (F.hp.blk i _ hm').lt
      rw [← (hag i (F.wf.hp i _ hm').1).1] at h1
      have := (hr _ e.symm).1; omega
    · have h1 := hmark x hx k e
      have := (hr _ e2.symm).1; omega
  let I : List { x : α // x ∈ xs } → World → Prop := fun pre W => ∃ g, inv (pre.map Subtype.val) g ∧ G W ⟨tm, hs (pre.map Subtype.val) g, N, nt, k0⟩
  let Ix : Code → List { x : α // x ∈ xs } → World → Prop := fun c pre W => pre.map Subtype.val <+: xs → (∃ i S, c = .exit i ∧ mpIn hp S.hp ∧ Q (.exit i) S ∧ G W S) ∨ (∃ S, c = .ret ∧ mpIn hp S.hp ∧ Q .ret S ∧ G W S)
  have F0 : Fit E R ⟨tm, hs [] g0, N, nt, k0⟩ a w := by
    have F1 : Fit E R ⟨tm, hp, N, nt, k0⟩ a w := F.ren (R' := R) (m := N) (Agree.refl _ _) F.ok hN.1 hN.2
    exact F1.gives (hp' := hs [] g0) (givH_get h0)
  -- with the mark
  have marked : ∀ (D : Nat) (S : AS) (W : World), w.heap.size ≤ D → W.heap[D]? = some (.deferred (some [])) → G W S → ∃ R', Fit E R' S { a with defers := { target := .collected D, args := #[] } :: a.defers } W := by
    rintro D S W hD hW ⟨R', F', hag, hsz⟩
    refine ⟨R', { F' with df := ?_ }⟩
    obtain ⟨ds, k1, k2, k3⟩ := F'.df
    refine ⟨D :: ds, by simp [k1], List.nodup_cons.2 ⟨fun hm => ?_, k2⟩, fun d' hd' => ?_⟩
    · have := hmark ⟨.collected D, #[]⟩ (by rw [k1]; exact List.mem_map.2 ⟨D, hm, rfl⟩) D rfl; omega
    · rcases List.mem_cons.1 hd' with e | hd'
      · subst e; exact ⟨.inr (Nat.le_trans F.fr.size hD), hW⟩
      · exact k3 d' hd'
  refine wpIn_rangeL (α := { x : α // x ∈ xs }) (by omega) hev it.1 (it.2 R w (n - 1) F.ok (by omega) H0) (fun h1 h2 => ⟨fun i b hb => (h2.1 i b hb).trans (h1.1 i b hb), fun k ds hk hw hd => h2.2.1 k ds hk hw (h1.2.1 k ds hk hw hd), Nat.le_trans h1.2.2 h2.2.2⟩) (fun l W o hl => ⟨fun i b hb => World.putObj_heap_other (by have := (H0.blk i b hb).lt; omega), fun k ds hk _ hd => (World.putObj_heap_other hk).trans hd, by rw [World.putObj_size]; exact Nat.le_refl _⟩) I Ix ?_ ?_ ⟨g0, hi0, R, F0, fun i _ => ⟨rfl, rfl, rfl⟩, Nat.le_refl _⟩
    (fun x => { tmps := (a.tmps.setIfInBounds p (val x.1)).setIfInBounds d (val x.1), defers := [] }) ?_ ?_ ?_ ?_
  · rintro pre W W' row ⟨g, hinv, hI⟩ hg hr
    exact ⟨g, hinv, own _ (hmp _ g (hmem pre) hinv).1 () W W' row hI hg hr⟩
  · intro c pre W W' row hI hg hr hpre
    rcases hI hpre with ⟨i, S, h1, h2, h4, h5⟩ | ⟨S, h1, h2, h4, h5⟩
    · exact .inl ⟨i, S, h1, h2, h4, own _ h2 () W W' row h5 hg hr⟩
    · exact .inr ⟨S, h1, h2, h4, own _ h2 () W W' row h5 hg hr⟩
  · -- the variable is set
    intro l x W K hK
    refine wpIn_region ?_
    subst hops
    have hpn : p < a.tmps.size := by rw [F.nt]; exact hpd.1
    show wpOpsIn _ _ P _ _ [0] _ W
    simp only [wpOpsIn]
    simp [Region.wanted, Oper.wpIn, Oper.semAt, Oper.about, execOp, Oper.uponIn, Act.eval, Act.put, Exit.then, hpn]
    exact hK
  · -- a round
    rintro l pre x W hlw ⟨g, hinv, R', F', hag, hsz⟩ hlen
    obtain ⟨E', hE'⟩ : ∃ E' : Env, E' = ⟨W, R', nx, locM R' (hs (pre.map Subtype.val) g) { tmps := #[], defers := [] }⟩ := ⟨_, rfl⟩
    have htm0 : ∀ t v, lk tm t = some v → v.lt nx := F.wf.tm
    have Fa : Fit E' R' ⟨(d, abs x.1) :: (p, abs x.1) :: tm, hs (pre.map Subtype.val) g, N, nt, nx⟩ { tmps := (a.tmps.setIfInBounds p (val x.1)).setIfInBounds d (val x.1), defers := [] } W := by
      have base : Fit E' R' ⟨tm, hs (pre.map Subtype.val) g, N, nt, nx⟩ { tmps := a.tmps, defers := [] } W := by
        subst hE'
        exact {
          ok := F'.ok
          nt := F'.nt
          tm := F'.tm
          hp := F'.hp
          old := fun _ _ => ⟨rfl, rfl, rfl⟩
          wr := fun i c hc hw => .inl (.inl ⟨i, c, hc, hw, rfl⟩)
          nx := F'.nx
          nk := ⟨hN.1, hN.2⟩
          kk := rfl
          fr := Fr.refl _ _
          zg := ⟨Zle.refl _, fun _ hb => .inl hb⟩
          df := ⟨[], rfl, List.nodup_nil, fun d hd => (List.not_mem_nil hd).elim⟩
          wf := ⟨F'.wf.tm, F'.wf.hp⟩ }
      have s1 := base.put (d := p) (v := abs x.1) (u := val x.1) hpd.1 (hval _ _) (hvl _ _)
      exact s1.put (d := d) (v := abs x.1) (u := val x.1) hpd.2 (hval _ _) (hvl _ _)
    have key := (wpC_sound hT body _ _ (round (pre.map Subtype.val) g x.1 (hmem pre) hinv x.2 (by simpa using hlen))).elim (n := n - 1 - 1) (r := some l) Fa (.inr hfl)
    refine wpIn_mono key ?_
    rintro e a' W' ⟨R2, s', hq, F2⟩
    -- the frame
    have hfr : Fr E'.M W W' := by have := F2.fr; rw [hE'] at this ⊢; exact this
    have hM : ∀ j, E'.M j → ∃ i c, lk (hs (pre.map Subtype.val) g) i = some c ∧ c.wr = true ∧ R'.ρ i = j := by
      intro j hj
      rw [hE'] at hj
      rcases hj with h | ⟨x, hx, _⟩
      · exact h
      · cases hx
    have hsz2 : W.heap.size ≤ W'.heap.size := hfr.size
    have keeps : KeepsFrom w.heap.size W W' := ⟨hsz2, fun k o hk ho hc => by
      refine (hfr.block k (Array.getElem?_eq_some_iff.1 ho).1 ?_).trans ho
      intro hm
      obtain ⟨i, c, h1, h2, h3⟩ := hM k hm
      have hB := F'.hp.blk i c h1
      subst h3
      cases c with
      | ro cs => cases h2
      | own cs => obtain ⟨c, t, h4, _⟩ := hB; rw [ho] at h4; injection h4 with h4; subst h4; cases hc
      | row e z cs => obtain ⟨c, h4, _⟩ := hB; rw [ho] at h4; injection h4 with h4; subst h4; cases hc
      | mp m =>
        obtain ⟨m', hm'⟩ := mpIn_get (hmp _ g (hmem pre) hinv).1 i _ h1 rfl
        have h5 := (F.hp.blk i _ hm').lt
        rw [← (hag i (F.wf.hp i _ hm').1).1] at h5
        omega
      | mi I =>
        obtain ⟨m', hm'⟩ := mpIn_get (hmp _ g (hmem pre) hinv).1 i _ h1 rfl
        have h5 := (F.hp.blk i _ hm').lt
        rw [← (hag i (F.wf.hp i _ hm').1).1] at h5
        omega
      | si s p =>
        obtain ⟨m', hm'⟩ := mpIn_get (hmp _ g (hmem pre) hinv).1 i _ h1 rfl
        have h5 := (F.hp.blk i _ hm').lt
        rw [← (hag i (F.wf.hp i _ hm').1).1] at h5
        omega
      | li I =>
        obtain ⟨m', hm'⟩ := mpIn_get (hmp _ g (hmem pre) hinv).1 i _ h1 rfl
        have h5 := (F.hp.blk i _ hm').lt
        rw [← (hag i (F.wf.hp i _ hm').1).1] at h5
        omega⟩
    -- what holds of the entry's state with any memory that the round has left
    have hold : ∀ i, i < nx → R2.ρ i = R'.ρ i ∧ R2.δ i = R'.δ i ∧ R2.κ i = R'.κ i := by
      intro i hi
      have := F2.old i (by rw [hE']; exact hi)
      rw [hE'] at this; exact this
    have hzm : Zle R'.z R2.z := by have := F2.zg.1; rw [hE'] at this; exact this
    have hz2 : ∀ q, R2.z q ≠ none → R'.z q ≠ none ∨ E'.M q ∨ W.heap.size ≤ q := by have := F2.zg.2; rw [hE'] at this ⊢; exact this
    have hz3 : Zle E.R.z R2.z ∧ ∀ q, R2.z q ≠ none → E.R.z q ≠ none ∨ E.M q ∨ E.W.heap.size ≤ q := ⟨F'.zg.1.trans hzm, fun q hq => by
      rcases hz2 q hq with h | h | h
      · exact F'.zg.2 q h
      · obtain ⟨i0, c0, h1, h2, h3⟩ := hM _ h
        rw [← h3]; exact .inr (F'.wr i0 c0 h1 h2)
      · exact .inr (.inr (Nat.le_trans (Nat.le_trans F.fr.size hsz) h))⟩
    have back : ∀ (l' : List (Nat × Nat)) (hp' : List (Nat × ABlk)) (N' : Nat), (∀ q ∈ l', nx ≤ q.1 ∧ q.1 < GB) → hpAll s'.hp (rn l') hp' → (hp'.map fun q => rn l' q.1).Nodup → hpLt N' hp' → nx ≤ N' ∧ N' ≤ GB → G W' ⟨tm, hp', N', nt, k0⟩ := by
      intro l' hp' N' hl' hall hnd hlt' hN'
      have rnlow : ∀ i, i < nx → rn l' i = i := fun i hi => by
        unfold rn; rw [lk_none_lt fun q hq => by have := (hl' q hq).1; omega]; rfl
      have rnG : ∀ i, rn l' (GB + i) = GB + i := fun i => by
        unfold rn; rw [lk_none_lt fun q hq => by have := (hl' q hq).2; omega]; rfl
      have ok3 : (R2.comp (rn l')).ok := ⟨fun i => by simp [Ren.comp, rnG, F2.ok.g], fun i => by simp [Ren.comp, rnG, F2.ok.d], fun i => by simp [Ren.comp, rnG, F2.ok.c]⟩
      have ag3 : ∀ i, idOk nx i → (R2.comp (rn l')).ρ i = R'.ρ i ∧ (R2.comp (rn l')).δ i = R'.δ i ∧ (R2.comp (rn l')).κ i = R'.κ i := by
        intro i hi
        rcases hi with hi | hi
        · simp only [Ren.comp, rnlow i hi]; exact hold i hi
        · obtain ⟨j, rfl⟩ := Nat.exists_eq_add_of_le hi
          simp only [Ren.comp, rnG, F2.ok.g, F2.ok.d, F2.ok.c, F'.ok.g, F'.ok.d, F'.ok.c, and_self]
      refine ⟨R2.comp (rn l'), {
        ok := ok3
        nt := F'.nt
        tm := fun t v h => by
          obtain ⟨u, hu, hc⟩ := F'.tm t v h
          exact ⟨u, hu, hc.agree ⟨ag3, hzm⟩ (htm0 t v h)⟩
        hp := ⟨fun i b hb => BRel_ren.1 (F2.hp.blk _ _ (hpAll_get hall hb)), fun i j b c hi hj hne hw =>
          F2.hp.inj _ _ _ _ (hpAll_get hall hi) (hpAll_get hall hj) (nodup_inj hnd hi hj hne) (by rw [ABlk.ren_wr]; exact hw), F2.hp.zw, fun i b hb hw => F2.hp.zn _ _ (hpAll_get hall hb) (by rw [ABlk.ren_wr]; exact hw)⟩
        old := fun i hi => by
          obtain ⟨x1, x2, x3⟩ := ag3 i (.inl (Nat.lt_of_lt_of_le hi hkn))
          obtain ⟨y1, y2, y3⟩ := F'.old i hi
          exact ⟨x1.trans y1, x2.trans y2, x3.trans y3⟩
        wr := fun i b hb hw => by
          have := F2.wr _ _ (hpAll_get hall hb) (by rw [ABlk.ren_wr]; exact hw)
          rcases this with h | h
          · obtain ⟨i0, c0, h1, h2, h3⟩ := hM _ h
            show E.M (R2.ρ (rn l' i)) ∨ E.W.heap.size ≤ R2.ρ (rn l' i)
            rw [← h3]; exact F'.wr i0 c0 h1 h2
          · rw [hE'] at h; exact .inr (Nat.le_trans (Nat.le_trans F.fr.size hsz) h)
        nx := fun i b hb => (hpLt_get hlt' hb).1
        nk := ⟨Nat.le_trans hkn hN'.1, hN'.2⟩
        kk := F.kk
        fr := F'.fr.trans hfr (fun j hj => by obtain ⟨i0, c0, h1, h2, h3⟩ := hM j hj; rw [← h3]; exact F'.wr i0 c0 h1 h2)
        zg := hz3
        df := by
          obtain ⟨ds, k1, k2, k3⟩ := F'.df
          refine ⟨ds, k1, k2, fun d' hd' => ⟨(k3 d' hd').1, (hfr.block d' (Array.getElem?_eq_some_iff.1 (k3 d' hd').2).1 ?_).trans (k3 d' hd').2⟩⟩
          intro hm
          obtain ⟨i0, c0, h1, h2, h3⟩ := hM _ hm
          exact (F'.hp.blk i0 c0 h1).not_deferred _ (h3 ▸ (k3 d' hd').2)
        wf := ⟨fun t v h => (htm0 t v h).mono hN'.1, fun i b hb => hpLt_get hlt' hb⟩ }, ?_, Nat.le_trans hsz hsz2⟩
      intro i hi
      obtain ⟨x1, x2, x3⟩ := ag3 i hi
      obtain ⟨y1, y2, y3⟩ := hag i hi
      exact ⟨x1.trans y1, x2.trans y2, x3.trans y3⟩
    -- the memory as the round has left it, without other numbers
    have backId : G W' ⟨tm, s'.hp, s'.nx, nt, k0⟩ := by
      refine ⟨R2, {
        ok := F2.ok
        nt := F'.nt
        tm := fun t v h => by
          obtain ⟨u, hu, hc⟩ := F'.tm t v h
          refine ⟨u, hu, hc.agree ⟨fun i hi => ?_, hzm⟩ (htm0 t v h)⟩
          rcases hi with hi | hi
          · exact hold i hi
          · obtain ⟨j, rfl⟩ := Nat.exists_eq_add_of_le hi
            simp only [F2.ok.g, F2.ok.d, F2.ok.c, F'.ok.g, F'.ok.d, F'.ok.c, and_self]
        hp := F2.hp
        old := fun i hi => by
          obtain ⟨x1, x2, x3⟩ := hold i (Nat.lt_of_lt_of_le hi hkn)
          obtain ⟨y1, y2, y3⟩ := F'.old i hi
          exact ⟨x1.trans y1, x2.trans y2, x3.trans y3⟩
        wr := fun i b hb hw => by
          rcases F2.wr i b hb hw with h | h
          · obtain ⟨i0, c0, h1, h2, h3⟩ := hM _ h
            rw [← h3]; exact F'.wr i0 c0 h1 h2
          · rw [hE'] at h; exact .inr (Nat.le_trans (Nat.le_trans F.fr.size hsz) h)
        nx := F2.nx
        nk := ⟨by have := F2.nk.1; rw [hE'] at this; exact Nat.le_trans hkn this, F2.nk.2⟩
        kk := F.kk
        fr := F'.fr.trans hfr (fun j hj => by obtain ⟨i0, c0, h1, h2, h3⟩ := hM j hj; rw [← h3]; exact F'.wr i0 c0 h1 h2)
        zg := hz3
        df := by
          obtain ⟨ds, k1, k2, k3⟩ := F'.df
          refine ⟨ds, k1, k2, fun d' hd' => ⟨(k3 d' hd').1, (hfr.block d' (Array.getElem?_eq_some_iff.1 (k3 d' hd').2).1 ?_).trans (k3 d' hd').2⟩⟩
          intro hm
          obtain ⟨i0, c0, h1, h2, h3⟩ := hM _ hm
          exact (F'.hp.blk i0 c0 h1).not_deferred _ (h3 ▸ (k3 d' hd').2)
        wf := ⟨fun t v h => (htm0 t v h).mono (by have := F2.nk.1; rw [hE'] at this; exact this), F2.wf.hp⟩ }, ?_, Nat.le_trans hsz hsz2⟩
      intro i hi
      obtain ⟨y1, y2, y3⟩ := hag i hi
      rcases hi with hi | hi
      · obtain ⟨x1, x2, x3⟩ := hold i hi
        exact ⟨x1.trans y1, x2.trans y2, x3.trans y3⟩
      · obtain ⟨j, rfl⟩ := Nat.exists_eq_add_of_le hi
        simp only [F2.ok.g, F2.ok.d, F2.ok.c, F.ok.g, F.ok.d, F.ok.c, and_self]
    have hmap : (pre ++ [x]).map Subtype.val = pre.map Subtype.val ++ [x.1] := by simp
    cases e with
    | normal =>
      obtain ⟨g', hinv', hq⟩ := hq
      obtain ⟨l', hre⟩ := RoundOk.elim hq
      refine ⟨keeps, ⟨?_, fun k ds _ hw hd => keeps.same k _ hw hd rfl, hsz2⟩, ?_⟩
      · intro i b hb
        obtain ⟨cs, hcs⟩ := keepOk_get (hmp _ g (hmem pre) hinv).2 i b hb
        obtain ⟨b', h1, _⟩ := givH_get hit i b hb
        have hρ := (hag i (F.wf.hp i _ h1).1).1
        rw [← hρ]
        refine hfr.block _ (F'.hp.blk i _ hcs).lt ?_
        intro hm
        obtain ⟨j, c, h2, h3, h4⟩ := hM _ hm
        refine F'.hp.inj j i c _ h2 hcs ?_ h3 h4
        intro e; subst e
        rw [show lk (hs (pre.map Subtype.val) g) j = some (.ro cs) from hcs] at h2
        injection h2 with h2; subst h2; cases h3
      show ∃ g, inv ((pre ++ [x]).map Subtype.val) g ∧ G W' ⟨tm, hs ((pre ++ [x]).map Subtype.val) g, N, nt, k0⟩
      have := hlt _ g' (hmem (pre ++ [x]))
      rw [hmap] at this ⊢
      exact ⟨g', hinv', back l' _ N hre.fix hre.hp hre.inj (this hinv') hN⟩
    | exit i =>
      refine ⟨keeps, fun hpre => .inl ?_⟩
      rw [hmap] at hpre
      obtain ⟨h1, h2⟩ := hq hpre
      exact ⟨i, ⟨tm, s'.hp, s'.nx, nt, k0⟩, rfl, h1, h2, backId⟩
    | ret =>
      refine ⟨keeps, fun hpre => .inr ?_⟩
      rw [hmap] at hpre
      obtain ⟨h1, h2⟩ := hq hpre
      exact ⟨⟨tm, s'.hp, s'.nx, nt, k0⟩, rfl, h1, h2, backId⟩
    | goto t => exact hq.elim
    | panic c => exact hq.elim
    | outgrown => exact hq.elim
  · intro D ys W hD hys hI hW
    obtain ⟨g, hinv, hI⟩ := hI
    obtain ⟨R', F'⟩ := marked D _ W hD hW hI
    have hys : ys.map Subtype.val = xs := hys
    rw [hys] at F' hinv
    exact ⟨R', _, fin g hinv, F'⟩
  · intro D c pre W hD hpre hI hW
    rcases hI hpre with ⟨i, S, rfl, h2, h4, h5⟩ | ⟨S, rfl, h2, h4, h5⟩
    · obtain ⟨R', F'⟩ := marked D S W hD hW h5
      exact wpIn_exit ⟨R', S, h4, F'⟩
    · obtain ⟨R', F'⟩ := marked D S W hD hW h5
      exact wpIn_ret ⟨R', S, h4, F'⟩
#print axioms Tr.rangeX
theorem Tr.range {f : Operand} {p d id0 : Nat} {ops : Array Oper} {body : Code} {Q : Exit → AS → Prop} {tm : List (Nat × AV)} {hp : List (Nat × ABlk)} {nx nt k0 : Nat} (hT : TOk P T) {gf : FuncId} {caps : List Nat} (hf : ev ⟨tm, hp, nx, nt, k0⟩ f = some (.c (.fn gf [] caps))) (xs : List Int)
    (hp0 : List (Nat × ABlk)) (it : FIter P gf caps hp0 xs) (hit : givH hp hp0) (hro : allRo hp0 = true) (hs : List Int → List (Nat × ABlk)) (inv : List Int → Prop) (N : Nat) (hN : nx ≤ N ∧ N ≤ GB) (hi0 : inv []) (h0 : givH hp (hs [])) (hlt : ∀ pre, (∀ y ∈ pre, y ∈ xs) → hpLt N (hs pre))
    (hmp : ∀ pre, (∀ y ∈ pre, y ∈ xs) → mpIn hp (hs pre) ∧ keepOk (hs pre) hp0) (hfl : flatC body = true) {ty pos} (hops : ops = #[⟨some d, .assign (.tmp p), ty, pos, #[], none⟩]) (hpd : p < nt ∧ d < nt)
    (round : ∀ pre x, (∀ y ∈ pre, y ∈ xs) → inv pre → x ∈ xs → pre.length < xs.length → wpC P T md body ⟨(d, .c (.int .i64 x)) :: (p, .c (.int .i64 x)) :: tm, hs pre, N, nt, nx⟩ (roundA (X := Unit) ⟨tm, hp, nx, nt, k0⟩ (fun _ => inv (pre ++ [x])) (fun _ => hs (pre ++ [x])) (pre ++ [x] <+: xs) Q))
    (fin : inv xs → Q .normal ⟨tm, hs xs, N, nt, k0⟩) : Tr P (.rangeFunc f #[p] (.region id0 ops false) body) ⟨tm, hp, nx, nt, k0⟩ Q :=
  Tr.rangeX (X := Unit) (fun x => .c (.int .i64 x)) (fun _ _ => rfl) (fun _ _ => trivial) hT hf xs hp0 it hit hro (fun p _ => hs p) (fun p _ => inv p) () N hN hi0 h0 (fun pre _ h _ => hlt pre h) (fun pre _ h _ => hmp pre h) hfl hops hpd (fun pre _ x h1 h2 h3 h4 => round pre x h1 h2 h3 h4) (fun _ h => fin h)
end Go.AH
