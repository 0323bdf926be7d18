/-
  What an operation yields is one thing.
-/
import Derived.Test.YtfphkpdobbffeaaDoorAh13
set_option linter.unusedSimpArgs false
set_option linter.unusedVariables false
namespace Go.AH
open Go.RowKit

def DetC {α : Type} (f : (α → Prop) → Prop) : Prop := ∀ k, f k → ∃ x, k x ∧ ∀ k' : α → Prop, k' x → f k'
/-- The state stays. -/
def PureC (s : AS) (f : (AV → AS → Prop) → Prop) : Prop := ∀ k, f k → ∃ v, k v s ∧ ∀ k' : AV → AS → Prop, k' v s → f k'
/-- One block is new. -/
def NewC (s : AS) (f : (AV → AS → Prop) → Prop) : Prop := ∀ k, f k → ∃ v c, k v ⟨s.tm, (s.nx, c) :: s.hp, s.nx + 1, s.nt, s.k0⟩ ∧ c.wr = true ∧ ∀ k' : AV → AS → Prop, k' v ⟨s.tm, (s.nx, c) :: s.hp, s.nx + 1, s.nt, s.k0⟩ → f k'

variable {T : Nat → Option TI} {md : Bool} {s : AS}

theorem DetC.pure {α : Type} (x : α) : DetC (fun k => k x) := fun k h => ⟨x, h, fun _ h => h⟩
theorem DetC.none {α : Type} : DetC (fun _ : α → Prop => False) := fun k h => h.elim
theorem DetC.and {α : Type} {c : Prop} {f : (α → Prop) → Prop} (hf : DetC f) : DetC (fun k => c ∧ f k) := fun k ⟨hc, h⟩ => by
  obtain ⟨x, h1, h2⟩ := hf k h; exact ⟨x, h1, fun k' h' => ⟨hc, h2 k' h'⟩⟩
theorem DetC.lit {α : Type} {b : Bool} {f : (α → Prop) → Prop} (hf : DetC f) : DetC (fun k => lit b (f k)) := by
  cases b
  · exact DetC.none
  · exact hf
theorem DetC.bind {α β : Type} {f : (α → Prop) → Prop} {g : α → (β → Prop) → Prop} (hf : DetC f) (hg : ∀ x, DetC (g x)) : DetC (fun k => f (fun x => g x k)) := fun k h => by
  obtain ⟨x, h1, h2⟩ := hf _ h
  obtain ⟨y, h3, h4⟩ := hg x _ h1
  exact ⟨y, h3, fun k' h' => h2 _ (h4 _ h')⟩
theorem DetC.ite {α : Type} {c : Prop} [Decidable c] {f g : (α → Prop) → Prop} (hf : DetC f) (hg : DetC g) : DetC (fun k => if c then f k else g k) := by
  split
  · exact hf
  · exact hg
theorem PureC.pure (v : AV) : PureC s (fun k => k v s) := fun k h => ⟨v, h, fun _ h => h⟩
theorem PureC.none : PureC s (fun _ => False) := fun k h => h.elim
theorem PureC.and {c : Prop} {f : (AV → AS → Prop) → Prop} (hf : PureC s f) : PureC s (fun k => c ∧ f k) := fun k ⟨hc, h⟩ => by
  obtain ⟨x, h1, h2⟩ := hf k h; exact ⟨x, h1, fun k' h' => ⟨hc, h2 k' h'⟩⟩
theorem PureC.bind {α : Type} {f : (α → Prop) → Prop} {g : α → (AV → AS → Prop) → Prop} (hf : DetC f) (hg : ∀ x, PureC s (g x)) : PureC s (fun k => f (fun x => g x k)) := fun k h => by
  obtain ⟨x, h1, h2⟩ := hf _ h
  obtain ⟨y, h3, h4⟩ := hg x _ h1
  exact ⟨y, h3, fun k' h' => h2 _ (h4 _ h')⟩
theorem PureC.ite {c : Prop} [Decidable c] {f g : (AV → AS → Prop) → Prop} (hf : PureC s f) (hg : PureC s g) : PureC s (fun k => if c then f k else g k) := by
  split
  · exact hf
  · exact hg
theorem PureC.lit {b : Bool} {f : (AV → AS → Prop) → Prop} (hf : PureC s f) : PureC s (fun k => lit b (f k)) := by
  cases b
  · exact PureC.none
  · exact hf
theorem NewC.bind {α : Type} {f : (α → Prop) → Prop} {g : α → (AV → AS → Prop) → Prop} (hf : DetC f) (hg : ∀ x, NewC s (g x)) : NewC s (fun k => f (fun x => g x k)) := fun k h => by
  obtain ⟨x, h1, h2⟩ := hf _ h
  obtain ⟨y, c, h3, hw, h4⟩ := hg x _ h1
  exact ⟨y, c, h3, hw, fun k' h' => h2 _ (h4 _ h')⟩
theorem NewC.none : NewC s (fun _ => False) := fun k h => h.elim
theorem NewC.and {c : Prop} {f : (AV → AS → Prop) → Prop} (hf : NewC s f) : NewC s (fun k => c ∧ f k) := fun k ⟨hc, h⟩ => by
  obtain ⟨x, b, h1, hw, h2⟩ := hf k h; exact ⟨x, b, h1, hw, fun k' h' => ⟨hc, h2 k' h'⟩⟩
theorem NewC.lit {b : Bool} {f : (AV → AS → Prop) → Prop} (hf : NewC s f) : NewC s (fun k => lit b (f k)) := by
  cases b
  · exact NewC.none
  · exact hf
theorem NewC.pure (v : AV) (c : ABlk) (hw : c.wr = true) : NewC s (fun k => k v ⟨s.tm, (s.nx, c) :: s.hp, s.nx + 1, s.nt, s.k0⟩) := fun k h => ⟨v, c, h, hw, fun _ h => h⟩

theorem onV_det (s : AS) (x : Operand) : DetC (onV s x) := by
  unfold onV
  cases ev s x with
  | none => exact DetC.none
  | some v => exact DetC.pure v
theorem onC_det (s : AS) (x : Operand) : DetC (onC s x) := by
  unfold onC
  rcases ev s x with _ | ⟨v | _ | _⟩
  · exact DetC.none
  · exact DetC.pure v
  · exact DetC.none
  · exact DetC.none
theorem onCells_det (s : AS) (id : Nat) : DetC (fun k : ABlk × List AC → Prop => onCells s id fun b cs => k (b, cs)) := by
  unfold onCells
  rcases lk s.hp id with _ | ⟨c | c | ⟨e, z, c⟩ | m | m⟩
  · exact DetC.none
  · exact DetC.pure _
  · exact DetC.pure _
  · exact DetC.pure _
  · exact DetC.none
  · exact DetC.none
theorem PureC.bindCells {id : Nat} {g : ABlk → List AC → (AV → AS → Prop) → Prop} (hg : ∀ b cs, PureC s (g b cs)) : PureC s (fun k => onCells s id fun b cs => g b cs k) := fun k h => by
  obtain ⟨x, h1, h2⟩ := onCells_det s id (fun bc => g bc.1 bc.2 k) h
  obtain ⟨y, h3, h4⟩ := hg x.1 x.2 _ h1
  exact ⟨y, h3, fun k' h' => h2 (fun bc => g bc.1 bc.2 k') (h4 _ h')⟩
theorem onO_det (s : AS) (x : Option Operand) : DetC (stepA.onO s x) := by
  unfold stepA.onO
  cases x with
  | none => exact DetC.pure _
  | some x =>
    refine DetC.bind (onC_det s x) fun p => ?_
    cases p <;> first | exact DetC.pure _ | exact DetC.none
theorem fnOps_det (s : AS) : ∀ l : List Operand, DetC (stepA.fnOps s l)
  | [] => DetC.pure _
  | x :: r => by
    show DetC (fun k => onC s x fun p => match p with
      | .ptr id 0 => stepA.fnOps s r fun l => k (id :: l)
      | _ => False)
    refine DetC.bind (onC_det s x) fun p => ?_
    cases p with
    | ptr id o => cases o with
      | zero => exact DetC.bind (fnOps_det s r) fun l => DetC.pure _
      | succ o => exact DetC.none
    | _ => exact DetC.none
theorem iop_det (md : Bool) (op : BinOp) (kd : IntKind) (a b : Int) : DetC (iop md op kd a b) := by
  cases md <;> cases op <;> first | exact DetC.none | exact DetC.pure _ | exact DetC.and (DetC.pure _) | (cases kd <;> first | exact DetC.none | exact DetC.pure _ | exact DetC.and (DetC.pure _))
theorem icmp_det (op : BinOp) (a b : Int) : DetC (icmp op a b) := by
  cases op <;> first | exact DetC.none | exact DetC.pure _
theorem lay_det (s : AS) (place : Nat → Option (Nat × Nat)) : ∀ (l : List (Nat × Operand)) (cs : List AC), DetC (fun k => lay s place k l cs)
  | [], cs => by unfold lay; exact DetC.pure _
  | (i, x) :: r, cs => by
    unfold lay
    cases place i with
    | none => exact DetC.none
    | some p =>
      obtain ⟨o, z⟩ := p
      refine DetC.bind (f := onV s x) (g := fun v k => match v with
        | .c c => (z = 1 ∧ o + 1 ≤ cs.length) ∧ lay s place k r (cs.set o c)
        | .g gs => (gs.length = z ∧ o + z ≤ cs.length) ∧ lay s place k r (wrn cs o gs)
        | .t _ => False) (onV_det s x) fun v => ?_
      cases v with
      | c c => exact DetC.and (lay_det s place r _)
      | g gs => exact DetC.and (lay_det s place r _)
      | t _ => exact DetC.none
theorem bin_det (T : Nat → Option TI) (md : Bool) (op : BinOp) (t : Nat) (x y : AV) : DetC (bin T md op t x y) := by
  have c1 : ∀ (f : (AV → Prop) → Prop) (n : AV → AV), True := fun _ _ => trivial
  unfold bin
  rcases x with x | x | x <;> rcases y with y | y | y <;> (try exact DetC.none) <;> (try (cases x <;> exact DetC.none))
  · cases x <;> cases y <;> try exact DetC.none
    · rename_i ka a kb b
      refine DetC.ite (DetC.lit ?_) (DetC.lit ?_)
      · exact DetC.bind (iop_det md op ka a b) fun n => DetC.pure _
      · exact DetC.bind (icmp_det op a b) fun n => DetC.pure _
    · refine DetC.lit ?_
      cases op <;> first | exact DetC.none | exact DetC.pure _
    · cases op <;> first | exact DetC.none | exact DetC.pure _ | exact DetC.and (DetC.pure _)
  · refine DetC.and ?_
    cases eqL x y with
    | none => exact DetC.none
    | some r => cases op <;> first | exact DetC.none | exact DetC.pure _
theorem subS_det (o len : Nat) (cap : Option Nat) (z : Nat) (lo hi : Option Int) : DetC (fun k : Nat × Nat × Option Nat → Prop => stepA.subS o len cap z lo hi fun a b c => k (a, b, c)) := by
  unfold stepA.subS
  exact DetC.and (DetC.pure _)

def pureOp : Op → Bool
  | .move _ | .assign _ | .pick .. | .build .. | .load .. | .nilCheck _ | .binOp .. | .unOp .. | .convert .. | .makeFunc .. | .fieldAddr .. | .indexAddr .. | .index .. | .field .. | .extract .. | .slice .. | .lookup .. => true
  | .call c => match c.callee with
    | .builtin .len | .builtin .min | .builtin .max => true
    | _ => false
  | _ => false
def newOp : Op → Bool
  | .alloc _ | .box .. | .makeMap .. | .buildSlice .. => true
  | _ => false

theorem pure_det (o : Op) (ho : pureOp o = true) : PureC s (stepA T md s o) := by
  cases o <;> simp only [pureOp] at ho <;> try (cases ho; done)
  case move x => exact PureC.bind (onV_det s x) fun v => PureC.pure v
  case assign x => exact PureC.bind (onV_det s x) fun v => PureC.pure v
  case pick c a b =>
    refine PureC.bind (onC_det s c) fun q => ?_
    cases q <;> try exact PureC.none
    rename_i q
    refine PureC.bind (onV_det s a) fun va => PureC.bind (onV_det s b) fun vb => ?_
    have two : PureC s (fun k => (q = true → k va s) ∧ (q = false → k vb s)) := by
      cases q
      · intro k h; exact ⟨vb, h.2 rfl, fun k' h' => ⟨fun e => (by cases e), fun _ => h'⟩⟩
      · intro k h; exact ⟨va, h.1 rfl, fun k' h' => ⟨fun _ => h', fun e => (by cases e)⟩⟩
    rcases va with va | va | va
    · cases va <;> try exact two
      rcases vb with vb | vb | vb
      · cases vb <;> first | exact PureC.pure _ | exact two
      · exact two
      · exact two
    · exact two
    · exact two
  case build t ps =>
    show PureC s (fun k => match T t with
    | some { d := .struct fs, zero := z, .. } => lay s (fun i => match fs[i]? with | some (o, ft) => (szOf T ft).map fun z => (o, z) | none => none) (fun cs => k (.g cs) s) ps.toList z
    | some { d := .arr _ e, zero := z, .. } => match szOf T e with
      | some w => lay s (fun i => some (i * w, w)) (fun cs => k (.g cs) s) ps.toList z
      | none => False
    | _ => False)
    rcases T t with _ | ⟨d, a1, a2, z, a4⟩
    · exact PureC.none
    cases d <;> try exact PureC.none
    · rename_i n e
      simp only
      cases szOf T e with
      | none => exact PureC.none
      | some w => exact PureC.bind (lay_det s _ _ _) fun cs => PureC.pure _
    · exact PureC.bind (lay_det s _ _ _) fun cs => PureC.pure _
  case load t x =>
    refine PureC.bind (onC_det s x) fun p => ?_
    cases p <;> try exact PureC.none
    rename_i id o
    refine PureC.bindCells fun b cs => ?_
    show PureC s (fun k => match T t with
      | some i => (match i.agg with
        | false => match i.zero with
          | [z] => o + 1 ≤ cs.length ∧ k (.c (cs.getD o z)) s
          | _ => False
        | true => if i.size ≤ 6 then (o + i.size ≤ cs.length ∧ i.zero.length = i.size) ∧ k (.g (rdn cs o i.zero)) s
          else (match o with
            | 0 => cs.length = i.size ∧ k (.g cs) s
            | o + 1 => (o + 1) + i.size ≤ cs.length ∧ k (.g ((cs.drop (o + 1)).take i.size)) s))
      | none => False)
    rcases T t with _ | i
    · exact PureC.none
    simp only
    cases i.agg with
    | false =>
      rcases i.zero with _ | ⟨z, _ | ⟨z2, zs⟩⟩
      · exact PureC.none
      · exact PureC.and (PureC.pure _)
      · exact PureC.none
    | true =>
      refine PureC.ite (PureC.and (PureC.pure _)) ?_
      cases o with
      | zero => exact PureC.and (PureC.pure _)
      | succ o => exact PureC.and (PureC.pure _)
  case nilCheck x =>
    refine PureC.bind (onC_det s x) fun p => ?_
    cases p <;> first | exact PureC.none | exact PureC.pure _
  case binOp op t x y sh =>
    exact PureC.bind (onV_det s x) fun a => PureC.bind (onV_det s y) fun b => PureC.bind (bin_det T md op t a b) fun r => PureC.pure _
  case unOp op t x =>
    refine PureC.bind (onC_det s x) fun p => ?_
    cases op <;> cases p <;> first | exact PureC.none | exact PureC.pure _ | exact PureC.bind (iop_det _ _ _ _ _) fun r => PureC.pure _
  case convert src dst x =>
    refine PureC.bind (onC_det s x) fun p => ?_
    show PureC s (fun k => match T src, T dst, p with
    | some _, some { d := .int kd, .. }, .int _ n => k (.c (.int kd (kd.wrap n))) s
    | _, _, _ => False)
    rcases T src with _ | i
    · exact PureC.none
    rcases T dst with _ | ⟨d, a1, a2, z, a4⟩
    · exact PureC.none
    cases d <;> try exact PureC.none
    cases p <;> first | exact PureC.none | exact PureC.pure _
  case makeFunc f fs cs =>
    cases f <;> try exact PureC.none
    exact PureC.bind (fnOps_det s fs.toList) fun fl => PureC.bind (fnOps_det s cs.toList) fun cl => PureC.pure _
  case fieldAddr t x f =>
    refine PureC.bind (onC_det s x) fun p => ?_
    show PureC s (fun k => match p, T t with
    | .ptr id o, some { d := .struct fs, .. } => (match fs[f]? with
      | some (fo, ft) => lit (match szOf T ft with | some (_ + 1) => true | _ => false) (k (.c (.ptr id (o + fo))) s)
      | none => False)
    | _, _ => False)
    cases p <;> try exact PureC.none
    rcases T t with _ | ⟨d, a1, a2, z, a4⟩
    · exact PureC.none
    cases d <;> try exact PureC.none
    rename_i fs
    simp only
    cases fs[f]? with
    | none => exact PureC.none
    | some q => exact PureC.lit (PureC.pure _)
  case indexAddr t x y =>
    refine PureC.bind (onC_det s x) fun p => PureC.bind (onC_det s y) fun q => ?_
    show PureC s (fun k => match p, q, T t with
    | .ptr id o, .int _ i, some { d := .arr n e, .. } => (match szOf T e with
      | some z => (0 ≤ i ∧ i < n) ∧ k (.c (.ptr id (o + i.toNat * z))) s
      | none => False)
    | .sl id o len _, .int _ i, some { d := .slice e, .. } => (match szOf T e with
      | some z => (0 ≤ i ∧ i < len) ∧ k (.c (.ptr id (o + i.toNat * z))) s
      | none => False)
    | .row id len, .int _ i, some { d := .slice e, .. } => (match lk s.hp id, szOf T e with
      | some (.row ..), some z => (0 ≤ i ∧ i < len) ∧ k (.c (.ptr id (i.toNat * z))) s
      | _, _ => False)
    | .rs id o len, .int _ i, some { d := .slice e, .. } => (match szOf T e with
      | some z => (0 ≤ i ∧ i < len) ∧ k (.c (.ptr id (o + i.toNat * z))) s
      | none => False)
    | _, _, _ => False)
    cases p <;> try exact PureC.none
    all_goals (cases q <;> try exact PureC.none)
    all_goals (rcases T t with _ | ⟨d, a1, a2, z, a4⟩)
    all_goals (try exact PureC.none)
    all_goals (cases d <;> try exact PureC.none)
    · rename_i e; simp only; cases szOf T e with
      | none => exact PureC.none
      | some z => exact PureC.and (PureC.pure _)
    · rename_i e; simp only; cases szOf T e with
      | none => exact PureC.none
      | some z => exact PureC.and (PureC.pure _)
    · rename_i id n k i e; simp only
      rcases lk s.hp id with _ | ⟨c | c | ⟨e1, z, c⟩ | m | m⟩ <;> try exact PureC.none
      cases szOf T e with
      | none => exact PureC.none
      | some z => exact PureC.and (PureC.pure _)
    · rename_i e; simp only; cases szOf T e with
      | none => exact PureC.none
      | some z => exact PureC.and (PureC.pure _)
  case index t x y =>
    refine PureC.bind (onV_det s x) fun p => PureC.bind (onC_det s y) fun q => ?_
    show PureC s (fun k => match p, q, T t with
    | .g cs, .int _ i, some { d := .arr n e, .. } => (match T e with
      | some { size := 1, zero := [z], d := ed, .. } => (TI.agg ⟨ed, 1, 0, [], false⟩ = false ∧ 0 ≤ i ∧ i < n ∧ i.toNat < cs.length) ∧ k (.c (cs.getD i.toNat z)) s
      | _ => False)
    | .c (.str b), .int _ i, some { d := .str, .. } => (0 ≤ i ∧ i < b.size) ∧ k (.c (.int .u8 ((b.data.toList.getD i.toNat 0).toNat : Int))) s
    | _, _, _ => False)
    rcases p with p | p | p
    · cases p <;> try exact PureC.none
      cases q <;> try exact PureC.none
      rcases T t with _ | ⟨d, a1, a2, z, a4⟩
      · exact PureC.none
      cases d <;> try exact PureC.none
      exact PureC.and (PureC.pure _)
    · cases q <;> try exact PureC.none
      rcases T t with _ | ⟨d, a1, a2, z, a4⟩
      · exact PureC.none
      cases d <;> try exact PureC.none
      rename_i n e
      simp only
      rcases T e with _ | ⟨d, sz, a2, z, a4⟩
      · exact PureC.none
      rcases sz with _ | _ | sz <;> rcases z with _ | ⟨z, _ | ⟨z2, zs⟩⟩ <;> first | exact PureC.none | exact PureC.and (PureC.pure _)
    · exact PureC.none
  case field t x f =>
    refine PureC.bind (onV_det s x) fun p => ?_
    show PureC s (fun k => match p, T t with
    | .g cs, some { d := .struct fs, .. } => (match fs[f]? with
      | some (o, ft) => (match T ft with
        | some i => (match i.agg with
          | false => match i.zero with
            | [z] => o + 1 ≤ cs.length ∧ k (.c (cs.getD o z)) s
            | _ => False
          | true => o + i.size ≤ cs.length ∧ k (.g ((cs.drop o).take i.size)) s)
        | none => False)
      | none => False)
    | _, _ => False)
    rcases p with p | cs | p
    · exact PureC.none
    · rcases T t with _ | ⟨d, a1, a2, z, a4⟩
      · exact PureC.none
      cases d <;> try exact PureC.none
      rename_i fs
      simp only
      rcases fs[f]? with _ | ⟨o, ft⟩
      · exact PureC.none
      simp only
      cases T ft with
      | none => exact PureC.none
      | some i =>
        simp only
        cases i.agg with
        | false =>
          rcases i.zero with _ | ⟨z, _ | ⟨z2, zs⟩⟩
          · exact PureC.none
          · exact PureC.and (PureC.pure _)
          · exact PureC.none
        | true => exact PureC.and (PureC.pure _)
    · exact PureC.none
  case extract x i =>
    refine PureC.bind (onV_det s x) fun p => ?_
    rcases p with p | cs | es
    · exact PureC.none
    · exact PureC.none
    · simp only
      cases es[i]? with
      | none => exact PureC.none
      | some e => exact PureC.pure _
  case lookup t x y ok =>
    refine PureC.bind (onC_det s x) fun p => PureC.bind (onV_det s y) fun q => ?_
    show PureC s (fun k => match p, q, T t with
    | .map id, .g ks, some { d := .map ke el, .. } => (match lk s.hp id, T ke, T el with
      | some (.mp m), some { cmp := true, zero := z, .. }, some { d := ed, zero := [z0], .. } =>
        (TI.agg ⟨ed, 1, 0, [], false⟩ = false ∧ mOk m ks z) ∧ (match ok with
          | true => k (.t [.c ((mget m ks).getD z0), .c (.bool (mget m ks).isSome)]) s
          | false => k (.c ((mget m ks).getD z0)) s)
      | _, _, _ => False)
    | _, _, _ => False)
    cases p <;> try exact PureC.none
    rcases q with q | q | q <;> try exact PureC.none
    rcases T t with _ | ⟨d, a1, a2, z, a4⟩
    · exact PureC.none
    cases d <;> try exact PureC.none
    rename_i id ke el
    simp only
    rcases lk s.hp id with _ | ⟨c | c | ⟨e1, z, c⟩ | m | m⟩ <;> try exact PureC.none
    rcases T ke with _ | ⟨d, a1, a2, z, _ | _⟩ <;> try exact PureC.none
    rcases T el with _ | ⟨d, a1, a2, z', a4⟩
    · exact PureC.none
    rcases z' with _ | ⟨z0, _ | ⟨z2, zs⟩⟩ <;> try exact PureC.none
    cases ok
    · exact PureC.and (PureC.pure _)
    · exact PureC.and (PureC.pure _)
  case slice t x lo hi mx =>
    cases mx with
    | some _ => exact PureC.none
    | none =>
    refine PureC.bind (onC_det s x) fun p => PureC.bind (onO_det s lo) fun lo => PureC.bind (onO_det s hi) fun hi => ?_
    show PureC s (fun k => match p, T t with
    | .sl id o len cap, some { d := .slice e, .. } => (match szOf T e with
      | some z => stepA.subS o len cap z lo hi fun o' n' c' => k (.c (.sl id o' n' c')) s
      | none => False)
    | .nils, some { d := .slice e, .. } => (match szOf T e with
      | some _ => (lo.getD 0 = 0 ∧ hi.getD 0 = 0) ∧ k (.c .nils) s
      | none => False)
    | .row id len, some { d := .slice e, .. } => (match lk s.hp id, szOf T e with
      | some (.row ..), some z => stepA.subS 0 len none z lo hi fun o' n' c' => k (.c (.sl id o' n' c')) s
      | _, _ => False)
    | .ptr id o, some { d := .arr n e, .. } => (match szOf T e with
      | some z => stepA.subS o n (some n) z lo hi fun o' n' c' => k (.c (.sl id o' n' c')) s
      | none => False)
    | .str b, some { d := .str, .. } => (0 ≤ lo.getD 0 ∧ lo.getD 0 ≤ hi.getD b.size ∧ hi.getD b.size ≤ b.size) ∧ k (.c (.str (b.extract (lo.getD 0).toNat (hi.getD b.size).toNat))) s
    | .rs id o len, some { d := .slice e, .. } => (match szOf T e with
      | some z => stepA.subS o len none z lo hi fun o' n' _ => k (.c (.rs id o' n')) s
      | none => False)
    | _, _ => False)
    cases p <;> (rcases T t with _ | ⟨d, a1, a2, z, a4⟩) <;> (try exact PureC.none) <;> (cases d <;> try exact PureC.none)
    · exact PureC.and (PureC.pure _)
    · rename_i e; simp only; cases szOf T e with
      | none => exact PureC.none
      | some z => exact PureC.and (PureC.pure _)
    · rename_i e; simp only; cases szOf T e with
      | none => exact PureC.none
      | some z => exact PureC.and (PureC.pure _)
    · rename_i id len e; simp only
      rcases lk s.hp id with _ | ⟨c | c | ⟨e1, z, c⟩ | m | m⟩ <;> try exact PureC.none
      cases szOf T e with
      | none => exact PureC.none
      | some z => exact PureC.and (PureC.pure _)
    · rename_i e; simp only; cases szOf T e with
      | none => exact PureC.none
      | some z => exact PureC.and (PureC.pure _)
    · rename_i e; simp only; cases szOf T e with
      | none => exact PureC.none
      | some z => exact PureC.and (PureC.pure _)
  case call c =>
    obtain ⟨cal, args, tys⟩ := c
    cases cal <;> try (cases ho; done)
    rename_i b
    obtain ⟨args⟩ := args
    obtain ⟨tys⟩ := tys
    cases b <;> try (cases ho; done)
    · rcases args with _ | ⟨x, _ | ⟨y, l⟩⟩ <;> try exact PureC.none
      rcases tys with _ | ⟨t, _ | ⟨t2, l⟩⟩ <;> try exact PureC.none
      refine PureC.bind (f := onV s x) (g := fun p k => match p, T t with
        | .c (.sl _ _ n _), some { d := .slice _, .. } => k (.c (.int .i64 n)) s
        | .c (.row _ n), some { d := .slice _, .. } => k (.c (.int .i64 n)) s
        | .c .nils, some { d := .slice _, .. } => k (.c (.int .i64 0)) s
        | .c (.str b), some { d := .str, .. } => k (.c (.int .i64 b.size)) s
        | .c (.rs _ _ n), some { d := .slice _, .. } => k (.c (.int .i64 n)) s
        | _, _ => False) (onV_det s x) fun p => ?_
      rcases p with p | p | p <;> try exact PureC.none
      cases p <;> (rcases T t with _ | ⟨d, a1, a2, z, a4⟩) <;> (try exact PureC.none) <;> (cases d <;> first | exact PureC.none | exact PureC.pure _)
    · rcases args with _ | ⟨x, _ | ⟨y, _ | ⟨y2, l⟩⟩⟩ <;> try exact PureC.none
      refine PureC.bind (onC_det s x) fun p => PureC.bind (onC_det s y) fun q => ?_
      cases p <;> (try exact PureC.none) <;> (cases q <;> first | exact PureC.none | exact PureC.and (PureC.pure _))
    · rcases args with _ | ⟨x, _ | ⟨y, _ | ⟨y2, l⟩⟩⟩ <;> try exact PureC.none
      refine PureC.bind (onC_det s x) fun p => PureC.bind (onC_det s y) fun q => ?_
      cases p <;> (try exact PureC.none) <;> (cases q <;> first | exact PureC.none | exact PureC.and (PureC.pure _))
theorem new_det (o : Op) (ho : newOp o = true) : NewC s (stepA T md s o) := by
  cases o <;> simp only [newOp] at ho <;> try (cases ho; done)
  case alloc e =>
    show NewC s (fun k => match T e with
    | some { zero := z, .. } => lit (decide (s.nx < GB)) (k (.c (.ptr s.nx 0)) ⟨s.tm, (s.nx, .own z) :: s.hp, s.nx + 1, s.nt, s.k0⟩)
    | none => False)
    rcases T e with _ | i
    · exact NewC.none
    · exact NewC.lit (NewC.pure _ _ rfl)
  case box t x =>
    refine NewC.bind (onV_det s x) fun v => ?_
    show NewC s (fun k => match cellsOfV v with
    | some cs => lit (decide (s.nx < GB)) (k (.c (.ptr s.nx 0)) ⟨s.tm, (s.nx, .own cs) :: s.hp, s.nx + 1, s.nt, s.k0⟩)
    | none => False)
    cases cellsOfV v with
    | none => exact NewC.none
    | some cs => exact NewC.lit (NewC.pure _ _ rfl)
  case makeMap t h =>
    cases h with
    | some _ => exact NewC.none
    | none => exact NewC.lit (NewC.pure _ _ rfl)
  case buildSlice t len ps =>
    show NewC s (fun k => match T t with
    | some { d := .slice e, .. } => match T e with
      | some i => (s.nx < GB ∧ 0 < i.size ∧ i.zero.length = i.size ∧ len * i.size ≤ 16777216) ∧ lay s (fun j => some (j * i.size, i.size)) (fun cs => k (.c (.sl s.nx 0 len (some len))) ⟨s.tm, (s.nx, .own cs) :: s.hp, s.nx + 1, s.nt, s.k0⟩) ps.toList (rep len i.zero)
      | none => False
    | _ => False)
    rcases T t with _ | ⟨d, a1, a2, z, a4⟩
    · exact NewC.none
    cases d <;> try exact NewC.none
    rename_i e
    simp only
    rcases T e with _ | i
    · exact NewC.none
    · exact NewC.and (NewC.bind (lay_det s _ _ _) fun cs => NewC.pure _ _ rfl)
end Go.AH
