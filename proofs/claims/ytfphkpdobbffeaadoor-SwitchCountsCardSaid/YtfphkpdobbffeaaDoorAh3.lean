/-
  What one operation does to an abstract state.
-/
import Derived.Test.YtfphkpdobbffeaaDoorAh2
set_option linter.unusedSimpArgs false
set_option linter.unusedVariables false
namespace Go.AH
open Go.RowKit

inductive TD where
  | int (k : IntKind) | bool | str | ptr
  | slice (e : Nat)
  | arr (n e : Nat)
  | struct (fs : List (Nat × Nat))
  | map (key el : Nat)
  | func
  | other

structure TI where
  d : TD
  size : Nat
  bytes : Nat
  zero : List AC
  cmp : Bool

def TI.agg (i : TI) : Bool := match i.d with | .arr .. => true | .struct .. => true | _ => false

/-- A state, laid open. -/
def AS.on (s : AS) (f : List (Nat × AV) → List (Nat × ABlk) → Nat → Nat → Nat → Prop) : Prop := match s with | ⟨tm, hp, nx, nt, k0⟩ => f tm hp nx nt k0
theorem AS.on_eq (s : AS) (f : List (Nat × AV) → List (Nat × ABlk) → Nat → Nat → Nat → Prop) : s.on f = f s.tm s.hp s.nx s.nt s.k0 := rfl

/-- What a literal decides. -/
def lit (b : Bool) (X : Prop) : Prop := match b with | true => X | false => False
theorem lit_iff {b : Bool} {X : Prop} : lit b X ↔ b = true ∧ X := by cases b <;> simp [lit]

def I64 (n : Int) : Prop := -9223372036854775808 ≤ n ∧ n < 9223372036854775808

/-- A constant. -/
def kv : Value → Option AV
  | .int k n => some (.c (.int k n))
  | .bool b => some (.c (.bool b))
  | .string s => some (.c (.str s))
  | .pointer none => some (.c .nilp)
  | .slice none 0 0 => some (.c .nils)
  | .nilFunc => some (.c .nilfn)
  | _ => none

def ev (s : AS) : Operand → Option AV
  | .tmp t => lk s.tm t
  | .const v => kv v
  | .global g => some (.c (.ptr (GB + g) 0))
  | .func f => some (.c (.fn f [] []))

def onV (s : AS) (x : Operand) (k : AV → Prop) : Prop := match ev s x with | some v => k v | none => False
def onC (s : AS) (x : Operand) (k : AC → Prop) : Prop := match ev s x with | some (.c v) => k v | _ => False

/-- n cells from a place on, each with what it reads as where it is not known. -/
def rdn (cs : List AC) (o : Nat) : List AC → List AC
  | [] => []
  | z :: r => cs.getD o z :: rdn cs (o + 1) r
def wrn (cs : List AC) (o : Nat) : List AC → List AC
  | [] => cs
  | v :: r => wrn (cs.set o v) (o + 1) r

def ABlk.cells : ABlk → Option (List AC)
  | .ro cs => some cs
  | .own cs => some cs
  | .row _ _ cs => some cs
  | .mp _ => none
  | .mi _ => none
def ABlk.with (b : ABlk) (cs : List AC) : ABlk := match b with
  | .ro _ => .ro cs
  | .own _ => .own cs
  | .row e z _ => .row e z cs
  | .mp m => .mp m
  | .mi I => .mi I

def onCells (s : AS) (id : Nat) (k : ABlk → List AC → Prop) : Prop := match lk s.hp id with
  | some (.ro cs) => k (.ro cs) cs
  | some (.own cs) => k (.own cs) cs
  | some (.row e z cs) => k (.row e z cs) cs
  | _ => False

/-- Arithmetic. md: sums of int are asked to stay in range. -/
def iop (md : Bool) (op : BinOp) (kd : IntKind) (a b : Int) (k : Int → Prop) : Prop :=
  match md, op, kd with
  | true, .add, .i64 => I64 (a + b) ∧ k (a + b)
  | true, .sub, .i64 => I64 (a - b) ∧ k (a - b)
  | true, .mul, .i64 => I64 (a * b) ∧ k (a * b)
  | true, .quo, _ => (0 ≤ a ∧ 0 < b ∧ a < 2 ^ kd.bits ∧ (kd.signed = true → a < 2 ^ (kd.bits - 1))) ∧ k (a / b)
  | true, .rem, _ => (0 ≤ a ∧ 0 < b) ∧ k (a % b)
  | true, .shl, .i64 => (0 ≤ b ∧ b < 64 ∧ I64 (a * 2 ^ b.toNat)) ∧ k (a * 2 ^ b.toNat)
  | true, .shr, _ => (0 ≤ b ∧ b < kd.bits) ∧ k (a / 2 ^ b.toNat)
  | true, .and, _ => (0 ≤ a ∧ a < 9223372036854775808 ∧ 0 ≤ b ∧ b < 9223372036854775808 ∧ kd.bits = 64) ∧ k ((a.toNat &&& b.toNat : Nat) : Int)
  | true, .or, _ => (0 ≤ a ∧ a < 9223372036854775808 ∧ 0 ≤ b ∧ b < 9223372036854775808 ∧ kd.bits = 64) ∧ k ((a.toNat ||| b.toNat : Nat) : Int)
  | true, .xor, _ => (0 ≤ a ∧ a < 9223372036854775808 ∧ 0 ≤ b ∧ b < 9223372036854775808 ∧ kd.bits = 64) ∧ k ((a.toNat ^^^ b.toNat : Nat) : Int)
  | true, .andNot, _ => (0 ≤ a ∧ a < 9223372036854775808 ∧ 0 ≤ b ∧ b < 9223372036854775808 ∧ kd.bits = 64) ∧ k ((a.toNat ^^^ (a.toNat &&& b.toNat) : Nat) : Int)
  | _, .add, _ => k (kd.wrap (a + b))
  | _, .sub, _ => k (kd.wrap (a - b))
  | _, .mul, _ => k (kd.wrap (a * b))
  | _, .quo, _ => b ≠ 0 ∧ k (kd.wrap (a.tdiv b))
  | _, .rem, _ => b ≠ 0 ∧ k (a.tmod b)
  | _, .shl, _ => 0 ≤ b ∧ k (kd.wrap (a * 2 ^ (min b.toNat kd.bits)))
  | _, .shr, _ => 0 ≤ b ∧ k (a.fdiv (2 ^ (min b.toNat kd.bits)))
  | _, .and, _ => k (kd.wrap ((BitVec.ofInt kd.bits a &&& BitVec.ofInt kd.bits b).toNat))
  | _, .or, _ => k (kd.wrap ((BitVec.ofInt kd.bits a ||| BitVec.ofInt kd.bits b).toNat))
  | _, .xor, _ => k (kd.wrap ((BitVec.ofInt kd.bits a ^^^ BitVec.ofInt kd.bits b).toNat))
  | _, .andNot, _ => k (kd.wrap ((BitVec.ofInt kd.bits a &&& ~~~ BitVec.ofInt kd.bits b).toNat))
  | _, _, _ => False

def icmp (op : BinOp) (a b : Int) (k : Bool → Prop) : Prop :=
  match op with
  | .eql => k (decide (a = b))
  | .neq => k (decide (a ≠ b))
  | .lss => k (decide (a < b))
  | .leq => k (decide (a ≤ b))
  | .gtr => k (decide (b < a))
  | .geq => k (decide (b ≤ a))
  | _ => False

/-- Two flat lists of cells, compared. -/
def eqC : AC → AC → Option Bool
  | .int k a, .int k' b => if k = k' then some (decide (a = b)) else none
  | .bool a, .bool b => some (a == b)
  | _, _ => none
def eqL : List AC → List AC → Option Bool
  | [], [] => some true
  | x :: xs, y :: ys => match eqC x y, eqL xs ys with
    | some a, some b => some (a && b)
    | _, _ => none
  | _, _ => none

/-- Numbers and bools of the kinds of z, each in its kind's range. -/
def okC : AC → AC → Prop
  | .int k n, .int k' _ => k = k' ∧ k.min ≤ n ∧ n ≤ k.max
  | .bool _, .bool _ => True
  | _, _ => False
def okL : List AC → List AC → Prop
  | [], [] => True
  | x :: xs, z :: zs => okC x z ∧ okL xs zs
  | _, _ => False
/-- Maps. -/
def mget : List (List AC × AC) → List AC → Option AC
  | [], _ => none
  | (k, v) :: r, ks => if eqL ks k = some true then some v else mget r ks
def mset : List (List AC × AC) → List AC → AC → List (List AC × AC)
  | [], ks, v => [(ks, v)]
  | (k, w) :: r, ks, v => if eqL ks k = some true then (k, v) :: r else (k, w) :: mset r ks v
def mOk (m : List (List AC × AC)) (ks z : List AC) : Prop := okL ks z ∧ ∀ p ∈ m, okL p.1 z

def isArith : BinOp → Bool
  | .add | .sub | .mul | .quo | .rem | .and | .or | .xor | .andNot | .shl | .shr => true
  | _ => false

def bin (T : Nat → Option TI) (md : Bool) (op : BinOp) (t : Nat) (x y : AV) (k : AV → Prop) : Prop :=
  match x, y with
  | .c (.int ka a), .c (.int kb b) =>
    if isArith op then lit (decide (op = .shl ∨ op = .shr ∨ ka = kb)) (iop md op ka a b (fun n => k (.c (.int ka n))))
    else lit (decide (ka = kb)) (icmp op a b (fun r => k (.c (.bool r))))
  | .c (.bool a), .c (.bool b) => lit (match T t with | some { d := .bool, .. } => true | _ => false) (match op with
    | .eql => k (.c (.bool (a == b)))
    | .neq => k (.c (.bool (a != b)))
    | _ => False)
  | .c (.str a), .c (.str b) => match op with
    | .add => ((a.size + b.size : Nat) : Int) ≤ 9223372036854775807 ∧ k (.c (.str (a ++ b)))
    | .eql => k (.c (.bool (a.toList == b.toList)))
    | .neq => k (.c (.bool (!(a.toList == b.toList))))
    | _ => False
  | .g xs, .g ys => (match T t with | some { cmp := true, zero := z, .. } => okL xs z ∧ okL ys z | _ => False) ∧ match eqL xs ys with
    | some r => (match op with
      | .eql => k (.c (.bool r))
      | .neq => k (.c (.bool (!r)))
      | _ => False)
    | none => False
  | _, _ => False

def cellsOfV : AV → Option (List AC)
  | .c x => some [x]
  | .g cs => some cs
  | .t _ => none

/-- The parts of a literal, laid one by one. -/
def lay (s : AS) (place : Nat → Option (Nat × Nat)) (k : List AC → Prop) : List (Nat × Operand) → List AC → Prop
  | [], cs => k cs
  | (i, x) :: r, cs => match place i with
    | none => False
    | some (o, z) => onV s x fun v => match v with
      | .c c => (z = 1 ∧ o + 1 ≤ cs.length) ∧ lay s place k r (cs.set o c)
      | .g gs => (gs.length = z ∧ o + z ≤ cs.length) ∧ lay s place k r (wrn cs o gs)
      | .t _ => False

def rep (n : Nat) (z : List AC) : List AC := match n with | 0 => [] | n + 1 => z ++ rep n z

def szOf (T : Nat → Option TI) (t : Nat) : Option Nat := match T t with | some ⟨_, z, _, _, _⟩ => some z | none => none
theorem szOf_eq (T : Nat → Option TI) (t : Nat) : szOf T t = (T t).map (·.size) := by unfold szOf; cases T t <;> rfl

/-- One operation that calls no function: k is handed what it gives, and the state behind it. -/
def stepA (T : Nat → Option TI) (md : Bool) (s : AS) (o : Op) (k : AV → AS → Prop) : Prop :=
  match o with
  | .move x => onV s x fun v => k v s
  | .assign x => onV s x fun v => k v s
  | .pick c a b => onC s c fun q => match q with
    | .bool q => onV s a fun va => onV s b fun vb => (match va, vb with
      | .c (.bool x), .c (.bool y) => k (.c (.bool (cond q x y))) s
      | _, _ => (q = true → k va s) ∧ (q = false → k vb s))
    | _ => False
  | .alloc e => match T e with
    | some { zero := z, .. } => s.on fun tm hp nx nt k0 => lit (decide (nx < GB)) (k (.c (.ptr nx 0)) ⟨tm, (nx, .own z) :: hp, nx + 1, nt, k0⟩)
    | none => False
  | .box _ x => onV s x fun v => match cellsOfV v with
    | some cs => s.on fun tm hp nx nt k0 => lit (decide (nx < GB)) (k (.c (.ptr nx 0)) ⟨tm, (nx, .own cs) :: hp, nx + 1, nt, k0⟩)
    | none => False
  | .build t ps => match T t with
    | some { d := .struct fs, zero := z, .. } => lay s (fun i => match fs[i]? with | some (o, ft) => (szOf T ft).map fun z => (o, z) | none => none) (fun cs => k (.g cs) s) ps.toList z
    | some { d := .arr _ e, zero := z, .. } => match szOf T e with
      | some w => lay s (fun i => some (i * w, w)) (fun cs => k (.g cs) s) ps.toList z
      | none => False
    | _ => False
  | .buildSlice t len ps => match T t with
    | some { d := .slice e, .. } => match T e with
      | some i => (s.nx < GB ∧ 0 < i.size ∧ i.zero.length = i.size ∧ len * i.size ≤ 16777216) ∧ lay s (fun j => some (j * i.size, i.size)) (fun cs => s.on fun tm hp nx nt k0 => k (.c (.sl nx 0 len (some len))) ⟨tm, (nx, .own cs) :: hp, nx + 1, nt, k0⟩) ps.toList (rep len i.zero)
      | none => False
    | _ => False
  | .load t x => onC s x fun p => match p with
    | .ptr id o => onCells s id fun _ cs => match T t with
      | some i => (match i.agg with
        | false => match i.zero with
          | [z] => o + 1 ≤ cs.length ∧ k (.c (cs.getD o z)) s
          | _ => False
        | true => if i.size ≤ 6 then (o + i.size ≤ cs.length ∧ i.zero.length = i.size) ∧ k (.g (rdn cs o i.zero)) s
          else (match o with
            | 0 => cs.length = i.size ∧ k (.g cs) s
            | o + 1 => (o + 1) + i.size ≤ cs.length ∧ k (.g ((cs.drop (o + 1)).take i.size)) s))
      | none => False
    | _ => False
  | .store t x y => onC s x fun p => onV s y fun v => match p with
    | .ptr id o => onCells s id fun b cs => b.wr = true ∧ match T t with
      | some i => (match v with
        | .c c => (i.size = 1 ∧ o + 1 ≤ cs.length) ∧ s.on fun tm hp nx nt k0 => k (.t []) ⟨tm, up hp id (b.with (cs.set o c)), nx, nt, k0⟩
        | .g gs => if i.size ≤ 6 then (gs.length = i.size ∧ o + i.size ≤ cs.length) ∧ s.on fun tm hp nx nt k0 => k (.t []) ⟨tm, up hp id (b.with (wrn cs o gs)), nx, nt, k0⟩
          else (match o with
            | 0 => (gs.length = i.size ∧ cs.length = i.size) ∧ s.on fun tm hp nx nt k0 => k (.t []) ⟨tm, up hp id (b.with gs), nx, nt, k0⟩
            | o + 1 => (gs.length = i.size ∧ (o + 1) + i.size ≤ cs.length) ∧ s.on fun tm hp nx nt k0 => k (.t []) ⟨tm, up hp id (b.with (cs.take (o + 1) ++ gs ++ cs.drop ((o + 1) + i.size))), nx, nt, k0⟩)
        | .t _ => False)
      | none => False
    | _ => False
  | .nilCheck x => onC s x fun p => match p with
    | .ptr id o => k (.c (.ptr id o)) s
    | .fn f a b => k (.c (.fn f a b)) s
    | _ => False
  | .binOp op t x y _ => onV s x fun a => onV s y fun b => bin T md op t a b (fun r => k r s)
  | .unOp op _ x => onC s x fun v => match op, v with
    | .not, .bool b => k (.c (.bool (!b))) s
    | .neg, .int kd n => iop md .sub kd 0 n fun r => k (.c (.int kd r)) s
    | _, _ => False
  | .convert src dst x => onC s x fun v => match T src, T dst, v with
    | some _, some { d := .int kd, .. }, .int _ n => k (.c (.int kd (kd.wrap n))) s
    | _, _, _ => False
  | .makeFunc (.func f) fs cs => fnOps s fs.toList fun fl => fnOps s cs.toList fun cl => k (.c (.fn f fl cl)) s
  | .fieldAddr t x f => onC s x fun p => match p, T t with
    | .ptr id o, some { d := .struct fs, .. } => (match fs[f]? with
      | some (fo, ft) => lit (match szOf T ft with | some (_ + 1) => true | _ => false) (k (.c (.ptr id (o + fo))) s)
      | none => False)
    | _, _ => False
  | .indexAddr t x y => onC s x fun p => onC s y fun q => match p, q, T t with
    | .ptr id o, .int _ i, some { d := .arr n e, .. } => (match szOf T e with
      | some z => (0 ≤ i ∧ i < n) ∧ k (.c (.ptr id (o + i.toNat * z))) s
      | none => False)
    | .sl id o len _, .int _ i, some { d := .slice e, .. } => (match szOf T e with
      | some z => (0 ≤ i ∧ i < len) ∧ k (.c (.ptr id (o + i.toNat * z))) s
      | none => False)
    | .row id len, .int _ i, some { d := .slice e, .. } => (match lk s.hp id, szOf T e with
      | some (.row ..), some z => (0 ≤ i ∧ i < len) ∧ k (.c (.ptr id (i.toNat * z))) s
      | _, _ => False)
    | .rs id o len, .int _ i, some { d := .slice e, .. } => (match szOf T e with
      | some z => (0 ≤ i ∧ i < len) ∧ k (.c (.ptr id (o + i.toNat * z))) s
      | none => False)
    | _, _, _ => False
  | .index t x y => onV s x fun p => onC s y fun q => match p, q, T t with
    | .g cs, .int _ i, some { d := .arr n e, .. } => (match T e with
      | some { size := 1, zero := [z], d := ed, .. } => (TI.agg ⟨ed, 1, 0, [], false⟩ = false ∧ 0 ≤ i ∧ i < n ∧ i.toNat < cs.length) ∧ k (.c (cs.getD i.toNat z)) s
      | _ => False)
    | .c (.str b), .int _ i, some { d := .str, .. } => (0 ≤ i ∧ i < b.size) ∧ k (.c (.int .u8 ((b.data.toList.getD i.toNat 0).toNat : Int))) s
    | _, _, _ => False
  | .field t x f => onV s x fun p => match p, T t with
    | .g cs, some { d := .struct fs, .. } => (match fs[f]? with
      | some (o, ft) => (match T ft with
        | some i => (match i.agg with
          | false => match i.zero with
            | [z] => o + 1 ≤ cs.length ∧ k (.c (cs.getD o z)) s
            | _ => False
          | true => o + i.size ≤ cs.length ∧ k (.g ((cs.drop o).take i.size)) s)
        | none => False)
      | none => False)
    | _, _ => False
  | .extract x i => onV s x fun v => match v with
    | .t es => (match es[i]? with | some e => k e.v s | none => False)
    | _ => False
  | .makeMap _ none => s.on fun tm hp nx nt k0 => lit (decide (nx < GB)) (k (.c (.map nx)) ⟨tm, (nx, .mp []) :: hp, nx + 1, nt, k0⟩)
  | .lookup t x y ok => onC s x fun p => onV s y fun q => match p, q, T t with
    | .map id, .g ks, some { d := .map ke el, .. } => (match lk s.hp id, T ke, T el with
      | some (.mp m), some { cmp := true, zero := z, .. }, some { d := ed, zero := [z0], .. } =>
        (TI.agg ⟨ed, 1, 0, [], false⟩ = false ∧ mOk m ks z) ∧ (match ok with
          | true => k (.t [.c ((mget m ks).getD z0), .c (.bool (mget m ks).isSome)]) s
          | false => k (.c ((mget m ks).getD z0)) s)
      | _, _, _ => False)
    | _, _, _ => False
  | .mapUpdate t x y v => onC s x fun p => onV s y fun q => onC s v fun u => match p, q, T t with
    | .map id, .g ks, some { d := .map ke _, .. } => (match lk s.hp id, T ke with
      | some (.mp m), some { cmp := true, zero := z, .. } => mOk m ks z ∧ s.on fun tm hp nx nt k0 => k (.t []) ⟨tm, up hp id (.mp (mset m ks u)), nx, nt, k0⟩
      | some (.mi I), some { cmp := true, zero := z, .. } => (u.prim = true ∧ ∀ m, I m → mOk m ks z ∧ I (mset m ks u)) ∧ k (.t []) s
      | _, _ => False)
    | _, _, _ => False
  | .slice t x lo hi none => onC s x fun p => onO s lo fun lo => onO s hi fun hi => match p, T t with
    | .sl id o len cap, some { d := .slice e, .. } => (match szOf T e with
      | some z => subS o len cap z lo hi fun o' n' c' => k (.c (.sl id o' n' c')) s
      | none => False)
    | .nils, some { d := .slice e, .. } => (match szOf T e with
      | some _ => (lo.getD 0 = 0 ∧ hi.getD 0 = 0) ∧ k (.c .nils) s
      | none => False)
    | .row id len, some { d := .slice e, .. } => (match lk s.hp id, szOf T e with
      | some (.row ..), some z => subS 0 len none z lo hi fun o' n' c' => k (.c (.sl id o' n' c')) s
      | _, _ => False)
    | .ptr id o, some { d := .arr n e, .. } => (match szOf T e with
      | some z => subS o n (some n) z lo hi fun o' n' c' => k (.c (.sl id o' n' c')) s
      | none => False)
    | .str b, some { d := .str, .. } => (0 ≤ lo.getD 0 ∧ lo.getD 0 ≤ hi.getD b.size ∧ hi.getD b.size ≤ b.size) ∧ k (.c (.str (b.extract (lo.getD 0).toNat (hi.getD b.size).toNat))) s
    | .rs id o len, some { d := .slice e, .. } => (match szOf T e with
      | some z => subS o len none z lo hi fun o' n' _ => k (.c (.rs id o' n')) s
      | none => False)
    | _, _ => False
  | .call c => match c.callee, c.args.toList, c.argTypes.toList with
   | .builtin .len, [x], [t] => onV s x fun p => match p, T t with
    | .c (.sl _ _ n _), some { d := .slice _, .. } => k (.c (.int .i64 n)) s
    | .c (.row _ n), some { d := .slice _, .. } => k (.c (.int .i64 n)) s
    | .c .nils, some { d := .slice _, .. } => k (.c (.int .i64 0)) s
    | .c (.str b), some { d := .str, .. } => k (.c (.int .i64 b.size)) s
    | .c (.rs _ _ n), some { d := .slice _, .. } => k (.c (.int .i64 n)) s
    | _, _ => False
   | .builtin .min, [x, y], _ => onC s x fun a => onC s y fun b => match a, b with
    | .int k1 a, .int k2 b => k1 = k2 ∧ k (.c (.int k1 (min a b))) s
    | _, _ => False
   | .builtin .max, [x, y], _ => onC s x fun a => onC s y fun b => match a, b with
    | .int k1 a, .int k2 b => k1 = k2 ∧ k (.c (.int k1 (max a b))) s
    | _, _ => False
   | .builtin .append, [x, y], [t, t'] => t = t' ∧ onC s x fun p => onC s y fun q => match T t with
    | some { d := .slice e, .. } => (match T e with
      | some i => (0 < i.size ∧ i.zero.length = i.size) ∧ newsOf s q i.size fun m nw =>
        (match p with
        | .nils => (s.nx < GB ∧ (m : Int) * i.bytes ≤ 140737488355328 ∧ m ≤ 9223372036854775807) ∧ (m = 0 → k (.c .nils) s) ∧ (0 < m → s.on fun tm hp nx nt k0 => k (.c (.row nx m)) ⟨tm, (nx, .row e i.size nw) :: hp, nx + 1, nt, k0⟩)
        | .row id len => (match lk s.hp id with
          | some (.row e' z cs) => (s.nx < GB ∧ e' = e ∧ z = i.size ∧ cs.length = len * z ∧ ((len + m : Nat) : Int) * i.bytes ≤ 140737488355328 ∧ len + m ≤ 9223372036854775807) ∧
              s.on fun tm hp nx nt k0 => k (.c (.row nx (len + m))) ⟨tm, (nx, .row e z (cs ++ nw)) :: del hp id, nx + 1, nt, k0⟩
          | _ => False)
        | .sl id o len (some c) => onCells s id fun _ cs => (s.nx < GB ∧ c < len + m ∧ o + len * i.size ≤ cs.length ∧ ((len + m : Nat) : Int) * i.bytes ≤ 140737488355328 ∧ len + m ≤ 9223372036854775807) ∧
            s.on fun tm hp nx nt k0 => k (.c (.row nx (len + m))) ⟨tm, (nx, .row e i.size ((cs.drop o).take (len * i.size) ++ nw)) :: hp, nx + 1, nt, k0⟩
        | _ => False)
      | none => False)
    | _ => False
   | _, _, _ => False
  | _ => False
  where
  fnOps (s : AS) : List Operand → (List Nat → Prop) → Prop
    | [], k => k []
    | x :: r, k => onC s x fun p => match p with
      | .ptr id 0 => fnOps s r fun l => k (id :: l)
      | _ => False
  onO (s : AS) (x : Option Operand) (k : Option Int → Prop) : Prop := match x with
    | none => k none
    | some x => onC s x fun p => match p with
      | .int _ n => k (some n)
      | _ => False
  subS (o len : Nat) (cap : Option Nat) (z : Nat) (lo hi : Option Int) (k : Nat → Nat → Option Nat → Prop) : Prop :=
    (0 ≤ lo.getD 0 ∧ lo.getD 0 ≤ hi.getD len ∧ (hi.getD len ≤ len ∨ ∃ c, cap = some c ∧ hi.getD len ≤ c ∧ 0 < len)) ∧
      k (o + (lo.getD 0).toNat * z) ((hi.getD len).toNat - (lo.getD 0).toNat) (cap.map (· - (lo.getD 0).toNat))
  newsOf (s : AS) (q : AC) (z : Nat) (k : Nat → List AC → Prop) : Prop := match q with
    | .sl id o len _ => onCells s id fun _ cs => o + len * z ≤ cs.length ∧ k len ((cs.drop o).take (len * z))
    | .row id len => (match lk s.hp id with
      | some (.row _ _ cs) => len * z ≤ cs.length ∧ k len (cs.take (len * z))
      | _ => False)
    | .nils => k 0 []
    | .rs id o len => onCells s id fun _ cs => o + len * z ≤ cs.length ∧ k len ((cs.drop o).take (len * z))
    | _ => False

end Go.AH
