/-
  Handling: weakening where nothing is renumbered, names for blocks of numbers.
-/
import Derived.Test.YtfphkpdobbffeaaDoorAh19
set_option linter.unusedSimpArgs false
set_option linter.unusedVariables false
namespace Go.AH
open Go.RowKit

theorem AC.ren_id {q : Nat → Nat} (h : ∀ i, q i = i) (x : AC) : x.ren q = x := by
  have hl : ∀ l : List Nat, l.map q = l := fun l => by rw [show q = id from funext h]; simp
  cases x <;> simp only [AC.ren, h, hl]
theorem LL_ren_id {q : Nat → Nat} (h : ∀ i, q i = i) (cs : List AC) : cs.map (AC.ren q) = cs := by
  rw [show AC.ren q = id from funext (AC.ren_id h)]; simp
theorem AE.ren_id {q : Nat → Nat} (h : ∀ i, q i = i) (x : AE) : x.ren q = x := by
  cases x <;> simp only [AE.ren, AC.ren_id h, LL_ren_id h]
theorem AV.ren_id {q : Nat → Nat} (h : ∀ i, q i = i) (x : AV) : x.ren q = x := by
  cases x <;> simp only [AV.ren, AC.ren_id h, LL_ren_id h]
  rw [show AE.ren q = id from funext (AE.ren_id h)]; simp
theorem ABlk.ren_id {q : Nat → Nat} (h : ∀ i, q i = i) (x : ABlk) : x.ren q = x := by
  cases x <;> simp only [ABlk.ren, LL_ren_id h]
  rename_i m
  rw [show (fun p : List AC × AC => (p.1, p.2.ren q)) = id from funext fun p => by simp only [AC.ren_id h]; rfl]
  simp

/-- t's knowledge is in s, number for number. -/
def eqT (tm : List (Nat × AV)) : List (Nat × AV) → Prop
  | [] => True
  | (t, v) :: r => (match lk tm t with | some u => u = v | none => False) ∧ eqT tm r
def eqH (hp : List (Nat × ABlk)) : List (Nat × ABlk) → Prop
  | [] => True
  | (i, b) :: r => (match lk hp i with | some c => c = b | none => False) ∧ eqH hp r
theorem eqT_all {tm : List (Nat × AV)} {q : Nat → Nat} (hq : ∀ i, q i = i) : ∀ {l : List (Nat × AV)}, eqT tm l → lkAll tm q l
  | [], _ => trivial
  | (t, v) :: r, h => ⟨by
      have := h.1
      rw [AV.ren_id hq]
      cases hk : lk tm t with
      | none => rw [hk] at this; exact this.elim
      | some u => rw [hk] at this; rw [this], eqT_all hq h.2⟩
theorem eqH_all {hp : List (Nat × ABlk)} {q : Nat → Nat} (hq : ∀ i, q i = i) : ∀ {l : List (Nat × ABlk)}, eqH hp l → hpAll hp q l
  | [], _ => trivial
  | (t, v) :: r, h => ⟨by
      have := h.1
      rw [ABlk.ren_id hq, hq]
      cases hk : lk hp t with
      | none => rw [hk] at this; exact this.elim
      | some u => rw [hk] at this; rw [this], eqH_all hq h.2⟩

theorem rn_nil (i : Nat) : rn [] i = i := rfl

def nodB : List Nat → Bool
  | [] => true
  | i :: r => !r.elem i && nodB r
theorem nodB_sound : ∀ {l : List Nat}, nodB l = true → l.Nodup
  | [], _ => List.nodup_nil
  | i :: r, h => by
    simp only [nodB, Bool.and_eq_true, Bool.not_eq_true'] at h
    exact List.nodup_cons.2 ⟨by simpa using h.1, nodB_sound h.2⟩

def Sub0T (s t : AS) : Prop := t.nt = s.nt ∧ t.k0 = s.k0 ∧ (t.k0 ≤ t.nx ∧ t.nx ≤ s.nx) ∧ nodB (t.hp.map Prod.fst) = true ∧ tmLt t.nx t.tm ∧ hpLt t.nx t.hp
theorem Sub.nil {s t : AS} (h : Sub0T s t) (htm : eqT s.tm t.tm) (hhp : eqH s.hp t.hp) : Sub s t [] :=
  ⟨h.1, h.2.1, h.2.2.1, (fun p hp => absurd hp (List.not_mem_nil)), eqT_all rn_nil htm, eqH_all rn_nil hhp, nodB_sound h.2.2.2.1, h.2.2.2.2.1, h.2.2.2.2.2⟩

theorem AC.ren_lt_id {q : Nat → Nat} {n : Nat} (h : ∀ i, idOk n i → q i = i) {x : AC} (hx : x.lt n) : x.ren q = x := by
  cases x <;> simp only [AC.ren, AC.lt] at hx ⊢ <;> first | rw [h _ hx] | skip
  rename_i f fs cs
  have : ∀ l : List Nat, (∀ i ∈ l, idOk n i) → l.map q = l := fun l hl => by
    conv => rhs; rw [← List.map_id l]
    exact List.map_congr_left fun i hi => h i (hl i hi)
  rw [this fs hx.1, this cs hx.2]
theorem LL.ren_lt_id {q : Nat → Nat} {n : Nat} (h : ∀ i, idOk n i → q i = i) {cs : List AC} (hx : LL n cs) : cs.map (AC.ren q) = cs := by
  conv => rhs; rw [← List.map_id cs]
  exact List.map_congr_left fun x hi => AC.ren_lt_id h (hx x hi)
theorem AE.ren_lt_id {q : Nat → Nat} {n : Nat} (h : ∀ i, idOk n i → q i = i) {x : AE} (hx : x.lt n) : x.ren q = x := by
  cases x with
  | c x => simp only [AE.ren, AC.ren_lt_id h hx]
  | g cs => simp only [AE.ren, LL.ren_lt_id h hx]
theorem AV.ren_lt_id {q : Nat → Nat} {n : Nat} (h : ∀ i, idOk n i → q i = i) {x : AV} (hx : x.lt n) : x.ren q = x := by
  cases x with
  | c x => simp only [AV.ren, AC.ren_lt_id h hx]
  | g cs => simp only [AV.ren, LL.ren_lt_id h hx]
  | t es =>
    simp only [AV.ren]
    congr 1
    conv => rhs; rw [← List.map_id es]
    exact List.map_congr_left fun e hi => AE.ren_lt_id h (hx e hi)
theorem ABlk.ren_lt_id {q : Nat → Nat} {n : Nat} (h : ∀ i, idOk n i → q i = i) {x : ABlk} (hx : x.lt n) : x.ren q = x := by
  cases x with
  | ro cs => simp only [ABlk.ren, LL.ren_lt_id h hx]
  | own cs => simp only [ABlk.ren, LL.ren_lt_id h hx]
  | row e z cs => simp only [ABlk.ren, LL.ren_lt_id h hx]
  | mp m =>
    simp only [ABlk.ren]
    congr 1
    conv => rhs; rw [← List.map_id m]
    exact List.map_congr_left fun p hi => by rw [LL.ren_lt_id h (hx p hi).1, AC.ren_lt_id h (hx p hi).2]; rfl
  | mi I => rfl
theorem qf_id {k : Nat} (i : Nat) (h : idOk k i) : qf k [] i = i := by
  unfold qf
  rcases h with h | h
  · rw [if_pos h]
  · by_cases h2 : i < k
    · rw [if_pos h2]
    · rw [if_neg h2, if_pos h]

/-- Nothing new is handed back. -/
theorem Fin.nil {s : AS} {r : AV} {Post : AV → List (Nat × ABlk) → Nat → Prop} (hp' : List (Nat × ABlk)) (hpost : Post r hp' s.k0) (hr : r.lt s.k0) (hh : eqH s.hp hp') (hl : hpLt s.k0 hp') (hn : nodB (hp'.map Prod.fst) = true) (hk : s.k0 ≤ GB) : Fin s r Post := by
  refine Fin.mk [] r hp' ⟨by simpa using hpost, AV.ren_lt_id qf_id hr, ?_, ?_, nodB_sound hn, by simpa using hr, by simpa using hl, by simpa using hk⟩
  · clear hpost hn
    induction hp' with
    | nil => trivial
    | cons p r ih =>
      obtain ⟨i, b⟩ := p
      obtain ⟨h1, h2, h3⟩ := hl
      refine ⟨?_, ih hh.2 h3⟩
      rw [qf_id i h1, ABlk.ren_lt_id qf_id h2]
      have := hh.1
      cases hk : lk s.hp i with
      | none => rw [hk] at this; exact this.elim
      | some u => rw [hk] at this; rw [this]
  · have : (hp'.map fun p => qf s.k0 [] p.1) = hp'.map Prod.fst := by
      clear hpost hh hn
      induction hp' with
      | nil => rfl
      | cons p r ih =>
        obtain ⟨i, b⟩ := p
        simp only [List.map_cons, qf_id i hl.1, ih hl.2.2]
    rw [this]; exact nodB_sound hn

/-! ### Blocks of numbers -/
def ints (xs : List Int) : List AC := xs.map (AC.int .i64)
theorem ints_len (xs : List Int) : (ints xs).length = xs.length := by simp [ints]
theorem ints_LL (n : Nat) (xs : List Int) : LL n (ints xs) := fun x hx => by
  obtain ⟨y, _, rfl⟩ := List.mem_map.1 hx; trivial
theorem ints_ren (q : Nat → Nat) (xs : List Int) : (ints xs).map (AC.ren q) = ints xs := by
  simp [ints, Function.comp_def, AC.ren]
theorem ints_getD (xs : List Int) (i : Nat) (d : Int) : (ints xs).getD i (.int .i64 d) = .int .i64 (xs.getD i d) := by
  simp [ints, List.getD_eq_getElem?_getD]
theorem ints_set (xs : List Int) (i : Nat) (d : Int) : (ints xs).set i (.int .i64 d) = ints (xs.set i d) := by
  simp [ints, List.map_set]
theorem ints_app (xs ys : List Int) : ints xs ++ ints ys = ints (xs ++ ys) := by simp [ints]
theorem ints_nil : [] = ints [] := rfl

end Go.AH
