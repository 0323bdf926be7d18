/-
  Handling: calls whose contract says all.
-/
import Derived.Test.YtfphkpdobbffeaaDoorAh20
set_option linter.unusedSimpArgs false
set_option linter.unusedVariables false
namespace Go.AH
open Go.RowKit

/-- A contract that says all. -/
def FDet (P : Program) (f : FuncId) (args : List AV) (hp : List (Nat × ABlk)) (k : Nat) (r : AV) (hp1 : List (Nat × ABlk)) (k1 : Nat) : Prop :=
  FSpec P f args hp k (fun r' hp' k' => r' = r ∧ hp' = hp1 ∧ k' = k1)

variable {P : Program} {f : FuncId} {vs : List AV} {s : AS} {kk : AV → AS → Prop} {kq : AV → List (Nat × ABlk) → Nat → Prop}

/-- What is handed over lies there. -/
def lies (l : List Nat) (n : Nat) (hp : List (Nat × ABlk)) : List (Nat × ABlk) → Prop
  | [] => True
  | (i, b) :: r => ((i < l.length ∨ GB ≤ i) ∧ match lk hp (qq l n i) with
    | some b' => (match b with
      | .ro cs => b'.cells = some (cs.map (AC.ren (qq l n)))
      | b => b' = b.ren (qq l n))
    | none => False) ∧ lies l n hp r
theorem lies_get {l : List Nat} {n : Nat} {hp : List (Nat × ABlk)} : ∀ {hp0 : List (Nat × ABlk)}, lies l n hp hp0 → ∀ i b, lk hp0 i = some b → (i < l.length ∨ GB ≤ i) ∧ ∃ b', lk hp (qq l n i) = some b' ∧ Gives b' (b.ren (qq l n))
  | (j, c) :: r, h, i, b, hb => by
    simp only [lk] at hb
    split at hb
    · rename_i e; subst e; injection hb with hb; subst hb
      obtain ⟨⟨h1, h2⟩, _⟩ := h
      refine ⟨h1, ?_⟩
      cases hq : lk hp (qq l n j) with
      | none => rw [hq] at h2; exact h2.elim
      | some b' =>
        rw [hq] at h2
        refine ⟨b', rfl, ?_⟩
        cases c with
        | ro cs => exact .inr ⟨_, rfl, h2⟩
        | own cs => exact .inl h2
        | row e z cs => exact .inl h2
        | mp m => exact .inl h2
        | mi I => exact .inl h2
    · exact lies_get h.2 i b hb
def oldB (n : Nat) : List Nat → Bool
  | [] => true
  | i :: r => (Nat.blt i n || Nat.ble GB i) && oldB n r
theorem oldB_sound {n : Nat} : ∀ {l : List Nat}, oldB n l = true → ∀ i ∈ l, idOk n i
  | j :: r, h, i, hi => by
    simp only [oldB, Bool.and_eq_true, Bool.or_eq_true] at h
    rcases List.mem_cons.1 hi with e | hi
    · subst e
      rcases h.1 with h | h
      · exact .inl (by simpa using h)
      · exact .inr (by simpa using h)
    · exact oldB_sound h.2 i hi
def allRo : List (Nat × ABlk) → Bool
  | [] => true
  | (_, b) :: r => !b.wr && allRo r
theorem allRo_sound : ∀ {hp0 : List (Nat × ABlk)}, allRo hp0 = true → ∀ i b, lk hp0 i = some b → b.wr = false
  | (j, c) :: r, h, i, b, hb => by
    simp only [allRo, Bool.and_eq_true, Bool.not_eq_true'] at h
    simp only [lk] at hb
    split at hb
    · injection hb with hb; subst hb; exact h.1
    · exact allRo_sound h.2 i b hb

/-- Different numbers are handed over. -/
theorem qq_inj {l : List Nat} {n i j : Nat} (hl : nodB l = true) (hG : ∀ k ∈ l, k < GB) (hi : i < l.length ∨ GB ≤ i) (hj : j < l.length ∨ GB ≤ j) (hne : i ≠ j) : qq l n i ≠ qq l n j := by
  have hnd := nodB_sound hl
  intro e
  simp only [qq] at e
  by_cases h1 : GB ≤ i <;> by_cases h2 : GB ≤ j
  · rw [if_pos h1, if_pos h2] at e; exact hne e
  · have hj' : j < l.length := by omega
    rw [if_pos h1, if_neg h2, List.getElem?_eq_getElem hj'] at e
    have := hG _ (List.getElem_mem hj'); simp only at e; omega
  · have hi' : i < l.length := by omega
    rw [if_neg h1, if_pos h2, List.getElem?_eq_getElem hi'] at e
    have := hG _ (List.getElem_mem hi'); simp only at e; omega
  · have hi' : i < l.length := by omega
    have hj' : j < l.length := by omega
    rw [if_neg h1, if_neg h2, List.getElem?_eq_getElem hi', List.getElem?_eq_getElem hj'] at e
    simp only at e
    exact hne ((List.getElem_inj hnd).1 e)

/-- A call that reads alone, in a region that draws its order; it hands back nothing new. -/
theorem CallQ.ro {args : List AV} {hp0 : List (Nat × ABlk)} (l : List Nat) {r : AV} (r' : AV) (h : FDet P f args hp0 l.length r [] l.length) (ha : args.map (AV.ren (qq l s.nx)) = vs) (hb : (oldB s.nx l && allRo hp0 && nodB (hp0.map Prod.fst) && Nat.ble s.nx GB && Nat.ble l.length GB) = true)
    (hl : lies l s.nx s.hp hp0) (hr : r.ren (qq l s.nx) = r') (hk : s.on fun _ _ nx _ _ => kq r' [] nx) : CallQ P f vs s kq := by
  simp only [Bool.and_eq_true] at hb
  obtain ⟨⟨⟨⟨b1, b2⟩, b3⟩, b4⟩, b5⟩ := hb
  have b4 : s.nx ≤ GB := by simpa using b4
  have b5 : l.length ≤ GB := by simpa using b5
  refine callQ_intro args hp0 l r [] l.length [] ⟨h, oldB_sound b1, ha, lies_get hl, ?_, List.nodup_nil, ?_, (fun i b h => by cases h), ⟨Nat.le_refl _, b5⟩, nodB_sound b3, (fun p hp => by cases hp), (fun p hp => by cases hp), by simpa using b4⟩ ?_
  · intro i j b c hi _ _ hw
    rw [allRo_sound b2 i b hi] at hw; cases hw
  · intro i b hi hw
    rw [allRo_sound b2 i b hi] at hw; cases hw
  · rw [AS.on_eq] at hk; simpa [hr] using hk

/-- A call that reads alone and hands back nothing new. -/
theorem CallA.ro {args : List AV} {hp0 : List (Nat × ABlk)} (l : List Nat) {r : AV} (r' : AV) (h : FDet P f args hp0 l.length r [] l.length) (ha : args.map (AV.ren (qq l s.nx)) = vs) (hb : (oldB s.nx l && allRo hp0 && Nat.ble s.nx GB) = true)
    (hl : lies l s.nx s.hp hp0) (hr : r.ren (qq l s.nx) = r') (hk : kk r' s) : CallA P f vs s kk := by
  simp only [Bool.and_eq_true] at hb
  obtain ⟨⟨b1, b2⟩, b4⟩ := hb
  have b4 : s.nx ≤ GB := by simpa using b4
  refine callA_intro (args := args) (hp0 := hp0) (l := l) ⟨h, oldB_sound b1, ha, lies_get hl, ?_, ?_⟩
  · intro i j b c hi _ _ hw
    rw [allRo_sound b2 i b hi] at hw; cases hw
  · rintro r2 hp' k' ⟨rfl, rfl, rfl⟩
    have e : gone l s.nx hp0 s.hp = s.hp := by
      clear h hl
      induction hp0 with
      | nil => rfl
      | cons p hp0 ih =>
        obtain ⟨i, b⟩ := p
        simp only [allRo, Bool.and_eq_true, Bool.not_eq_true'] at b2
        simp only [gone, b2.1]
        exact ih b2.2
    have e2 : s.nx + (l.length - l.length) = s.nx := by omega
    refine ⟨by omega, ?_⟩
    rw [hr, e2, behind, e]; exact hk

/-- A call by a contract that says all. -/
theorem CallA.det {args : List AV} {hp0 : List (Nat × ABlk)} (l : List Nat) {r : AV} {hp1 : List (Nat × ABlk)} {k1 : Nat} (r' : AV) (hp2 : List (Nat × ABlk)) (h : FDet P f args hp0 l.length r hp1 k1) (ha : args.map (AV.ren (qq l s.nx)) = vs)
    (hb : (oldB s.nx l && nodB l && (l.all fun i => Nat.blt i GB) && Nat.ble (s.nx + (k1 - l.length)) GB) = true)
    (hl : lies l s.nx s.hp hp0) (hr : r.ren (qq l s.nx) = r') (hh : behind l s.nx hp0 hp1 (gone l s.nx hp0 s.hp) = hp2) (hk : s.on fun tm hp nx nt k0 => kk r' ⟨tm, hp2, nx + (k1 - l.length), nt, k0⟩) : CallA P f vs s kk := by
  simp only [Bool.and_eq_true] at hb
  obtain ⟨⟨⟨b1, b2⟩, b3⟩, b4⟩ := hb
  have b4 : s.nx + (k1 - l.length) ≤ GB := by simpa using b4
  have b3 : ∀ k ∈ l, k < GB := fun k hk => by simpa using List.all_eq_true.1 b3 k hk
  refine callA_intro (args := args) (hp0 := hp0) (l := l) ⟨h, oldB_sound b1, ha, lies_get hl, ?_, ?_⟩
  · intro i j b c hi hj hne _
    exact qq_inj b2 b3 (lies_get hl i b hi).1 (lies_get hl j c hj).1 hne
  · rintro r2 hp' k' ⟨rfl, rfl, rfl⟩
    exact ⟨b4, by rw [hr, hh]; exact hk⟩

end Go.AH
