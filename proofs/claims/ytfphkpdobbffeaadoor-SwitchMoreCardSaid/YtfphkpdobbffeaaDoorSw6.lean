/-
  The switching game: more never harms; two trees win; who wins moving second has two trees. (Plain.)
-/
import Derived.Test.YtfphkpdobbffeaaDoorSw5
import Derived.Test.YtfphkpdobbffeaaDoorAh6
set_option linter.unusedSimpArgs false
set_option linter.unusedVariables false
namespace Go.Wire
variable {e : Nat → Nat × Nat} {n m s t : Nat}

/-- Whether Short wins, with F free and K kept. -/
def Sw (e : Nat → Nat × Nat) (s t : Nat) : Nat → List Nat → List Nat → Bool → Prop
  | 0, _, K, _ => Jn e K s t
  | n + 1, F, K, true => ∀ i ∈ F, Sw e s t n (F.erase i) K false
  | n + 1, F, K, false => ∃ i ∈ F, Sw e s t n (F.erase i) (i :: K) true
theorem Sw.kept : ∀ {n : Nat} {F K K' : List Nat} {c : Bool}, (∀ i ∈ K, i ∈ K') → Sw e s t n F K c → Sw e s t n F K' c
  | 0, F, K, K', c, hs, h => jn_mono hs h
  | n + 1, F, K, K', true, hs, h => fun i hi => Sw.kept hs (h i hi)
  | n + 1, F, K, K', false, hs, ⟨i, hi, h⟩ => ⟨i, hi, Sw.kept (fun j hj => by
      rcases List.mem_cons.1 hj with rfl | hj
      · exact List.mem_cons_self ..
      · exact List.mem_cons_of_mem _ (hs j hj)) h⟩
theorem Sw.swap {n : Nat} {F K : List Nat} {i j : Nat} {c : Bool} (h : Sw e s t n F (i :: j :: K) c) : Sw e s t n F (j :: i :: K) c := Sw.kept (fun x hx => by
  simp only [List.mem_cons] at hx ⊢
  rcases hx with h | h | h
  · exact .inr (.inl h)
  · exact .inl h
  · exact .inr (.inr h)) h
structure More (e : Nat → Nat × Nat) (s t n : Nat) : Prop where
  to : ∀ {F K : List Nat}, F.length = n → Sw e s t n F K true → Sw e s t n F K false
  keep : ∀ {F K : List Nat} {w : Nat} {c : Bool}, F.length = n + 1 → w ∈ F → Sw e s t (n + 1) F K c → Sw e s t n (F.erase w) (w :: K) c
  cut : ∀ {F K : List Nat} {w : Nat} {c : Bool}, F.length = n + 1 → w ∈ F → Sw e s t n (F.erase w) K c → Sw e s t (n + 1) F K c
theorem one_mem {F : List Nat} {w i : Nat} (h : F.length = 1) (hw : w ∈ F) (hi : i ∈ F) : i = w := by
  obtain ⟨x, rfl⟩ := List.length_eq_one_iff.1 h
  rw [List.mem_singleton.1 hw, List.mem_singleton.1 hi]
theorem erase_in {F : List Nat} {w i : Nat} (hw : w ∈ F) (hi : i ∈ F.erase w) : w ∈ F.erase i := by
  by_cases h : w = i
  · subst h; exact hi
  · exact (List.mem_erase_of_ne h).2 hw
theorem Sw.more (e : Nat → Nat × Nat) (s t : Nat) : ∀ n, More e s t n
  | 0 => by
    have to : ∀ {F K : List Nat}, F.length = 0 → Sw e s t 0 F K true → Sw e s t 0 F K false := fun _ h => h
    refine ⟨to, fun {F K w c} hl hw h => ?_, fun {F K w c} hl hw h => ?_⟩
    · cases c
      · obtain ⟨i, hi, h⟩ := h
        obtain rfl := one_mem hl hw hi
        exact h
      · exact jn_mono (fun j hj => List.mem_cons_of_mem _ hj) (h w hw)
    · cases c
      · exact ⟨w, hw, jn_mono (fun j hj => List.mem_cons_of_mem _ hj) h⟩
      · intro i hi
        exact h
  | n + 1 => by
    have ih := Sw.more e s t n
    have to : ∀ {F K : List Nat}, F.length = n + 1 → Sw e s t (n + 1) F K true → Sw e s t (n + 1) F K false := fun {F K} hl h => by
      cases F with
      | nil => cases hl
      | cons i F => exact ⟨i, List.mem_cons_self .., ih.keep hl (List.mem_cons_self ..) h⟩
    refine ⟨to, fun {F K w c} hl hw h => ?_, fun {F K w c} hl hw h => ?_⟩
    · have hle : (F.erase w).length = n + 1 := by rw [List.length_erase_of_mem hw, hl]; rfl
      cases c
      · obtain ⟨i, hi, h⟩ := h
        by_cases k : i = w
        · subst k; exact to hle h
        · have hiw : i ∈ F.erase w := (List.mem_erase_of_ne k).2 hi
          have hle2 : (F.erase i).length = n + 1 := by rw [List.length_erase_of_mem hi, hl]; rfl
          refine ⟨i, hiw, ?_⟩
          rw [List.erase_comm]
          exact Sw.swap (ih.keep hle2 (erase_in hw hiw) h)
      · intro i hi
        have hiF := List.mem_of_mem_erase hi
        have hle2 : (F.erase i).length = n + 1 := by rw [List.length_erase_of_mem hiF, hl]; rfl
        rw [List.erase_comm]
        exact ih.keep hle2 (erase_in hw hi) (h i hiF)
    · have hle : (F.erase w).length = n + 1 := by rw [List.length_erase_of_mem hw, hl]; rfl
      cases c
      · obtain ⟨i, hi, h⟩ := h
        have hiF := List.mem_of_mem_erase hi
        have hle2 : (F.erase i).length = n + 1 := by rw [List.length_erase_of_mem hiF, hl]; rfl
        refine ⟨i, hiF, ?_⟩
        rw [List.erase_comm] at h
        exact ih.cut hle2 (erase_in hw hi) h
      · intro i hi
        have hle2 : (F.erase i).length = n + 1 := by rw [List.length_erase_of_mem hi, hl]; rfl
        by_cases k : i = w
        · subst k; exact to hle h
        · have hiw : i ∈ F.erase w := (List.mem_erase_of_ne k).2 hi
          have h := h i hiw
          rw [List.erase_comm] at h
          exact ih.cut hle2 (erase_in hw hiw) h
theorem exch {f b : Nat} {l : List Nat} (h : Jn e (f :: l) (e b).1 (e b).2) (hn : ¬ Jn e l (e b).1 (e b).2) : Jn e (b :: l) (e f).1 (e f).2 := by
  have up : ∀ {x y}, Jn e l x y → Jn e (b :: l) x y := fun h => jn_mono (fun j hj => List.mem_cons_of_mem _ hj) h
  have hb : Jn e (b :: l) (e b).1 (e b).2 := jn_mem (List.mem_cons_self ..)
  rcases jn_cons.1 h with h | ⟨h1, h2⟩ | ⟨h1, h2⟩
  · exact absurd h hn
  · exact (up h1).symm.trans (hb.trans (up h2).symm)
  · exact (up h2).trans (hb.symm.trans (up h1))
/-- Two ways to join some places, with no free wire in common. -/
structure SI (e : Nat → Nat × Nat) (X : Nat → Prop) (F K A B : List Nat) : Prop where
  a : ∀ i ∈ A, i ∈ F
  b : ∀ i ∈ B, i ∈ F
  dj : ∀ i ∈ A, i ∉ B
  ae : ∀ i ∈ A, X (e i).1 ∧ X (e i).2
  be : ∀ i ∈ B, X (e i).1 ∧ X (e i).2
  aj : ∀ {u v}, X u → X v → Jn e (K ++ A) u v
  bj : ∀ {u v}, X u → X v → Jn e (K ++ B) u v
theorem SI.swap {X : Nat → Prop} {F K A B : List Nat} (h : SI e X F K A B) : SI e X F K B A := ⟨h.b, h.a, fun i hb ha => h.dj i ha hb, h.be, h.ae, h.bj, h.aj⟩
theorem SI.pass {X : Nat → Prop} {F K A B : List Nat} (h : SI e X F K A B) {b : Nat} : SI e X (F.erase b) (b :: K) (A.filter fun j => decide (j ≠ b)) (B.filter fun j => decide (j ≠ b)) := by
  have key : ∀ {C : List Nat} {u v : Nat}, Jn e (K ++ C) u v → Jn e ((b :: K) ++ C.filter fun j => decide (j ≠ b)) u v := fun {C u v} hj => jn_mono (fun j hj => by
    by_cases k : j = b
    · subst k; exact List.mem_append_left _ (List.mem_cons_self ..)
    · rcases List.mem_append.1 hj with hj | hj
      · exact List.mem_append_left _ (List.mem_cons_of_mem _ hj)
      · exact List.mem_append_right _ (List.mem_filter.2 ⟨hj, decide_eq_true k⟩)) hj
  exact ⟨fun i hi => (List.mem_erase_of_ne (of_decide_eq_true (List.mem_filter.1 hi).2)).2 (h.a i (List.mem_filter.1 hi).1), fun i hi => (List.mem_erase_of_ne (of_decide_eq_true (List.mem_filter.1 hi).2)).2 (h.b i (List.mem_filter.1 hi).1), fun i hi hb => h.dj i (List.mem_filter.1 hi).1 (List.mem_filter.1 hb).1, fun i hi => h.ae i (List.mem_filter.1 hi).1, fun i hi => h.be i (List.mem_filter.1 hi).1, fun hu hv => key (h.aj hu hv), fun hu hv => key (h.bj hu hv)⟩
/-- The reply to a cut wire. -/
theorem SI.reply {X : Nat → Prop} {F K A B : List Nat} (h : SI e X F K A B) {c : Nat} (hc : c ∈ A) (hn : ¬ Jn e (K ++ A.filter fun j => decide (j ≠ c)) (e c).1 (e c).2) : ∃ b ∈ B, b ≠ c ∧ SI e X ((F.erase c).erase b) (b :: K) (A.filter fun j => decide (j ≠ c)) (B.filter fun j => decide (j ≠ b)) := by
  obtain ⟨xc1, xc2⟩ := h.ae c hc
  obtain ⟨A', hA'⟩ : ∃ A', A' = A.filter fun j => decide (j ≠ c) := ⟨_, rfl⟩
  rw [← hA'] at hn ⊢
  have hex : ∃ b ∈ B, ¬ Jn e (K ++ A') (e b).1 (e b).2 := by
    apply Classical.byContradiction
    intro hno
    refine hn (jn_least (Jn.eqv _) (fun i hi => ?_) (h.bj xc1 xc2))
    rcases List.mem_append.1 hi with hi | hi
    · exact jn_mem (List.mem_append_left _ hi)
    · exact Classical.byContradiction fun k => hno ⟨i, hi, k⟩
  obtain ⟨b, hb, hbn⟩ := hex
  have hbc : b ≠ c := fun k => h.dj c hc (k ▸ hb)
  have hcA : ∀ {u v}, Jn e (K ++ A) u v → Jn e (c :: (K ++ A')) u v := fun hj => jn_mono (fun j hj => by
    by_cases k : j = c
    · exact k ▸ List.mem_cons_self ..
    · refine List.mem_cons_of_mem _ ?_
      rcases List.mem_append.1 hj with hj | hj
      · exact List.mem_append_left _ hj
      · exact List.mem_append_right _ (hA' ▸ List.mem_filter.2 ⟨hj, decide_eq_true k⟩)) hj
  obtain ⟨xb1, xb2⟩ := h.be b hb
  have hx := exch (hcA (h.aj xb1 xb2)) hbn
  refine ⟨b, hb, hbc, fun i hi => ?_, fun i hi => ?_, fun i hi hi2 => ?_, fun i hi => ?_, fun i hi => h.be i (List.mem_filter.1 hi).1, fun hu hv => ?_, fun hu hv => ?_⟩
  · rw [hA'] at hi
    obtain ⟨h1, h2⟩ := List.mem_filter.1 hi
    exact (List.mem_erase_of_ne (fun k : i = b => h.dj i h1 (k ▸ hb))).2 ((List.mem_erase_of_ne (of_decide_eq_true h2)).2 (h.a i h1))
  · obtain ⟨h1, h2⟩ := List.mem_filter.1 hi
    exact (List.mem_erase_of_ne (of_decide_eq_true h2)).2 ((List.mem_erase_of_ne (fun k : i = c => h.dj c hc (k ▸ h1))).2 (h.b i h1))
  · rw [hA'] at hi
    exact h.dj i (List.mem_filter.1 hi).1 (List.mem_filter.1 hi2).1
  · rw [hA'] at hi
    exact h.ae i (List.mem_filter.1 hi).1
  · refine jn_least (Jn.eqv _) (fun i hi => ?_) (hcA (h.aj hu hv))
    rcases List.mem_cons.1 hi with rfl | hi
    · exact jn_mono (fun j hj => hj) hx
    · exact jn_mem (List.mem_cons_of_mem _ hi)
  · refine jn_mono (fun j hj => ?_) (h.bj hu hv)
    by_cases k : j = b
    · exact k ▸ List.mem_append_left _ (List.mem_cons_self ..)
    · rcases List.mem_append.1 hj with hj | hj
      · exact List.mem_append_left _ (List.mem_cons_of_mem _ hj)
      · exact List.mem_append_right _ (List.mem_filter.2 ⟨hj, decide_eq_true k⟩)
theorem SI.cutA {X : Nat → Prop} {F K A B : List Nat} (h : SI e X F K A B) {c : Nat} (hc : c ∈ A) (hj : Jn e (K ++ A.filter fun j => decide (j ≠ c)) (e c).1 (e c).2) : SI e X (F.erase c) K (A.filter fun j => decide (j ≠ c)) B := by
  refine ⟨fun i hi => ?_, fun i hi => (List.mem_erase_of_ne (fun k : i = c => h.dj c hc (k ▸ hi))).2 (h.b i hi), fun i hi => h.dj i (List.mem_filter.1 hi).1, fun i hi => h.ae i (List.mem_filter.1 hi).1, h.be, fun hu hv => ?_, h.bj⟩
  · obtain ⟨h1, h2⟩ := List.mem_filter.1 hi
    exact (List.mem_erase_of_ne (of_decide_eq_true h2)).2 (h.a i h1)
  · refine jn_least (Jn.eqv _) (fun i hi => ?_) (h.aj hu hv)
    by_cases k : i = c
    · exact k ▸ hj
    · rcases List.mem_append.1 hi with hi | hi
      · exact jn_mem (List.mem_append_left _ hi)
      · exact jn_mem (List.mem_append_right _ (List.mem_filter.2 ⟨hi, decide_eq_true k⟩))
theorem SI.cutN {X : Nat → Prop} {F K A B : List Nat} (h : SI e X F K A B) {c : Nat} (ha : c ∉ A) (hb : c ∉ B) : SI e X (F.erase c) K A B :=
  ⟨fun i hi => (List.mem_erase_of_ne (fun k : i = c => ha (k ▸ hi))).2 (h.a i hi), fun i hi => (List.mem_erase_of_ne (fun k : i = c => hb (k ▸ hi))).2 (h.b i hi), h.dj, h.ae, h.be, h.aj, h.bj⟩
theorem SI.joined {X : Nat → Prop} {K A B : List Nat} (h : SI e X [] K A B) {u v : Nat} (hu : X u) (hv : X v) : Jn e K u v :=
  jn_mono (fun i hi => by
    rcases List.mem_append.1 hi with hi | hi
    · exact hi
    · exact absurd (h.a i hi) List.not_mem_nil) (h.aj hu hv)
/-- Two trees win. -/
theorem SI.wins {X : Nat → Prop} (hs : X s) (ht : X t) : ∀ (k n : Nat) {F K A B : List Nat}, n ≤ k → F.length = n → SI e X F K A B → Sw e s t n F K true
  | k, 0, F, K, A, B, _, hl, h => by
    obtain rfl := List.length_eq_zero_iff.1 hl
    exact h.joined hs ht
  | 0, n + 1, F, K, A, B, hk, hl, h => by omega
  | k + 1, n + 1, F, K, A, B, hk, hl, h => by
    intro c hc
    have hlc : (F.erase c).length = n := by rw [List.length_erase_of_mem hc, hl]; rfl
    cases n with
    | zero =>
      show Jn e K s t
      have h0 : F = [c] := by
        obtain ⟨x, rfl⟩ := List.length_eq_one_iff.1 hl
        rw [List.mem_singleton.1 hc]
      subst h0
      by_cases hca : c ∈ A
      · refine jn_mono (fun i hi => ?_) (h.bj hs ht)
        rcases List.mem_append.1 hi with hi | hi
        · exact hi
        · have := List.mem_singleton.1 (h.b i hi)
          exact absurd (this ▸ hi) (h.dj c hca)
      · refine jn_mono (fun i hi => ?_) (h.aj hs ht)
        rcases List.mem_append.1 hi with hi | hi
        · exact hi
        · have := List.mem_singleton.1 (h.a i hi)
          exact absurd (this ▸ hi) hca
    | succ n =>
      have go : ∀ {A B : List Nat}, SI e X (F.erase c) K A B → Sw e s t (n + 1) (F.erase c) K false := fun {A B} h2 => by
        cases hF : F.erase c with
        | nil => rw [hF] at hlc; cases hlc
        | cons b G =>
          rw [hF] at h2
          refine ⟨b, List.mem_cons_self .., SI.wins hs ht k n (by omega) ?_ (h2.pass (b := b))⟩
          rw [List.length_erase_of_mem (List.mem_cons_self ..), ← hF, hlc]; rfl
      have two : ∀ {A B : List Nat}, SI e X F K A B → c ∈ A → Sw e s t (n + 1) (F.erase c) K false := fun {A B} h2 hca => by
        by_cases hj : Jn e (K ++ A.filter fun j => decide (j ≠ c)) (e c).1 (e c).2
        · exact go (h2.cutA hca hj)
        · obtain ⟨b, hb, hbc, h3⟩ := h2.reply hca hj
          have hbF : b ∈ F.erase c := (List.mem_erase_of_ne hbc).2 (h2.b b hb)
          exact ⟨b, hbF, SI.wins hs ht k n (by omega) (by rw [List.length_erase_of_mem hbF, hlc]; rfl) h3⟩
      by_cases hca : c ∈ A
      · exact two h hca
      · by_cases hcb : c ∈ B
        · exact two h.swap hcb
        · exact go (h.cutN hca hcb)
end Go.Wire

/-
  Lehman's theorem: who wins moving second has two trees. (Plain.)
-/
namespace Go.Wire
variable {e : Nat → Nat × Nat} {n m s t z : Nat}

/-- Cut wins, with the other one to move: what is free is two forests with the wire between the ends (z), and wires that join nothing more. -/
structure CS (e : Nat → Nat × Nat) (n z : Nat) (F K A B L : List Nat) : Prop where
  k : ∀ i ∈ K, Jn e L (e i).1 (e i).2
  f : ∀ i ∈ F, i ∈ A ∨ i ∈ B ∨ Jn e L (e i).1 (e i).2
  a : Fo e n (z :: (A ++ L))
  b : Fo e n (z :: (B ++ L))
/-- Cut to move: one wire may be too much. -/
structure CC (e : Nat → Nat × Nat) (n z : Nat) (F K A B L : List Nat) : Prop where
  k : ∀ i ∈ K, Jn e L (e i).1 (e i).2
  f : ∀ i ∈ F, i ∈ A ∨ i ∈ B ∨ Jn e L (e i).1 (e i).2
  a : Fo e n (z :: (A ++ L))
  b : Fo e n (z :: (B ++ L)) ∨ ∃ b ∈ B, Fo e n (z :: (B.erase b ++ L))
theorem CS.swap {F K A B L : List Nat} (h : CS e n z F K A B L) : CS e n z F K B A L := ⟨h.k, fun i hi => by
  rcases h.f i hi with h | h | h
  · exact .inr (.inl h)
  · exact .inl h
  · exact .inr (.inr h), h.b, h.a⟩
/-- Two lists without a common wire, forests, that join the same places, the ends among them. -/
structure Pair (e : Nat → Nat × Nat) (n m s t : Nat) (A B : List Nat) : Prop where
  fa : Fo e n A
  fb : Fo e n B
  la : ∀ i ∈ A, i < m
  lb : ∀ i ∈ B, i < m
  dj : ∀ i ∈ A, i ∉ B
  same : ∀ u v, Jn e A u v ↔ Jn e B u v
  st : Jn e A s t
theorem Fo.same {A B C : List Nat} (hA : Fo e n (C ++ A)) (hB : Fo e n B) (h : ∀ u v, Jn e A u v ↔ Jn e B u v) : Fo e n (C ++ B) := by
  have hin : In e n (C ++ B) := fun i hi => by
    rcases List.mem_append.1 hi with hi | hi
    · exact hA.1 i (List.mem_append_left _ hi)
    · exact hB.1 i hi
  have hA0 : Fo e n A := hA.sub (List.sublist_append_right ..)
  have key : ∀ {A B : List Nat}, (∀ u v, Jn e A u v ↔ Jn e B u v) → ∀ {u v}, Jn e (C ++ A) u v → Jn e (C ++ B) u v := fun {A B} h {u v} hj => jn_least (Jn.eqv _) (fun i hi => by
    rcases List.mem_append.1 hi with hi | hi
    · exact jn_mem (List.mem_append_left _ hi)
    · exact jn_mono (fun j hj => List.mem_append_right _ hj) ((h _ _).1 (jn_mem hi))) hj
  have h1 : cp e n (C ++ A) = cp e n (C ++ B) := cp_congr fun u v => ⟨key h, key fun u v => (h u v).symm⟩
  have h2 : cp e n A = cp e n B := cp_congr h
  have h3 := hA.2
  have h4 := hA0.2
  have h5 := hB.2
  rw [List.length_append] at h3
  exact ⟨hin, by rw [← h1, List.length_append]; omega⟩
end Go.Wire

/-
  Wires as pairs of places: what one made short does to them. (Plain.)
-/
namespace Go.Wire

abbrev Wr := Nat × Nat

/-- What a place becomes when b becomes a. -/
def plc (a b x : Nat) : Nat := if x = b then a else if b < x then x - 1 else x
def cw (a b : Nat) (w : Wr) : Wr := (min (plc a b w.1) (plc a b w.2), max (plc a b w.1) (plc a b w.2))

/-- The wires that are left when one is made short. -/
def shW (a b : Nat) (W : List Wr) : List Wr := (W.filter fun w => decide (plc a b w.1 ≠ plc a b w.2)).map (cw a b)
end Go.Wire

/-
  Wires as pairs of places: a wire made short; trees with and without a wire; two trees as lists of wires. (Plain.)
-/
namespace Go.Wire

theorem lb_map {α : Type} (e : α → Nat × Nat) : ∀ (l : List α) (u : Nat), lb (id : Wr → Wr) (l.map e) u = lb e l u
  | [], _ => rfl
  | i :: l, u => by
    have h1 := lb_map e l u
    have h2 := lb_map e l (e i).1
    have h3 := lb_map e l (e i).2
    show (if lb id (l.map e) u = max (lb id (l.map e) (e i).1) (lb id (l.map e) (e i).2) then min (lb id (l.map e) (e i).1) (lb id (l.map e) (e i).2) else lb id (l.map e) u) = _
    rw [h1, h2, h3]; rfl
theorem plc_eq {a b u v : Nat} (hab : a < b) : plc a b u = plc a b v ↔ u = v ∨ (u = a ∧ v = b) ∨ (u = b ∧ v = a) := by
  unfold plc
  split <;> split <;> (try split) <;> (try split) <;> omega
theorem plc_sur {a b : Nat} (hab : a < b) (y : Nat) : ∃ u, plc a b u = y := by
  by_cases h : y < b
  · exact ⟨y, by unfold plc; rw [if_neg (by omega), if_neg (by omega)]⟩
  · exact ⟨y + 1, by unfold plc; rw [if_neg (by omega), if_pos (by omega)]; omega⟩
theorem plc_lt {a b n x : Nat} (hab : a < b) (hb : b < n) (hx : x < n) : plc a b x < n - 1 := by
  unfold plc
  split
  · omega
  · split <;> omega
theorem cw_lt {a b n : Nat} {w : Wr} (hab : a < b) (hb : b < n) (h : w.1 < n ∧ w.2 < n) : (cw a b w).1 < n - 1 ∧ (cw a b w).2 < n - 1 := by
  have h1 := plc_lt hab hb h.1
  have h2 := plc_lt hab hb h.2
  unfold cw
  exact ⟨by show min _ _ < _; omega, by show max _ _ < _; omega⟩
theorem jn_ends {l : List Wr} {a b : Nat} (w : Wr) : Jn id l (cw a b w).1 (cw a b w).2 ↔ Jn id l (plc a b w.1) (plc a b w.2) := by
  show Jn id l (min (plc a b w.1) (plc a b w.2)) (max (plc a b w.1) (plc a b w.2)) ↔ _
  rcases Nat.le_total (plc a b w.1) (plc a b w.2) with h | h
  · rw [Nat.min_eq_left h, Nat.max_eq_right h]
  · rw [Nat.min_eq_right h, Nat.max_eq_left h]
    exact ⟨Jn.symm, Jn.symm⟩
theorem jn_short {a b : Nat} (hab : a < b) {L : List Wr} {u v : Nat} : Jn id (L.map (cw a b)) (plc a b u) (plc a b v) ↔ Jn id (L ++ [(a, b)]) u v := by
  have hw : Jn (id : Wr → Wr) (L ++ [(a, b)]) a b := jn_mem (e := (id : Wr → Wr)) (i := (a, b)) (by simp)
  have hsame : ∀ {u v}, plc a b u = plc a b v → Jn (id : Wr → Wr) (L ++ [(a, b)]) u v := fun {u v} h => by
    rcases (plc_eq hab).1 h with rfl | ⟨rfl, rfl⟩ | ⟨rfl, rfl⟩
    · exact Jn.refl _ _
    · exact hw
    · exact hw.symm
  constructor
  · intro h
    refine jn_least (R := fun x y => ∀ u v, plc a b u = x → plc a b v = y → Jn (id : Wr → Wr) (L ++ [(a, b)]) u v) ⟨fun x u v hu hv => hsame (hu.trans hv.symm), fun h u v hu hv => (h v u hv hu).symm, fun {x y z} h1 h2 u v hu hv => ?_⟩ (fun w hw => ?_) h u v rfl rfl
    · obtain ⟨q, hq⟩ := plc_sur hab y
      exact (h1 u q hu hq).trans (h2 q v hq hv)
    · obtain ⟨x, hx, rfl⟩ := List.mem_map.1 hw
      have hj : Jn (id : Wr → Wr) (L ++ [(a, b)]) x.1 x.2 := jn_mem (e := (id : Wr → Wr)) (List.mem_append_left _ hx)
      show ∀ u v, plc a b u = min (plc a b x.1) (plc a b x.2) → plc a b v = max (plc a b x.1) (plc a b x.2) → _
      intro u v hu hv
      rcases Nat.le_total (plc a b x.1) (plc a b x.2) with h | h
      · rw [Nat.min_eq_left h] at hu
        rw [Nat.max_eq_right h] at hv
        exact (hsame hu).trans (hj.trans (hsame hv).symm)
      · rw [Nat.min_eq_right h] at hu
        rw [Nat.max_eq_left h] at hv
        exact (hsame hu).trans (hj.symm.trans (hsame hv).symm)
  · refine jn_least (R := fun u v => Jn id (L.map (cw a b)) (plc a b u) (plc a b v)) ⟨fun _ => rfl, Eq.symm, Eq.trans⟩ (fun w hw => ?_)
    rcases List.mem_append.1 hw with hw | hw
    · exact (jn_ends w).1 (jn_mem (e := (id : Wr → Wr)) (List.mem_map.2 ⟨w, hw, rfl⟩))
    · rw [List.mem_singleton.1 hw]
      show Jn id _ (plc a b a) (plc a b b)
      rw [(plc_eq hab).2 (.inr (.inl ⟨rfl, rfl⟩))]; rfl
theorem fo_short {a b n : Nat} (hab : a < b) (hb : b < n) : ∀ {L : List Wr}, In (id : Wr → Wr) n L → (Fo id (n - 1) (L.map (cw a b)) ↔ Fo id n (L ++ [(a, b)]))
  | [], _ => by
    refine ⟨fun _ => (fo_cons (e := (id : Wr → Wr)) (i := (a, b)) ⟨by show a < n; omega, hb⟩).2 ⟨Fo.nil n, fun h => ?_⟩, fun _ => Fo.nil _⟩
    have : a = b := h
    omega
  | w :: L, h => by
    have ih := fo_short hab hb h.tail
    have hw := h w (List.mem_cons_self ..)
    show Fo id (n - 1) (cw a b w :: L.map (cw a b)) ↔ Fo id n (w :: (L ++ [(a, b)]))
    refine (fo_cons (e := (id : Wr → Wr)) (i := cw a b w) (cw_lt hab hb hw)).trans (Iff.trans ?_ (fo_cons (e := (id : Wr → Wr)) hw).symm)
    refine and_congr ih (not_congr ?_)
    exact (jn_ends w).trans (jn_short hab)

/-- A tree on all places. -/
def treeB (n : Nat) (L : List Wr) : Bool := decide (cp id n L + L.length = n) && decide (L.length + 1 = n)
/-- How many choices of wires there are, with some chosen before. -/
def cS (P : List Wr → Bool) : List Wr → List Wr → Nat
  | [], L => if P L then 1 else 0
  | w :: W, L => cS P W L + cS P W (w :: L)
/-- Two trees, as lists of wires. -/
structure PairL (n s t : Nat) (W A B C : List Wr) : Prop where
  sub : (A ++ (B ++ C)).Perm W
  fa : Fo (id : Wr → Wr) n A
  fb : Fo (id : Wr → Wr) n B
  same : ∀ u v, Jn (id : Wr → Wr) A u v ↔ Jn (id : Wr → Wr) B u v
  st : Jn (id : Wr → Wr) A s t
theorem PairL.perm {n s t : Nat} {W W' A B C : List Wr} (h : PairL n s t W A B C) (hp : W.Perm W') : PairL n s t W' A B C := ⟨h.sub.trans hp, h.fa, h.fb, h.same, h.st⟩
/-- A wire of one tree is cut, and one of the other tree is made short. -/
theorem PairL.short {n s t a b : Nat} {W A B C : List Wr} (hab : a < b) (hb : b < n) (hn : In (id : Wr → Wr) n C) (sub : (A ++ (B ++ C)).Perm W) (fa : Fo (id : Wr → Wr) n (A ++ [(a, b)])) (fb : Fo (id : Wr → Wr) n (B ++ [(a, b)])) (same : ∀ u v, Jn (id : Wr → Wr) (A ++ [(a, b)]) u v ↔ Jn (id : Wr → Wr) (B ++ [(a, b)]) u v) (st : Jn (id : Wr → Wr) (A ++ [(a, b)]) s t) : PairL (n - 1) (plc a b s) (plc a b t) (shW a b W) (A.map (cw a b)) (B.map (cw a b)) (shW a b C) := by
  have key : ∀ {A : List Wr}, Fo (id : Wr → Wr) n (A ++ [(a, b)]) → A.filter (fun w => decide (plc a b w.1 ≠ plc a b w.2)) = A := fun {A} h => by
    refine List.filter_eq_self.2 fun w hw => decide_eq_true fun k => ?_
    have hp : (A ++ [(a, b)]).Perm (w :: (A.erase w ++ [(a, b)])) := (List.perm_cons_erase hw).append_right _
    refine (h.perm hp).head ((jn_short (L := A.erase w) hab).1 ?_)
    show Jn id _ (plc a b w.1) (plc a b w.2)
    rw [k]; rfl
  refine ⟨?_, (fo_short hab hb (fun w hw => fa.1 w (List.mem_append_left _ hw))).2 fa, (fo_short hab hb (fun w hw => fb.1 w (List.mem_append_left _ hw))).2 fb, fun x y => ?_, (jn_short hab).2 st⟩
  · have := (sub.filter fun w => decide (plc a b w.1 ≠ plc a b w.2)).map (cw a b)
    rw [List.filter_append, List.filter_append, key fa, key fb, List.map_append, List.map_append] at this
    exact this
  · obtain ⟨u, rfl⟩ := plc_sur hab x
    obtain ⟨v, rfl⟩ := plc_sur hab y
    rw [jn_short hab, jn_short hab]
    exact same u v
end Go.Wire

/-
  Plain: the games' wires as wires that join places; the number of trees as choices; two trees; who wins.
-/
namespace Go.Proofs.YtfphkpdobbffeaaDoor
open Go Go.AH Go.Wire
set_option maxRecDepth 100000
set_option maxHeartbeats 1000000

def eg (g : Gm) (i : Nat) : Nat × Nat := g.ws.getD i (0, 0)
theorem root_fold {g : Gm} (hg : g.ok) : ∀ (l : List Nat), (∀ i ∈ l, i < g.ws.length) → ∀ u, u < 8 → root (((l.reverse).map Int.ofNat).foldl (joinF g) (aloneSt 8)) u = Wire.lb (eg g) l u
  | [], _, u, hu => alone_root hu
  | i :: l, h, u, hu => by
    have he := hg.ends i (h i (List.mem_cons_self ..))
    have h8 := hg.n8
    have ih := root_fold hg l fun j hj => h j (List.mem_cons_of_mem _ hj)
    have hG : Grp (((l.reverse).map Int.ofNat).foldl (joinF g) (aloneSt 8)) := Grp.fold hg _ _ Grp.alone fun y hy => by
      obtain ⟨j, hj, rfl⟩ := List.mem_map.1 hy
      exact h j (List.mem_cons_of_mem _ (List.mem_reverse.1 hj))
    rw [List.reverse_cons, List.map_append, List.foldl_append]
    show root (joinL _ (g.ws.getD i (0, 0)).1 (g.ws.getD i (0, 0)).2) u = _
    rw [root_joinL hG (by omega) (by omega) u hu, ih u hu, ih _ (show (g.ws.getD i (0, 0)).1 < 8 by omega), ih _ (show (g.ws.getD i (0, 0)).2 < 8 by omega)]
    rfl
theorem memN_lt {k n : Nat} (hk : k ≤ 10) (hn : n < 2 ^ k) {i : Nat} (hi : i ∈ memN n) : i < k := lt_len hn (List.mem_filter.1 hi).2
theorem memN_mem {n i : Nat} (hn : n < 1024) : i ∈ memN n ↔ n.testBit i = true := by
  rw [memN, List.mem_filter, List.mem_range]
  exact ⟨fun h => h.2, fun h => ⟨lt_len (k := 10) hn h, h⟩⟩
theorem memN_nodup (n : Nat) : (memN n).Nodup := List.Nodup.sublist List.filter_sublist List.nodup_range
theorem ws1024 {g : Gm} (hg : g.ok) : 2 ^ g.ws.length ≤ 1024 := Nat.pow_le_pow_right (by omega) hg.len
theorem root_lb {g : Gm} (hg : g.ok) {a : Nat} (ha : a < 2 ^ g.ws.length) {u : Nat} (hu : u < 8) : root (keptL g a) u = Wire.lb (eg g) (memN a).reverse u := by
  rw [← root_fold hg (memN a).reverse (fun i hi => memN_lt hg.len ha (List.mem_reverse.1 hi)) u hu, List.reverse_reverse]; rfl
theorem root_jn {g : Gm} (hg : g.ok) {a : Nat} (ha : a < 2 ^ g.ws.length) {u v : Nat} (hu : u < 8) (hv : v < 8) : root (keptL g a) u = root (keptL g a) v ↔ Wire.Jn (eg g) (memN a) u v := by
  rw [root_lb hg ha hu, root_lb hg ha hv]
  exact jn_perm (List.reverse_perm _)
/-- Who wins, as a game with wires. -/
theorem memN_off {f i : Nat} (hf : f < 1024) (hi : i < 10) : memN (offN f i) = (memN f).erase i := by
  rw [List.Nodup.erase_eq_filter (memN_nodup f), memN, memN, List.filter_filter]
  refine List.filter_congr fun j _ => ?_
  rw [offN_bit hf hi, Bool.and_comm]
  congr 1
  by_cases h : j = i <;> simp [h]
theorem joined_jn {g : Gm} (hg : g.ok) {k : Nat} (hk : k < 2 ^ g.ws.length) : joinedB g k = true ↔ Wire.Jn (eg g) (memN k) g.s g.t := by
  have h8 := hg.n8
  have h1 := hg.s
  have h2 := hg.t
  rw [joinedB, decide_eq_true_eq]
  exact root_jn hg hk (by omega) (by omega)
theorem WR_Sw {g : Gm} (hg : g.ok) : ∀ n f k c, pop f = n → f < 2 ^ g.ws.length → k < 2 ^ g.ws.length → (WR g n f k c = true ↔ Sw (eg g) g.s g.t n (memN f) (memN k) c) := by
  have hp := ws1024 hg
  intro n
  induction n with
  | zero => exact fun f k c _ _ hk => joined_jn hg hk
  | succ n ih =>
    intro f k c hn hf hk
    have h0 : f ≠ 0 := fun h => by
      subst h
      have h0 : pop 0 = 0 := by decide
      omega
    have hoff : ∀ i ∈ memN f, pop (offN f i) = n ∧ offN f i < 2 ^ g.ws.length ∧ k ||| 2 ^ i < 2 ^ g.ws.length := fun i hi => by
      have h1 := off_ok f (by omega) i hi
      have h2 := memN_lt hg.len hf hi
      exact ⟨by omega, by omega, or_lt hk ((Nat.pow_lt_pow_iff_right (by omega)).2 h2)⟩
    rw [WR, if_neg h0]
    cases c
    · rw [Bool.bne_false, List.any_eq_true]
      show _ ↔ ∃ i ∈ memN f, Sw (eg g) g.s g.t n ((memN f).erase i) (i :: memN k) true
      constructor
      · rintro ⟨w, hw, h⟩
        obtain ⟨i, hi, rfl⟩ := List.mem_map.1 hw
        obtain ⟨h1, h2, h3⟩ := hoff i hi
        have h : WR g n (offN f i) (k ||| 2 ^ i) true = true := by simpa using h
        refine ⟨i, hi, ?_⟩
        rw [ih _ _ _ h1 h2 h3, memN_off (by omega) (by have := memN_lt hg.len hf hi; have := hg.len; omega)] at h
        refine Sw.kept (fun j hj => ?_) h
        rw [memN_mem (by omega), or_bit] at hj
        rw [List.mem_cons, memN_mem (by omega)]
        simp only [Bool.or_eq_true, decide_eq_true_eq] at hj
        exact hj.symm
      · rintro ⟨i, hi, h⟩
        obtain ⟨h1, h2, h3⟩ := hoff i hi
        refine ⟨(i : Int), List.mem_map.2 ⟨i, hi, rfl⟩, ?_⟩
        show (WR g n (offN f i) (k ||| 2 ^ i) true != false) = true
        rw [Bool.bne_false, ih _ _ _ h1 h2 h3, memN_off (by omega) (by have := memN_lt hg.len hf hi; have := hg.len; omega)]
        refine Sw.kept (fun j hj => ?_) h
        rw [memN_mem (by omega), or_bit]
        rw [List.mem_cons, memN_mem (by omega)] at hj
        simp only [Bool.or_eq_true, decide_eq_true_eq]
        exact hj.symm
    · rw [Bool.bne_true, Bool.not_eq_true', List.any_eq_false]
      show _ ↔ ∀ i ∈ memN f, Sw (eg g) g.s g.t n ((memN f).erase i) (memN k) false
      constructor
      · intro h i hi
        obtain ⟨h1, h2, h3⟩ := hoff i hi
        have h4 := h (i : Int) (List.mem_map.2 ⟨i, hi, rfl⟩)
        have h4 : WR g n (offN f i) k false = true := by simpa using h4
        rw [ih _ _ _ h1 h2 hk, memN_off (by omega) (by have := memN_lt hg.len hf hi; have := hg.len; omega)] at h4
        exact h4
      · intro h w hw
        obtain ⟨i, hi, rfl⟩ := List.mem_map.1 hw
        obtain ⟨h1, h2, h3⟩ := hoff i hi
        have h4 := h i hi
        rw [← memN_off (by omega) (by have := memN_lt hg.len hf hi; have := hg.len; omega), ← ih _ _ _ h1 h2 hk] at h4
        show ¬ (WR g n (offN f i) k false != true) = true
        rw [h4]; simp
theorem W_Sw {g : Gm} (hg : g.ok) {f k : Nat} (c : Bool) (hf : f < 2 ^ g.ws.length) (hk : k < 2 ^ g.ws.length) : W g f k c = true ↔ Sw (eg g) g.s g.t (memN f).length (memN f) (memN k) c := by
  rw [W_WR hg (pop f) f k c (Nat.le_refl _) hf hk, WR_Sw hg (pop f) f k c rfl hf hk]; rfl
/-! Two trees. -/
def bm : List Nat → Nat
  | [] => 0
  | i :: l => bm l ||| 2 ^ i
/-! Lehman. -/
theorem full_mem {m : Nat} (hm : m ≤ 10) : memN (2 ^ m - 1) = List.range m := by
  rw [memN, range_filter _ 10 hm fun i hi => by rw [Nat.testBit_two_pow_sub_one]; exact decide_eq_false (by omega)]
  refine List.filter_eq_self.2 fun i hi => ?_
  rw [Nat.testBit_two_pow_sub_one]
  exact decide_eq_true (List.mem_range.1 hi)
/-- One wire more, between the ends. -/
def ez (g : Gm) (i : Nat) : Nat × Nat := if i = g.ws.length then (g.s, g.t) else eg g i
end Go.Proofs.YtfphkpdobbffeaaDoor

/-
  Contracts: a copy of wires, one wire taken away; the game without a wire, by the program.
-/
namespace Go.Proofs.YtfphkpdobbffeaaDoor
open Go Go.AH
set_option maxRecDepth 100000
set_option maxHeartbeats 1000000

/-- The game without a wire. -/
def lessG (g : Gm) (w : Nat) : Gm := ⟨g.n, g.s, g.t, g.ws.take w ++ g.ws.drop (w + 1)⟩
theorem game_ends {g : Gm} (h : g.game) : g.s ≠ g.t := by
  have h1 := h.1
  unfold bad0 at h1
  omega
theorem clone_spec {ws : List (Nat × Nat)} (h : 0 < ws.length) (h10 : ws.length ≤ 10) : FDet Tryd.prog 79 [.c (.rs 0 0 ws.length)] [(0, .ro (ints (fl ws)))] 1 (.c (.row 1 ws.length)) [(1, .row 60 2 (ints (fl ws)))] 2 := by
  have hl : (ints (fl ws)).length = ws.length * 2 := by rw [ints_len, fl_len]
  have ht : ((ints (fl ws)).drop 0).take (ws.length * 2) = ints (fl ws) := by rw [List.drop_zero, ← hl, List.take_length]
  refine FSpec.of_body tok true Tryd.func79 rfl (by kernel_rfl) (by decide) (by simp [tupA, hpLt, tmLt, AV.lt, AE.lt, AC.lt, LL_cons, LL_nil, idOk, ABlk.lt, ints_LL, GB, tab64_LL, gC, wB, giC, noneB, gst, tC, pC, gN, gR, rC, rB]) (by simp [tupA, hpLt, tmLt, AV.lt, AE.lt, AC.lt, LL_cons, LL_nil, idOk, ABlk.lt, ints_LL, GB, tab64_LL, gC, wB, giC, noneB, gst, tC, pC, gN, gR, rC, rB]) (by show 1 ≤ _; decide) ?_
  refine Wk.on ?_
  refine ⟨by rw [hl]; show 0 + ws.length * 2 ≤ _; omega, ?_⟩
  refine Wk.on ?_
  refine ⟨⟨Nat.le_of_ble_eq_true rfl, by show 0 < 0 + ws.length; omega, Nat.le_of_ble_eq_true rfl, by show ((0 + ws.length : Nat) : Int) * 16 ≤ _; omega, by show 0 + ws.length ≤ _; omega⟩, ?_⟩
  rw [show (((rep 0 [AC.int .i64 0, AC.int .i64 0]).drop 0).take (0 * 2) ++ ((ints (fl ws)).drop 0).take (ws.length * 2)) = ints (fl ws) from ht, Nat.zero_add]
  refine Wk.on ?_
  exact AH.Fin.new [2] _ _ ⟨rfl, rfl, rfl⟩ rfl ⟨by show some _ = some _; exact congrArg (fun l => some (ABlk.row 60 2 l)) (ints_ren _ _).symm, trivial⟩ rfl (by simp [tupA, hpLt, tmLt, AV.lt, AE.lt, AC.lt, LL_cons, LL_nil, idOk, ABlk.lt, ints_LL, GB, tab64_LL, gC, wB, giC, noneB, gst, tC, pC, gN, gR, rC, rB]) (by simp [tupA, hpLt, tmLt, AV.lt, AE.lt, AC.lt, LL_cons, LL_nil, idOk, ABlk.lt, ints_LL, GB, tab64_LL, gC, wB, giC, noneB, gst, tC, pC, gN, gR, rC, rB])
theorem openWire_ok {g : Gm} (hg : g.game) {i : Nat} (hi : i < g.ws.length) : FDet Tryd.prog 77 [.g (gC g 0), .c (.int .i64 i)] [(0, wB g)] 1 (.c (.int .i64 0)) [] 1 := by
  have hc := check_ok hg
  refine FSpec.of_body tok true Tryd.func77 rfl (by kernel_rfl) (by decide) (by simp [tupA, hpLt, tmLt, AV.lt, AE.lt, AC.lt, LL_cons, LL_nil, idOk, ABlk.lt, ints_LL, GB, tab64_LL, gC, wB, giC, noneB, gst, tC, pC, gN, gR, rC, rB]) (by simp [tupA, hpLt, tmLt, AV.lt, AE.lt, AC.lt, LL_cons, LL_nil, idOk, ABlk.lt, ints_LL, GB, tab64_LL, gC, wB, giC, noneB, gst, tC, pC, gN, gR, rC, rB]) (by show 2 ≤ _; decide) ?_
  refine Wk.on ?_
  refine CallA.ro [0] (.c (.int .i64 0)) (hc) (by first | rfl | exact congrArg AV.g (ints_ren _ _) | (simp [ints_ren, AV.ren, ABlk.ren, AC.ren, AE.ren, qq]; done)) rfl (by (repeat (first | exact trivial | refine ⟨⟨(by first | exact .inl (by decide) | exact .inr (by decide)), (by first | (refine Or.inl ?_; first | rfl | exact congrArg some (ints_ren _ _).symm | exact congrArg ABlk.own (ints_ren _ _).symm | exact congrArg some (tab64_ren _).symm | exact congrArg (ABlk.row _ _) (ints_ren _ _).symm) | rfl | exact congrArg some (ints_ren _ _).symm | exact congrArg ABlk.own (ints_ren _ _).symm | exact congrArg some (tab64_ren _).symm | exact congrArg (ABlk.row _ _) (ints_ren _ _).symm | exact Or.inr ⟨rfl, rfl⟩)⟩, ?_⟩))) (by first | rfl | exact congrArg AV.g (ints_ren _ _) | (simp [ints_ren, AV.ren, ABlk.ren, AC.ren, AE.ren, qq]; done)) ?_
  refine Wk.on ?_
  rw [decide_eq_false (show ¬ ((i : Nat) : Int) < 0 by omega)]
  refine Wk.on ?_
  rw [decide_eq_false (show ¬ ((g.ws.length : Nat) : Int) ≤ ((i : Nat) : Int) by omega)]
  refine Wk.on ?_
  exact AH.Fin.nil [] ⟨rfl, rfl, rfl⟩ (by first | exact trivial | (simp [tupA, hpLt, tmLt, AV.lt, AE.lt, AC.lt, LL_cons, LL_nil, idOk, ABlk.lt, ints_LL, GB, tab64_LL, gC, wB, giC, noneB, gst, tC, pC, gN, gR, rC, rB]; done) | (simp [tupA, hpLt, tmLt, AV.lt, AE.lt, AC.lt, LL_cons, LL_nil, idOk, ABlk.lt, ints_LL, GB, tab64_LL, gC, wB, giC, noneB, gst, tC, pC, gN, gR, rC, rB, rdn, wrn]; done)) trivial trivial rfl (by simp [GB])
theorem lessG_len {g : Gm} {w : Nat} (hw : w < g.ws.length) : (lessG g w).ws.length = g.ws.length - 1 := by
  show (g.ws.take w ++ g.ws.drop (w + 1)).length = _
  rw [List.length_append, List.length_take, List.length_drop]; omega
theorem cutZ {M Z P : List AC} {k : Nat} (hM : M.length = k) (hZ : Z.length ≤ 2) : (M ++ Z).take k ++ P ++ (M ++ Z).drop (k + 2) = M ++ P := by
  rw [← hM, List.take_left, List.drop_of_length_le (by rw [List.length_append]; omega), List.append_nil]
/-- One wire taken away: what lies in the row then. -/
theorem del_cells (W : List (Nat × Nat)) (i d : Nat) (hd : W.length = i + 1 + d) (P : List AC) : ((ints (fl W)).take (i * 2) ++ ((ints (fl W)).drop ((i + 1) * 2)).take (d * 2) ++ (ints (fl W)).drop (i * 2 + d * 2)).take ((i + d) * 2) ++ P ++ ((ints (fl W)).take (i * 2) ++ ((ints (fl W)).drop ((i + 1) * 2)).take (d * 2) ++ (ints (fl W)).drop (i * 2 + d * 2)).drop ((i + d) * 2 + 2) = ints (fl (W.take i ++ W.drop (i + 1))) ++ P := by
  have hl : (ints (fl W)).length = W.length * 2 := by rw [ints_len, fl_len]
  have e1 : (ints (fl W)).take (i * 2) = ints (fl (W.take i)) := by rw [fl_take]; simp [ints]
  have e2 : ((ints (fl W)).drop ((i + 1) * 2)).take (d * 2) = ints (fl (W.drop (i + 1))) := by
    rw [List.take_of_length_le (by rw [List.length_drop, hl]; omega), fl_drop]; simp [ints]
  have e3 : ints (fl (W.take i)) ++ ints (fl (W.drop (i + 1))) = ints (fl (W.take i ++ W.drop (i + 1))) := by simp [ints, fl]
  rw [e1, e2, e3]
  exact cutZ (by rw [ints_len, fl_len, List.length_append, List.length_take, List.length_drop]; omega) (by rw [List.length_drop, hl]; omega)
theorem delete_spec (W : List (Nat × Nat)) (hW : W.length ≤ 10) (i : Nat) (hi : i < W.length) : FDet Tryd.prog 78 [.c (.row 0 W.length), .c (.int .i64 i), .c (.int .i64 ((i : Int) + 1))] [(0, .row 60 2 (ints (fl W)))] 1 (.c (.row 0 (W.length - 1))) [(0, .row 60 2 (ints (fl (W.take i ++ W.drop (i + 1)))))] 1 := by
  have hl : (ints (fl W)).length = W.length * 2 := by rw [ints_len, fl_len]
  obtain ⟨d, hd⟩ : ∃ d, W.length = i + 1 + d := ⟨W.length - (i + 1), by omega⟩
  have hdc := del_cells W i d hd (ints [0, 0])
  refine FDet.cutRow (ys := ints [0, 0]) ?_
  have hcat : ints (fl (W.take i ++ W.drop (i + 1))) ++ ints [0, 0] = ints (fl (W.take i ++ W.drop (i + 1)) ++ [0, 0]) := by simp [ints]
  rw [hcat] at hdc ⊢
  have hDL : LL 1 (ints (fl (W.take i ++ W.drop (i + 1)) ++ [0, 0])) := ints_LL _ _
  generalize ints (fl (W.take i ++ W.drop (i + 1)) ++ [0, 0]) = D at *
  generalize hX : ints (fl W) = X at *
  have hXL : LL 1 X := hX ▸ ints_LL _ _
  clear hX hcat
  rw [hd] at hl hW ⊢
  clear hd hi
  have e2 : i + 1 + d - (i + 1) = d := by omega
  refine FSpec.capRow (z := 2) rfl (Go.Proofs.enters_of Tryd.func78 (by kernel_rfl) rfl) fun c hc1 hc2 => ?_
  refine FDet.post (r := .c (.rp 0 0 (i + 1 + d - 1) c 2)) (hq := [(0, .row 60 2 D)]) (k' := 1) ?_ _ _ ⟨rfl, rfl, rfl⟩ ⟨⟨⟨rfl, rfl⟩, .inl rfl⟩, trivial⟩ (by simp [tupA, hpLt, tmLt, AV.lt, AE.lt, AC.lt, LL_cons, LL_nil, idOk, ABlk.lt, ints_LL, GB, tab64_LL, gC, wB, giC, noneB, gst, tC, pC, gN, gR, rC, rB]) ⟨.inl (by decide), hDL, trivial⟩ rfl
  show FDet Tryd.prog 78 [.c (.rp 0 0 (i + 1 + d) c 2), .c (.int .i64 i), .c (.int .i64 ((i : Int) + 1))] _ 1 _ _ 1
  refine FSpec.of_body tok true Tryd.func78 rfl (by kernel_rfl) (by decide) (by simp [tupA, hpLt, tmLt, AV.lt, AE.lt, AC.lt, LL_cons, LL_nil, idOk, ABlk.lt, ints_LL, GB, tab64_LL, gC, wB, giC, noneB, gst, tC, pC, gN, gR, rC, rB]) ⟨.inl (by decide), hXL, trivial⟩ (by show 3 ≤ _; decide) ?_
  refine Wk.on ?_
  refine ⟨⟨rfl, rfl, by show (0 : Int) ≤ i; omega, by show (i : Int) ≤ i + 1; omega, by omega, by omega⟩, ?_⟩
  refine Wk.on ?_
  rw [decide_eq_false (show ¬ ((i : Nat) : Int) = ((i : Nat) : Int) + 1 by omega)]
  refine Wk.on ?_
  refine Tr.draw (md := true) [⟨[], [21, 23, 24, 25], [], [], []⟩, ⟨[], [20, 23, 24, 25], [0], [], []⟩, ⟨[0, 1], [23, 24, 25], [], [], []⟩, ⟨[], [20, 21, 22, 24], [0, 1, 2], [], []⟩, ⟨[], [20, 21, 22, 23], [0, 1, 2, 3], [], []⟩, ⟨[3, 4], [20, 21, 22], [0, 1, 2], [], []⟩] tok (by kernel_rfl) (by kernel_rfl) ?_
  refine Wk.on ?_
  refine ⟨⟨rfl, Int.le_refl 0, by show (0 : Int) ≤ i; omega, by show (i : Int) ≤ c; omega⟩, fun _ => ?_, fun h => absurd (Or.inl rfl) h⟩
  refine Wk.on ?_
  refine ⟨⟨rfl, by show (0 : Int) ≤ (i : Int) + 1; omega, by show (i : Int) + 1 ≤ ((i + 1 + d : Nat) : Int); omega, by show ((i + 1 + d : Nat) : Int) ≤ c; omega⟩, fun hlo => ?_, fun hlo => ?_⟩
  · have e1 : ((i : Int) + 1).toNat = i + 1 := by omega
    refine Wk.on ?_
    simp only [Option.getD_some, Option.getD_none, Int.toNat_natCast, Int.toNat_zero, Nat.sub_zero, Nat.zero_add, e1, e2]
    refine ⟨⟨by first | rfl | trivial, by show (i + 1) * 2 + d * 2 ≤ X.length; omega⟩, ?_⟩
    refine Wk.on ?_
    refine ⟨⟨by first | rfl | trivial, by first | rfl | trivial, by first | rfl | trivial, by show 0 * 2 + i * 2 ≤ X.length; omega⟩, fun _ => ?_, fun h => by (exfalso; omega)⟩
    refine Wk.on ?_
    refine ⟨⟨rfl, by show (0 : Int) ≤ ((i + d : Nat) : Int); omega, by show ((i + d : Nat) : Int) ≤ ((i + 1 + d : Nat) : Int); omega, by show ((i + 1 + d : Nat) : Int) ≤ c; omega⟩, fun _ => ?_, fun h => absurd (Or.inr (by show ((i + d : Nat) : Int) < c; omega)) h⟩
    refine Wk.on ?_
    have e3 : i + 1 + d - (i + d) = 1 := by omega
    simp only [Option.getD_some, Option.getD_none, Int.toNat_natCast, Int.toNat_zero, Nat.sub_zero, Nat.zero_add, Nat.zero_mul, e3]
    refine ⟨⟨by first | rfl | trivial, by first | rfl | trivial, by simp only [List.length_append, List.length_take, List.length_drop]; show (i + d) * 2 ≤ _; omega⟩, ?_⟩
    refine Wk.on ?_
    exact Fin.nil [(0, .row 60 2 D)] ⟨by rw [show i + 1 + d - 1 = i + d by omega]; rfl, rfl, rfl⟩ (Or.inl (by show 0 < 1; omega)) ⟨congrArg (ABlk.row 60 2) hdc, trivial⟩ ⟨.inl (by show 0 < 1; omega), hDL, trivial⟩ rfl (by simp [GB])
  · obtain ⟨rfl, rfl⟩ : d = 0 ∧ c = i + 1 := by
      have h1 : ¬ ((i : Int) + 1 = 0 ∨ (i : Int) + 1 < c) := hlo
      omega
    refine Wk.on ?_
    simp only [Option.getD_some, Option.getD_none, Int.toNat_natCast, Int.toNat_zero, Nat.sub_zero, Nat.zero_add, Nat.zero_mul, Nat.add_zero]
    refine ⟨⟨by first | rfl | trivial, by first | rfl | trivial, by first | rfl | trivial, by show i * 2 ≤ X.length; omega⟩, fun _ => ?_, fun h => by (exfalso; omega)⟩
    refine Wk.on ?_
    refine ⟨⟨by first | rfl | trivial, by show (0 : Int) ≤ ((i : Nat) : Int); omega, by show ((i : Nat) : Int) ≤ ((i + 1 : Nat) : Int); omega, by show ((i + 1 : Nat) : Int) ≤ ((i + 1 : Nat) : Int); omega⟩, fun _ => ?_, fun h => absurd (Or.inr (by show ((i : Nat) : Int) < ((i + 1 : Nat) : Int); omega)) h⟩
    refine Wk.on ?_
    have e3 : i + 1 - i = 1 := by omega
    simp only [Option.getD_some, Option.getD_none, Int.toNat_natCast, Int.toNat_zero, Nat.sub_zero, Nat.zero_add, Nat.zero_mul, e3]
    refine ⟨⟨by first | rfl | trivial, by first | rfl | trivial, by simp only [List.length_append, List.length_take, List.length_drop]; show i * 2 ≤ _; omega⟩, ?_⟩
    refine Wk.on ?_
    exact Fin.nil [(0, .row 60 2 D)] ⟨rfl, rfl, rfl⟩ (Or.inl (by show 0 < 1; omega)) ⟨by show ABlk.row 60 2 _ = ABlk.row 60 2 D; rw [← hdc]; simp; rfl, trivial⟩ ⟨.inl (by show 0 < 1; omega), hDL, trivial⟩ rfl (by simp [GB])
theorem without_ok {g : Gm} (hg : g.game) {i : Nat} (hi : i < g.ws.length) : FDet Tryd.prog 37 [.g (gC g 0), .c (.int .i64 i)] [(0, wB g)] 1 (.t [.g (gR (lessG g i) 1), .c (.int .i64 0)]) [(1, .row 60 2 (ints (fl (lessG g i).ws)))] 2 := by
  have hl10 := hg.ok.len
  have hc := clone_spec (ws := g.ws) (by omega) hl10
  have hd := delete_spec g.ws hl10 i hi
  rw [← lessG_len hi] at hd
  change FDet Tryd.prog _ _ _ _ _ [(0, .row 60 2 (ints (fl (lessG g i).ws)))] _ at hd
  have h3 : (lessG g i).n = g.n ∧ (lessG g i).s = g.s ∧ (lessG g i).t = g.t := ⟨rfl, rfl, rfl⟩
  show FDet Tryd.prog _ _ _ _ (.t [.g [.int .i64 g.n, .int .i64 g.s, .int .i64 g.t, .row 1 (lessG g i).ws.length], .c (.int .i64 0)]) _ _
  generalize (lessG g i).ws = L at *
  refine FSpec.of_body tok true Tryd.func37 rfl (by kernel_rfl) (by decide) (by simp [tupA, hpLt, tmLt, AV.lt, AE.lt, AC.lt, LL_cons, LL_nil, idOk, ABlk.lt, ints_LL, GB, tab64_LL, gC, wB, giC, noneB, gst, tC, pC, gN, gR, rC, rB]) (by simp [tupA, hpLt, tmLt, AV.lt, AE.lt, AC.lt, LL_cons, LL_nil, idOk, ABlk.lt, ints_LL, GB, tab64_LL, gC, wB, giC, noneB, gst, tC, pC, gN, gR, rC, rB]) (by show 2 ≤ _; decide) ?_
  refine Wk.on ?_
  refine CallA.ro [0] (.c (.int .i64 0)) (openWire_ok hg hi) (by first | rfl | exact congrArg AV.g (ints_ren _ _) | (simp [ints_ren, AV.ren, ABlk.ren, AC.ren, AE.ren, qq]; done)) rfl (by (repeat (first | exact trivial | refine ⟨⟨(by first | exact .inl (by decide) | exact .inr (by decide)), (by first | (refine Or.inl ?_; first | rfl | exact congrArg some (ints_ren _ _).symm | exact congrArg ABlk.own (ints_ren _ _).symm | exact congrArg some (tab64_ren _).symm | exact congrArg (ABlk.row _ _) (ints_ren _ _).symm) | rfl | exact congrArg some (ints_ren _ _).symm | exact congrArg ABlk.own (ints_ren _ _).symm | exact congrArg some (tab64_ren _).symm | exact congrArg (ABlk.row _ _) (ints_ren _ _).symm | exact Or.inr ⟨rfl, rfl⟩)⟩, ?_⟩))) (by first | rfl | exact congrArg AV.g (ints_ren _ _) | (simp [ints_ren, AV.ren, ABlk.ren, AC.ren, AE.ren, qq]; done)) ?_
  refine Wk.on ?_
  refine Tr.draw (md := true) [⟨[], [16, 17, 18, 19, 20, 21, 22, 23, 24, 25, 26], [], [], [3]⟩, ⟨[0], [16, 17, 18, 19, 20, 21, 22, 23, 24, 25, 26], [], [], [3]⟩, ⟨[], [14, 15, 18, 19, 20, 21, 22, 23, 24, 25, 26], [0, 1], [], [3]⟩, ⟨[2], [14, 15, 18, 19, 20, 21, 22, 23, 24, 25, 26], [0, 1], [], [3]⟩, ⟨[], [14, 15, 16, 17, 20, 21, 22, 23, 24, 25, 26], [0, 1, 2, 3], [], [3]⟩, ⟨[4], [14, 15, 16, 17, 20, 21, 22, 23, 24, 25, 26], [0, 1, 2, 3], [], [3]⟩, ⟨[], [14, 15, 16, 17, 18, 19, 23, 24, 25], [0, 1, 2, 3, 4, 5], [], []⟩, ⟨[6], [14, 15, 16, 17, 18, 19, 23, 24, 25], [0, 1, 2, 3, 4, 5], [], []⟩, ⟨[6, 7], [14, 15, 16, 17, 18, 19, 23, 24, 25], [0, 1, 2, 3, 4, 5], [], []⟩, ⟨[], [14, 15, 16, 17, 18, 19, 20, 21, 22, 24, 25], [0, 1, 2, 3, 4, 5, 6, 7, 8], [], []⟩, ⟨[], [14, 15, 16, 17, 18, 19, 20, 21, 22, 23], [0, 1, 2, 3, 4, 5, 6, 7, 8, 9], [], []⟩, ⟨[10], [14, 15, 16, 17, 18, 19, 20, 21, 22, 23], [0, 1, 2, 3, 4, 5, 6, 7, 8, 9], [], []⟩, ⟨[6, 7, 8, 9, 10, 11], [14, 15, 16, 17, 18, 19], [0, 1, 2, 3, 4, 5], [3], []⟩] tok (by kernel_rfl) (by kernel_rfl) ?_
  refine Wk.on ?_
  refine CallQ.new [0] (.c (.row 3 g.ws.length)) ([(3, .row 60 2 (ints (fl g.ws)))]) (hc) (by first | rfl | exact congrArg AV.g (ints_ren _ _) | (simp [ints_ren, AV.ren, ABlk.ren, AC.ren, AE.ren, qq]; done)) rfl (by (repeat (first | exact trivial | refine ⟨⟨(by first | exact .inl (by decide) | exact .inr (by decide)), (by first | (refine Or.inl ?_; first | rfl | exact congrArg some (ints_ren _ _).symm | exact congrArg ABlk.own (ints_ren _ _).symm | exact congrArg some (tab64_ren _).symm | exact congrArg (ABlk.row _ _) (ints_ren _ _).symm) | rfl | exact congrArg some (ints_ren _ _).symm | exact congrArg ABlk.own (ints_ren _ _).symm | exact congrArg some (tab64_ren _).symm | exact congrArg (ABlk.row _ _) (ints_ren _ _).symm | exact Or.inr ⟨rfl, rfl⟩)⟩, ?_⟩))) (by first | rfl | exact congrArg AV.g (ints_ren _ _) | (simp [ints_ren, AV.ren, ABlk.ren, AC.ren, AE.ren, qq]; done)) (by first | rfl | (simp [behind, gone, lk, up, del, qq, ABlk.wr, GB, ints_ren, AV.ren, ABlk.ren, AC.ren, AE.ren]; done) | (simp [behind, gone, lk, up, del, qq, ABlk.wr, GB, ints_ren, AV.ren, ABlk.ren, AC.ren, AE.ren]; rfl)) ?_
  refine Wk.on ?_
  refine CallQ.turn [3] (.c (.row 3 L.length)) ([(3, .row 60 2 (ints (fl L)))]) (hd) (by first | rfl | exact congrArg AV.g (ints_ren _ _) | (simp [ints_ren, AV.ren, ABlk.ren, AC.ren, AE.ren, qq]; done)) rfl (by (repeat (first | exact trivial | refine ⟨⟨(by first | exact .inl (by decide) | exact .inr (by decide)), (by first | (refine Or.inl ?_; first | rfl | exact congrArg some (ints_ren _ _).symm | exact congrArg ABlk.own (ints_ren _ _).symm | exact congrArg some (tab64_ren _).symm | exact congrArg (ABlk.row _ _) (ints_ren _ _).symm) | rfl | exact congrArg some (ints_ren _ _).symm | exact congrArg ABlk.own (ints_ren _ _).symm | exact congrArg some (tab64_ren _).symm | exact congrArg (ABlk.row _ _) (ints_ren _ _).symm | exact Or.inr ⟨rfl, rfl⟩)⟩, ?_⟩))) (by first | rfl | exact congrArg AV.g (ints_ren _ _) | (simp [ints_ren, AV.ren, ABlk.ren, AC.ren, AE.ren, qq]; done)) (by first | rfl | (simp [qq, GB, ints_ren, AV.ren, ABlk.ren, AC.ren, AE.ren]; done) | (simp [qq, GB, ints_ren, AV.ren, ABlk.ren, AC.ren, AE.ren]; rfl)) ?_
  refine Wk.on ?_
  exact AH.Fin.new [3] _ _ ⟨rfl, rfl, rfl⟩ rfl ⟨by show some _ = some _; exact congrArg (fun l => some (ABlk.row 60 2 l)) (ints_ren _ _).symm, trivial⟩ rfl (by simp [tupA, hpLt, tmLt, AV.lt, AE.lt, AC.lt, LL_cons, LL_nil, idOk, ABlk.lt, ints_LL, GB, tab64_LL, gC, wB, giC, noneB, gst, tC, pC, gN, gR, rC, rB]) (by simp [tupA, hpLt, tmLt, AV.lt, AE.lt, AC.lt, LL_cons, LL_nil, idOk, ABlk.lt, ints_LL, GB, tab64_LL, gC, wB, giC, noneB, gst, tC, pC, gN, gR, rC, rB])
theorem without_rs {g : Gm} (hg : g.game) {i : Nat} (hi : i < g.ws.length) : FDet Tryd.prog 37 [.g (gC g 0), .c (.int .i64 i)] [(0, wB g)] 1 (.t [.g (gC (lessG g i) 1), .c (.int .i64 0)]) [(1, .row 60 2 (ints (fl (lessG g i).ws)))] 2 :=
  FDet.post (without_ok hg hi) _ _ ⟨.inr ⟨rfl, rfl, rfl, ⟨⟨rfl, rfl, rfl⟩, trivial⟩, trivial⟩, rfl, trivial⟩ ⟨⟨⟨rfl, rfl⟩, .inl rfl⟩, trivial⟩ (by
    intro e he
    simp only [List.mem_cons, List.not_mem_nil, or_false] at he
    rcases he with rfl | rfl
    · exact gC_LL (.inl (by decide))
    · trivial) (by simp [tupA, hpLt, tmLt, AV.lt, AE.lt, AC.lt, LL_cons, LL_nil, idOk, ABlk.lt, ints_LL, GB, tab64_LL, gC, wB, giC, noneB, gst, tC, pC, gN, gR, rC, rB]) rfl
def zeroT : AV := .t [.g [.int .i64 0, .int .i64 0, .int .i64 0, .nils], .c (.int .i64 1)]
/-! Games. -/
theorem game_of {g : Gm} (h2 : 2 ≤ g.n) (h8 : g.n ≤ 8) (hs : g.s < g.n) (ht : g.t < g.n) (hst : g.s ≠ g.t) (hl : g.ws.length ≤ 10) (hT : Tm g.n g.ws) : g.game := by
  obtain ⟨hw, hp⟩ := hT
  obtain ⟨n, s, t, L⟩ := g
  dsimp only at *
  show isGame n s t (fl L) L.length
  refine ⟨by unfold bad0; omega, fun i hi => ?_⟩
  have hg : ∀ j, j < L.length → (L.getD j (0, 0)) ∈ L := fun j hj => by
    rw [List.getD_eq_getElem?_getD, List.getElem?_eq_getElem hj]; exact List.getElem_mem hj
  have hwi := hw _ (hg i hi)
  unfold badW
  rw [(fl_get L i).1, (fl_get L i).2]
  have hc : 0 < i → ¬ 0 < cmpL (win (fl L) ((i - 1) * 2) 2) (win (fl L) (i * 2) 2) := fun h0 => by
    have hle : leW (L.getD (i - 1) (0, 0)) (L.getD i (0, 0)) = true := by
      have := List.pairwise_iff_getElem.1 hp (i - 1) i (by omega) hi (by omega)
      rw [List.getD_eq_getElem?_getD, List.getD_eq_getElem?_getD, List.getElem?_eq_getElem hi, List.getElem?_eq_getElem (show i - 1 < L.length by omega)]
      exact this
    rw [leW_iff] at hle
    have hfl := fl_len L
    rw [win2 (by omega), win2 (by omega), (fl_get L i).1, (fl_get L i).2, (fl_get L (i - 1)).1, (fl_get L (i - 1)).2]
    simp only [cmpL]
    unfold cmpI
    split <;> omega
  omega
theorem tame_Tm (x : Rw) {pl most : Nat} (h1 : 2 ≤ pl) : Tm (tame x pl most).n (tame x pl most).ws :=
  (tameA_Tm x (n := tameN x pl) (most := most) (by unfold tameN; omega) _ (Nat.le_refl _)).1
theorem Tm.sub {n : Nat} {l l' : List (Nat × Nat)} (h : Tm n l) (hs : l'.Sublist l) : Tm n l' := ⟨fun w hw => h.1 w (hs.subset hw), h.2.sublist hs⟩
theorem lessG_sub (g : Gm) (w : Nat) : (lessG g w).ws.Sublist g.ws := by
  show (g.ws.take w ++ g.ws.drop (w + 1)).Sublist g.ws
  rw [← List.eraseIdx_eq_take_drop_succ]
  exact List.eraseIdx_sublist _ _
theorem lessG_Tm {g : Gm} (hT : Tm g.n g.ws) (w : Nat) : Tm (lessG g w).n (lessG g w).ws := hT.sub (lessG_sub g w)
theorem lessG_game {g : Gm} (hg : g.game) (hT : Tm g.n g.ws) (w : Nat) : (lessG g w).game :=
  game_of hg.ok.n2 hg.ok.n8 hg.ok.s hg.ok.t (show g.s ≠ g.t from game_ends hg) (Nat.le_trans (lessG_sub g w).length_le hg.ok.len) (lessG_Tm hT w)
end Go.Proofs.YtfphkpdobbffeaaDoor

/-
  Plain: keeping and cutting wires; the game without a wire.
-/
namespace Go.Proofs.YtfphkpdobbffeaaDoor
open Go Go.AH Go.Wire
set_option maxRecDepth 100000
set_option maxHeartbeats 1000000

theorem bit_lt {g : Gm} {f w : Nat} (hf : f < 2 ^ g.ws.length) (hw : f.testBit w = true) : w < g.ws.length := lt_len hf hw
theorem or2_lt {g : Gm} {k w : Nat} (hk : k < 2 ^ g.ws.length) (hw : w < g.ws.length) : k ||| 2 ^ w < 2 ^ g.ws.length := or_lt hk ((Nat.pow_lt_pow_iff_right (by omega)).2 hw)
theorem off_less {g : Gm} (hg : g.ok) {f w : Nat} (hf : f < 2 ^ g.ws.length) (hw : f.testBit w = true) : offN f w < 2 ^ g.ws.length := by
  have hp := ws1024 hg
  have := (off_ok f (by omega) w ((memN_mem (by omega)).2 hw)).2
  omega
theorem keep_kept {k w : Nat} (hk : k < 1024) (hw : w < 10) (j : Nat) : j ∈ memN (k ||| 2 ^ w) ↔ j ∈ w :: memN k := by
  rw [memN_mem (or_lt (k := 10) hk ((Nat.pow_lt_pow_iff_right (by omega)).2 hw)), or_bit, List.mem_cons, memN_mem hk]
  simp only [Bool.or_eq_true, decide_eq_true_eq]
  exact Or.comm
theorem W_keep {g : Gm} (hg : g.ok) {f k w : Nat} {c : Bool} (hf : f < 2 ^ g.ws.length) (hk : k < 2 ^ g.ws.length) (hw : f.testBit w = true) (h : W g f k c = true) : W g (offN f w) (k ||| 2 ^ w) c = true := by
  have hp := ws1024 hg
  have hwl := bit_lt hf hw
  have h10 := hg.len
  have hm := (memN_mem (show f < 1024 by omega)).2 hw
  rw [W_Sw hg c hf hk] at h
  obtain ⟨n, hn⟩ : ∃ n, (memN f).length = n + 1 := ⟨(memN f).length - 1, by have := List.length_pos_of_mem hm; omega⟩
  rw [hn] at h
  rw [W_Sw hg c (off_less hg hf hw) (or2_lt hk hwl), memN_off (by omega) (by omega), List.length_erase_of_mem hm, hn]
  exact Sw.kept (fun j hj => (keep_kept (by omega) (by omega) j).2 hj) ((Sw.more _ _ _ n).keep hn hm h)
theorem W_cut {g : Gm} (hg : g.ok) {f k w : Nat} {c : Bool} (hf : f < 2 ^ g.ws.length) (hk : k < 2 ^ g.ws.length) (hw : f.testBit w = true) (h : W g (offN f w) k c = true) : W g f k c = true := by
  have hp := ws1024 hg
  have hwl := bit_lt hf hw
  have h10 := hg.len
  have hm := (memN_mem (show f < 1024 by omega)).2 hw
  obtain ⟨n, hn⟩ : ∃ n, (memN f).length = n + 1 := ⟨(memN f).length - 1, by have := List.length_pos_of_mem hm; omega⟩
  rw [W_Sw hg c (off_less hg hf hw) hk, memN_off (by omega) (by omega), List.length_erase_of_mem hm, hn] at h
  rw [W_Sw hg c hf hk, hn]
  exact (Sw.more _ _ _ n).cut hn hm h
/-! Other numbers for the wires. -/
theorem erase_map {φ : Nat → Nat} (hφ : ∀ i j, φ i = φ j → i = j) (i : Nat) : ∀ F : List Nat, (F.erase i).map φ = (F.map φ).erase (φ i)
  | [] => rfl
  | j :: F => by
    by_cases h : j = i
    · subst h; simp
    · have h2 : φ j ≠ φ i := fun k => h (hφ _ _ k)
      rw [List.erase_cons_tail (by simpa using h), List.map_cons, List.map_cons, List.erase_cons_tail (by simpa using h2), erase_map hφ i F]
theorem lb_sub {e : Nat → Nat × Nat} {φ : Nat → Nat} (l : List Nat) (u : Nat) : Wire.lb (fun i => e (φ i)) l u = Wire.lb e (l.map φ) u := by
  rw [← lb_map (fun i => e (φ i)), ← lb_map e, List.map_map]; rfl
theorem Sw_map {e : Nat → Nat × Nat} {φ : Nat → Nat} (hφ : ∀ i j, φ i = φ j → i = j) {s t : Nat} : ∀ n (F K : List Nat) c, Sw (fun i => e (φ i)) s t n F K c ↔ Sw e s t n (F.map φ) (K.map φ) c
  | 0, F, K, c => by
    show Wire.lb _ K s = Wire.lb _ K t ↔ Wire.lb e (K.map φ) s = Wire.lb e (K.map φ) t
    rw [lb_sub (e := e) (φ := φ) K s, lb_sub (e := e) (φ := φ) K t]
  | n + 1, F, K, true => by
    show (∀ i ∈ F, Sw (fun i => e (φ i)) s t n (F.erase i) K false) ↔ ∀ j ∈ F.map φ, Sw e s t n ((F.map φ).erase j) (K.map φ) false
    constructor
    · intro h j hj
      obtain ⟨i, hi, rfl⟩ := List.mem_map.1 hj
      rw [← erase_map hφ]
      exact (Sw_map hφ n _ _ _).1 (h i hi)
    · intro h i hi
      rw [Sw_map hφ n, erase_map hφ]
      exact h _ (List.mem_map.2 ⟨i, hi, rfl⟩)
  | n + 1, F, K, false => by
    show (∃ i ∈ F, Sw (fun i => e (φ i)) s t n (F.erase i) (i :: K) true) ↔ ∃ j ∈ F.map φ, Sw e s t n ((F.map φ).erase j) (j :: K.map φ) true
    constructor
    · rintro ⟨i, hi, h⟩
      refine ⟨φ i, List.mem_map.2 ⟨i, hi, rfl⟩, ?_⟩
      rw [← erase_map hφ]
      exact (Sw_map hφ n _ _ _).1 h
    · rintro ⟨j, hj, h⟩
      obtain ⟨i, hi, rfl⟩ := List.mem_map.1 hj
      refine ⟨i, hi, ?_⟩
      rw [Sw_map hφ n, erase_map hφ]
      exact h
theorem Sw_ends {e e' : Nat → Nat × Nat} {m s t : Nat} (he : ∀ i, i < m → e i = e' i) : ∀ n {F K : List Nat} {c}, (∀ i ∈ F, i < m) → (∀ i ∈ K, i < m) → Sw e s t n F K c → Sw e' s t n F K c
  | 0, F, K, c, _, hK, h => by
    have hl : ∀ (l : List Nat), (∀ i ∈ l, i < m) → ∀ u, Wire.lb e' l u = Wire.lb e l u := fun l => by
      induction l with
      | nil => exact fun _ _ => rfl
      | cons i l ih =>
        intro hl u
        have ih := ih fun j hj => hl j (List.mem_cons_of_mem _ hj)
        simp only [Wire.lb, ih, he i (hl i (List.mem_cons_self ..))]
    show Wire.lb e' K s = Wire.lb e' K t
    rw [hl K hK, hl K hK]; exact h
  | n + 1, F, K, true, hF, hK, h => fun i hi => Sw_ends he n (fun j hj => hF j (List.mem_of_mem_erase hj)) hK (h i hi)
  | n + 1, F, K, false, hF, hK, ⟨i, hi, h⟩ => ⟨i, hi, Sw_ends he n (fun j hj => hF j (List.mem_of_mem_erase hj)) (fun j hj => by
      rcases List.mem_cons.1 hj with rfl | hj
      · exact hF _ hi
      · exact hK j hj) h⟩
def upW (w i : Nat) : Nat := if i < w then i else i + 1
theorem upW_inj (w i j : Nat) (h : upW w i = upW w j) : i = j := by
  unfold upW at h
  split at h <;> split at h <;> omega
theorem lessG_eg {g : Gm} {w : Nat} (hw : w < g.ws.length) (i : Nat) : eg (lessG g w) i = eg g (upW w i) := by
  show (g.ws.take w ++ g.ws.drop (w + 1)).getD i (0, 0) = g.ws.getD (upW w i) (0, 0)
  unfold upW
  rw [List.getD_eq_getElem?_getD, List.getD_eq_getElem?_getD]
  by_cases h : i < w
  · rw [if_pos h, List.getElem?_append_left (by rw [List.length_take]; omega), List.getElem?_take_of_lt h]
  · rw [if_neg h, List.getElem?_append_right (by rw [List.length_take]; omega), List.getElem?_drop, List.length_take]
    congr 2
    omega
theorem range_less {m w : Nat} (hw : w < m) : (List.range (m - 1)).map (upW w) = (List.range m).erase w := by
  obtain ⟨d, hd⟩ : ∃ d, m = w + (d + 1) := ⟨m - w - 1, by omega⟩
  subst hd
  have e1 : List.range (w + (d + 1)) = List.range w ++ w :: (List.range d).map (fun i => w + (i + 1)) := by
    rw [List.range_add, List.range_succ_eq_map, List.map_cons, List.map_map]; rfl
  have e2 : List.range (w + (d + 1) - 1) = List.range w ++ (List.range d).map (fun i => w + i) := by
    rw [show w + (d + 1) - 1 = w + d by omega, List.range_add]
  rw [e1, e2, List.erase_append_right _ (fun h => by have := List.mem_range.1 h; omega), List.erase_cons_head, List.map_append, List.map_map]
  have h1 : (List.range w).map (upW w) = List.range w := by
    conv => rhs; rw [← List.map_id (List.range w)]
    refine List.map_congr_left fun i hi => ?_
    have := List.mem_range.1 hi
    unfold upW
    rw [if_pos this]; rfl
  have h2 : (List.range d).map (upW w ∘ fun i => w + i) = (List.range d).map (fun i => w + (i + 1)) := by
    refine List.map_congr_left fun i _ => ?_
    show upW w (w + i) = w + (i + 1)
    unfold upW
    rw [if_neg (by omega)]; omega
  rw [h1, h2]
theorem lessG_ok {g : Gm} (hg : g.ok) {w : Nat} (hw : w < g.ws.length) : (lessG g w).ok := by
  have hl := lessG_len hw
  refine ⟨hg.n2, hg.n8, hg.s, hg.t, by rw [hl]; have := hg.len; omega, fun i hi => ?_⟩
  rw [hl] at hi
  have := lessG_eg hw i
  unfold eg at this
  rw [this]
  refine hg.ends _ ?_
  unfold upW
  split <;> omega
/-- Without a wire the other player has it no harder. -/
theorem W_less {g : Gm} (hg : g.ok) {w : Nat} (hw : w < g.ws.length) {c : Bool} (h : W (lessG g w) (2 ^ (lessG g w).ws.length - 1) 0 c = true) : W g (2 ^ g.ws.length - 1) 0 c = true := by
  have hpos := pow_pos2 g.ws.length
  have hpos2 := pow_pos2 (lessG g w).ws.length
  have hg' := lessG_ok hg hw
  rw [W_Sw hg' c (by omega) hpos2, full_mem hg'.len, memN_zero, List.length_range, lessG_len hw] at h
  rw [W_Sw hg c (by omega) hpos, full_mem hg.len, memN_zero, List.length_range]
  have h2 : Sw (fun i => eg g (upW w i)) g.s g.t (g.ws.length - 1) (List.range (g.ws.length - 1)) [] c :=
    Sw_ends (fun i _ => lessG_eg hw i) (m := g.ws.length) _ (fun i hi => by have := List.mem_range.1 hi; omega) (fun i hi => absurd hi List.not_mem_nil) h
  rw [Sw_map (upW_inj w), range_less hw] at h2
  obtain ⟨n, hn⟩ : ∃ n, g.ws.length = n + 1 := ⟨g.ws.length - 1, by omega⟩
  rw [hn] at h2 ⊢
  refine (Sw.more _ _ _ n).cut (w := w) (by rw [List.length_range]) (List.mem_range.2 (by omega)) h2
end Go.Proofs.YtfphkpdobbffeaaDoor

/-
  The law SwitchPositions, as a contract.
-/
namespace Go.Proofs.YtfphkpdobbffeaaDoor
open Go Go.AH
set_option maxRecDepth 100000
set_option maxHeartbeats 1000000

end Go.Proofs.YtfphkpdobbffeaaDoor

/-
  Contracts: who wins by the reference, with what is known as a law.
-/
namespace Go.Proofs.YtfphkpdobbffeaaDoor
open Go Go.AH
set_option maxRecDepth 100000
set_option maxHeartbeats 1000000

/-- Cells of what is known. -/
def KIc (g : Gm) (cs : List AC) : Prop := ∃ L, KI g L ∧ cs = ints L
/-- A free wire, and what becomes of a position. -/
theorem wire_facts {g : Gm} (hg : g.ok) {f k : Nat} (hf : f < 2 ^ g.ws.length) (hk : k < 2 ^ g.ws.length) (hd : ∀ i, f.testBit i = true → k.testBit i = false) {v : Int} (hv : v ∈ mem f) :
    ∃ w : Nat, v = (w : Int) ∧ w < g.ws.length ∧ f.testBit w = true ∧ k.testBit w = false ∧ offN f w < f ∧ pop (offN f w) = pop f - 1 ∧ k ||| 2 ^ w < 2 ^ g.ws.length ∧
      (∀ j, (offN f w).testBit j = true → k.testBit j = false) ∧ ∀ j, (offN f w).testBit j = true → (k ||| 2 ^ w).testBit j = false := by
  have hl := hg.len
  have hp : 2 ^ g.ws.length ≤ 1024 := Nat.pow_le_pow_right (by omega) hl
  obtain ⟨_, hlw⟩ := mem_lt hl hf hv
  have hoff := off_mem (n := f) (by omega) hv
  obtain ⟨w, rfl, hwb⟩ := (mem_iff (by omega)).1 hv
  rw [Int.toNat_natCast] at hlw hoff
  have hoffb := fun j => offN_bit (i := j) (show f < 1024 by omega) (show w < 10 by omega)
  refine ⟨w, rfl, hlw, hwb, hd w hwb, hoff.2, hoff.1, or_lt hk ((Nat.pow_lt_pow_iff_right (by omega)).2 hlw), fun j h => hd j (by rw [hoffb j] at h; simp at h; exact h.1), fun j h => ?_⟩
  rw [hoffb j] at h
  simp at h
  rw [Nat.testBit_or, Nat.testBit_two_pow, hd j h.1]
  simp; omega
end Go.Proofs.YtfphkpdobbffeaaDoor

/-
  The law SwitchMore, as a contract.
-/
namespace Go.Proofs.YtfphkpdobbffeaaDoor
open Go Go.AH
set_option maxRecDepth 100000
set_option maxHeartbeats 1000000

def kindS (a b : Bool) : ByteArray := if a = true then "short".toUTF8 else if b = true then "first".toUTF8 else "cut".toUTF8
def worthN (a b : Bool) : Int := if a = true then 2 else if b = true then 1 else 0
theorem worth_spec (a b : Bool) : FDet Tryd.prog 51 [.c (.str (kindS a b))] [] 0 (.c (.int .i64 (worthN a b))) [] 0 := by
  cases a with
  | true =>
    change FDet Tryd.prog _ [.c (.str "short".toUTF8)] [] 0 (.c (.int .i64 2)) [] 0
    refine FSpec.of_body tok true Tryd.func51 rfl (by kernel_rfl) (by decide) (by simp [tupA, hpLt, tmLt, AV.lt, AE.lt, AC.lt, LL_cons, LL_nil, idOk, ABlk.lt, ints_LL, GB, tab64_LL, gC, wB, giC, noneB, gst, tC, pC, gN, gR, rC, rB]) (by simp [tupA, hpLt, tmLt, AV.lt, AE.lt, AC.lt, LL_cons, LL_nil, idOk, ABlk.lt, ints_LL, GB, tab64_LL, gC, wB, giC, noneB, gst, tC, pC, gN, gR, rC, rB]) (by show 1 ≤ _; decide) ?_
    refine Wk.on ?_
    rw [show ("short".toUTF8.toList == ({ data := #[115, 104, 111, 114, 116] } : ByteArray).toList) = true by decide +kernel]
    refine Wk.on ?_
    exact AH.Fin.nil [] ⟨rfl, rfl, rfl⟩ (by first | exact trivial | (simp [tupA, hpLt, tmLt, AV.lt, AE.lt, AC.lt, LL_cons, LL_nil, idOk, ABlk.lt, ints_LL, GB, tab64_LL, gC, wB, giC, noneB, gst, tC, pC, gN, gR, rC, rB]; done) | (simp [tupA, hpLt, tmLt, AV.lt, AE.lt, AC.lt, LL_cons, LL_nil, idOk, ABlk.lt, ints_LL, GB, tab64_LL, gC, wB, giC, noneB, gst, tC, pC, gN, gR, rC, rB, rdn, wrn]; done)) trivial trivial rfl (by simp [GB])
  | false => cases b with
    | true =>
      change FDet Tryd.prog _ [.c (.str "first".toUTF8)] [] 0 (.c (.int .i64 1)) [] 0
      refine FSpec.of_body tok true Tryd.func51 rfl (by kernel_rfl) (by decide) (by simp [tupA, hpLt, tmLt, AV.lt, AE.lt, AC.lt, LL_cons, LL_nil, idOk, ABlk.lt, ints_LL, GB, tab64_LL, gC, wB, giC, noneB, gst, tC, pC, gN, gR, rC, rB]) (by simp [tupA, hpLt, tmLt, AV.lt, AE.lt, AC.lt, LL_cons, LL_nil, idOk, ABlk.lt, ints_LL, GB, tab64_LL, gC, wB, giC, noneB, gst, tC, pC, gN, gR, rC, rB]) (by show 1 ≤ _; decide) ?_
      refine Wk.on ?_
      rw [show ("first".toUTF8.toList == ({ data := #[115, 104, 111, 114, 116] } : ByteArray).toList) = false by decide +kernel]
      refine Wk.on ?_
      rw [show ("first".toUTF8.toList == ({ data := #[102, 105, 114, 115, 116] } : ByteArray).toList) = true by decide +kernel]
      refine Wk.on ?_
      exact AH.Fin.nil [] ⟨rfl, rfl, rfl⟩ (by first | exact trivial | (simp [tupA, hpLt, tmLt, AV.lt, AE.lt, AC.lt, LL_cons, LL_nil, idOk, ABlk.lt, ints_LL, GB, tab64_LL, gC, wB, giC, noneB, gst, tC, pC, gN, gR, rC, rB]; done) | (simp [tupA, hpLt, tmLt, AV.lt, AE.lt, AC.lt, LL_cons, LL_nil, idOk, ABlk.lt, ints_LL, GB, tab64_LL, gC, wB, giC, noneB, gst, tC, pC, gN, gR, rC, rB, rdn, wrn]; done)) trivial trivial rfl (by simp [GB])
    | false =>
      change FDet Tryd.prog _ [.c (.str "cut".toUTF8)] [] 0 (.c (.int .i64 0)) [] 0
      refine FSpec.of_body tok true Tryd.func51 rfl (by kernel_rfl) (by decide) (by simp [tupA, hpLt, tmLt, AV.lt, AE.lt, AC.lt, LL_cons, LL_nil, idOk, ABlk.lt, ints_LL, GB, tab64_LL, gC, wB, giC, noneB, gst, tC, pC, gN, gR, rC, rB]) (by simp [tupA, hpLt, tmLt, AV.lt, AE.lt, AC.lt, LL_cons, LL_nil, idOk, ABlk.lt, ints_LL, GB, tab64_LL, gC, wB, giC, noneB, gst, tC, pC, gN, gR, rC, rB]) (by show 1 ≤ _; decide) ?_
      refine Wk.on ?_
      rw [show ("cut".toUTF8.toList == ({ data := #[115, 104, 111, 114, 116] } : ByteArray).toList) = false by decide +kernel]
      refine Wk.on ?_
      rw [show ("cut".toUTF8.toList == ({ data := #[102, 105, 114, 115, 116] } : ByteArray).toList) = false by decide +kernel]
      refine Wk.on ?_
      exact AH.Fin.nil [] ⟨rfl, rfl, rfl⟩ (by first | exact trivial | (simp [tupA, hpLt, tmLt, AV.lt, AE.lt, AC.lt, LL_cons, LL_nil, idOk, ABlk.lt, ints_LL, GB, tab64_LL, gC, wB, giC, noneB, gst, tC, pC, gN, gR, rC, rB]; done) | (simp [tupA, hpLt, tmLt, AV.lt, AE.lt, AC.lt, LL_cons, LL_nil, idOk, ABlk.lt, ints_LL, GB, tab64_LL, gC, wB, giC, noneB, gst, tC, pC, gN, gR, rC, rB, rdn, wrn]; done)) trivial trivial rfl (by simp [GB])
theorem more_nil (x : Rw) (p : List UInt8) (n : Int) (h4 : x.ws.length ≤ 9223372036854775807) (hws : (tame x 8 8).ws = []) : FDet Tryd.prog 14 [.g (rC x 0), .c (.str (bs p)), .c (.int .i64 n)] [(0, rB x), (100002, .ro tab64), (100000, noneB)] 1 (.c (.bool true)) [] 1 := by
  have hgm := tame_game x (pl := 8) (most := 8) (by omega) (by omega) (by omega)
  have hgl := hgm.ok.len
  have ht := tame_nil (x := x) (pl := 8) (most := 8) (by omega) (by omega) (by omega) h4 hws
  generalize tame x 8 8 = g at *
  have hpn := position_nil hgm.ok hws p
  obtain ⟨f, k, hf, hk, hd, hpe⟩ : ∃ f k, f < 2 ^ g.ws.length ∧ k < 2 ^ g.ws.length ∧ (∀ i, f.testBit i = true → k.testBit i = false) ∧ posOf p g.ws.length = posL g.ws.length f k := ⟨_, _, fB_lt _ _, kB_lt _ _, fkB_dis _ _, pos_of_ok (posOf_ok _ _)⟩
  rw [hpe] at hpn
  have hfr := free_spec (k := k) hgl hf
  obtain rfl : f = 0 := by rw [hws] at hf; have hf : f < 1 := hf; omega
  rw [show mem 0 = [] from by decide] at hfr
  change FDet Tryd.prog _ _ _ _ (.c .nils) [] 0 at hfr
  refine FSpec.of_body tok true Tryd.func14 rfl (by kernel_rfl) (by decide) (by simp [tupA, hpLt, tmLt, AV.lt, AE.lt, AC.lt, LL_cons, LL_nil, idOk, ABlk.lt, ints_LL, GB, tab64_LL, gC, wB, giC, noneB, gst, tC, pC, gN, gR, rC, rB]) (by simp [tupA, hpLt, tmLt, AV.lt, AE.lt, AC.lt, LL_cons, LL_nil, idOk, ABlk.lt, ints_LL, GB, tab64_LL, gC, wB, giC, noneB, gst, tC, pC, gN, gR, rC, rB]) (by show 3 ≤ _; decide) ?_
  refine Wk.on ?_
  refine CallA.ro [0] (.g (gN g)) (ht) (by first | rfl | exact congrArg AV.g (ints_ren _ _) | (simp [ints_ren, AV.ren, ABlk.ren, AC.ren, AE.ren, qq]; done)) rfl (by (repeat (first | exact trivial | refine ⟨⟨(by first | exact .inl (by decide) | exact .inr (by decide)), (by first | (refine Or.inl ?_; first | rfl | exact congrArg some (ints_ren _ _).symm | exact congrArg ABlk.own (ints_ren _ _).symm | exact congrArg some (tab64_ren _).symm | exact congrArg (ABlk.row _ _) (ints_ren _ _).symm) | rfl | exact congrArg some (ints_ren _ _).symm | exact congrArg ABlk.own (ints_ren _ _).symm | exact congrArg some (tab64_ren _).symm | exact congrArg (ABlk.row _ _) (ints_ren _ _).symm | exact Or.inr ⟨rfl, rfl⟩)⟩, ?_⟩))) (by first | rfl | exact congrArg AV.g (ints_ren _ _) | (simp [ints_ren, AV.ren, ABlk.ren, AC.ren, AE.ren, qq]; done)) ?_
  refine Wk.on ?_
  refine CallA.ro [0] (.g (gN g)) (given_nil) (by first | rfl | exact congrArg AV.g (ints_ren _ _) | (simp [ints_ren, AV.ren, ABlk.ren, AC.ren, AE.ren, qq]; done)) rfl (by (repeat (first | exact trivial | refine ⟨⟨(by first | exact .inl (by decide) | exact .inr (by decide)), (by first | (refine Or.inl ?_; first | rfl | exact congrArg some (ints_ren _ _).symm | exact congrArg ABlk.own (ints_ren _ _).symm | exact congrArg some (tab64_ren _).symm | exact congrArg (ABlk.row _ _) (ints_ren _ _).symm) | rfl | exact congrArg some (ints_ren _ _).symm | exact congrArg ABlk.own (ints_ren _ _).symm | exact congrArg some (tab64_ren _).symm | exact congrArg (ABlk.row _ _) (ints_ren _ _).symm | exact Or.inr ⟨rfl, rfl⟩)⟩, ?_⟩))) (by first | rfl | exact congrArg AV.g (ints_ren _ _) | (simp [ints_ren, AV.ren, ABlk.ren, AC.ren, AE.ren, qq]; done)) ?_
  refine Wk.on ?_
  refine CallA.ro [0] (.c (.str (posB g.ws.length 0 k))) (hpn) (by first | rfl | exact congrArg AV.g (ints_ren _ _) | (simp [ints_ren, AV.ren, ABlk.ren, AC.ren, AE.ren, qq]; done)) rfl (by (repeat (first | exact trivial | refine ⟨⟨(by first | exact .inl (by decide) | exact .inr (by decide)), (by first | (refine Or.inl ?_; first | rfl | exact congrArg some (ints_ren _ _).symm | exact congrArg ABlk.own (ints_ren _ _).symm | exact congrArg some (tab64_ren _).symm | exact congrArg (ABlk.row _ _) (ints_ren _ _).symm) | rfl | exact congrArg some (ints_ren _ _).symm | exact congrArg ABlk.own (ints_ren _ _).symm | exact congrArg some (tab64_ren _).symm | exact congrArg (ABlk.row _ _) (ints_ren _ _).symm | exact Or.inr ⟨rfl, rfl⟩)⟩, ?_⟩))) (by first | rfl | exact congrArg AV.g (ints_ren _ _) | (simp [ints_ren, AV.ren, ABlk.ren, AC.ren, AE.ren, qq]; done)) ?_
  refine Wk.on ?_
  refine CallA.ro [] (.c .nils) (hfr) (by first | rfl | exact congrArg AV.g (ints_ren _ _) | (simp [ints_ren, AV.ren, ABlk.ren, AC.ren, AE.ren, qq]; done)) rfl (by (repeat (first | exact trivial | refine ⟨⟨(by first | exact .inl (by decide) | exact .inr (by decide)), (by first | (refine Or.inl ?_; first | rfl | exact congrArg some (ints_ren _ _).symm | exact congrArg ABlk.own (ints_ren _ _).symm | exact congrArg some (tab64_ren _).symm | exact congrArg (ABlk.row _ _) (ints_ren _ _).symm) | rfl | exact congrArg some (ints_ren _ _).symm | exact congrArg ABlk.own (ints_ren _ _).symm | exact congrArg some (tab64_ren _).symm | exact congrArg (ABlk.row _ _) (ints_ren _ _).symm | exact Or.inr ⟨rfl, rfl⟩)⟩, ?_⟩))) (by first | rfl | exact congrArg AV.g (ints_ren _ _) | (simp [ints_ren, AV.ren, ABlk.ren, AC.ren, AE.ren, qq]; done)) ?_
  refine Wk.on ?_
  refine CallA.ro [] (.c (.bool true)) (awake_spec) (by first | rfl | exact congrArg AV.g (ints_ren _ _) | (simp [ints_ren, AV.ren, ABlk.ren, AC.ren, AE.ren, qq]; done)) rfl (by (repeat (first | exact trivial | refine ⟨⟨(by first | exact .inl (by decide) | exact .inr (by decide)), (by first | (refine Or.inl ?_; first | rfl | exact congrArg some (ints_ren _ _).symm | exact congrArg ABlk.own (ints_ren _ _).symm | exact congrArg some (tab64_ren _).symm | exact congrArg (ABlk.row _ _) (ints_ren _ _).symm) | rfl | exact congrArg some (ints_ren _ _).symm | exact congrArg ABlk.own (ints_ren _ _).symm | exact congrArg some (tab64_ren _).symm | exact congrArg (ABlk.row _ _) (ints_ren _ _).symm | exact Or.inr ⟨rfl, rfl⟩)⟩, ?_⟩))) (by first | rfl | exact congrArg AV.g (ints_ren _ _) | (simp [ints_ren, AV.ren, ABlk.ren, AC.ren, AE.ren, qq]; done)) ?_
  refine Wk.on ?_
  exact AH.Fin.nil [] ⟨rfl, rfl, rfl⟩ (by first | exact trivial | (simp [tupA, hpLt, tmLt, AV.lt, AE.lt, AC.lt, LL_cons, LL_nil, idOk, ABlk.lt, ints_LL, GB, tab64_LL, gC, wB, giC, noneB, gst, tC, pC, gN, gR, rC, rB]; done) | (simp [tupA, hpLt, tmLt, AV.lt, AE.lt, AC.lt, LL_cons, LL_nil, idOk, ABlk.lt, ints_LL, GB, tab64_LL, gC, wB, giC, noneB, gst, tC, pC, gN, gR, rC, rB, rdn, wrn]; done)) trivial trivial rfl (by simp [GB])
theorem more_row (x : Rw) (p : List UInt8) (n : Int) (h4 : x.ws.length ≤ 9223372036854775807) (hws : ¬ (tame x 8 8).ws = []) : FDet Tryd.prog 14 [.g (rC x 0), .c (.str (bs p)), .c (.int .i64 n)] [(0, rB x), (100002, .ro tab64), (100000, noneB)] 1 (.c (.bool true)) [] 1 := by
  have hgm := tame_game x (pl := 8) (most := 8) (by omega) (by omega) (by omega)
  have hT := tame_Tm x (pl := 8) (most := 8) (by omega)
  have hgl := hgm.ok.len
  have hpos := List.length_pos_iff.2 hws
  have ht := tame_rs (x := x) (pl := 8) (most := 8) (by omega) (by omega) (by omega) h4 hpos
  generalize tame x 8 8 = g at *
  have hgv := given_rs hpos hgl
  have hpn := position_spec hgm.ok p
  obtain ⟨f, k, hf, hk, hd, hpe⟩ : ∃ f k, f < 2 ^ g.ws.length ∧ k < 2 ^ g.ws.length ∧ (∀ i, f.testBit i = true → k.testBit i = false) ∧ posOf p g.ws.length = posL g.ws.length f k := ⟨_, _, fB_lt _ _, kB_lt _ _, fkB_dis _ _, pos_of_ok (posOf_ok _ _)⟩
  rw [hpe] at hpn
  have hp0 : 2 ^ g.ws.length ≤ 1024 := Nat.pow_le_pow_right (by omega) hgl
  have hfr := free_spec (k := k) hgl hf
  by_cases h0 : f = 0
  · subst h0
    rw [show mem 0 = [] from by decide] at hfr
    change FDet Tryd.prog _ _ _ _ (.c .nils) [] 0 at hfr
    refine FSpec.of_body tok true Tryd.func14 rfl (by kernel_rfl) (by decide) (by simp [tupA, hpLt, tmLt, AV.lt, AE.lt, AC.lt, LL_cons, LL_nil, idOk, ABlk.lt, ints_LL, GB, tab64_LL, gC, wB, giC, noneB, gst, tC, pC, gN, gR, rC, rB]) (by simp [tupA, hpLt, tmLt, AV.lt, AE.lt, AC.lt, LL_cons, LL_nil, idOk, ABlk.lt, ints_LL, GB, tab64_LL, gC, wB, giC, noneB, gst, tC, pC, gN, gR, rC, rB]) (by show 3 ≤ _; decide) ?_
    refine Wk.on ?_
    refine CallA.det [0] (.g (gC g 2)) ([(1, .own (rC x 0)), (0, rB x), (100002, .ro tab64), (100000, noneB), (2, .row 60 2 (ints (fl g.ws)))]) (ht) (by first | rfl | exact congrArg AV.g (ints_ren _ _) | (simp [ints_ren, AV.ren, ABlk.ren, AC.ren, AE.ren, qq]; done)) rfl (by (repeat (first | exact trivial | refine ⟨⟨(by first | exact .inl (by decide) | exact .inr (by decide)), (by first | (refine Or.inl ?_; first | rfl | exact congrArg some (ints_ren _ _).symm | exact congrArg ABlk.own (ints_ren _ _).symm | exact congrArg some (tab64_ren _).symm | exact congrArg (ABlk.row _ _) (ints_ren _ _).symm) | rfl | exact congrArg some (ints_ren _ _).symm | exact congrArg ABlk.own (ints_ren _ _).symm | exact congrArg some (tab64_ren _).symm | exact congrArg (ABlk.row _ _) (ints_ren _ _).symm | exact Or.inr ⟨rfl, rfl⟩)⟩, ?_⟩))) (by first | rfl | exact congrArg AV.g (ints_ren _ _) | (simp [ints_ren, AV.ren, ABlk.ren, AC.ren, AE.ren, qq]; done)) (by first | rfl | (simp [behind, gone, lk, up, del, qq, ABlk.wr, GB, ints_ren, AV.ren, ABlk.ren, AC.ren, AE.ren]; done) | (simp [behind, gone, lk, up, del, qq, ABlk.wr, GB, ints_ren, AV.ren, ABlk.ren, AC.ren, AE.ren]; rfl)) ?_
    refine Wk.on ?_
    refine CallA.det [2] (.g (gC g 4)) ([(3, .own (gC g 2)), (1, .own (rC x 0)), (0, rB x), (100002, .ro tab64), (100000, noneB), (2, .row 60 2 (ints (fl g.ws))), (4, .row 60 2 (ints (fl g.ws)))]) (hgv) (by first | rfl | exact congrArg AV.g (ints_ren _ _) | (simp [ints_ren, AV.ren, ABlk.ren, AC.ren, AE.ren, qq]; done)) rfl (by (repeat (first | exact trivial | refine ⟨⟨(by first | exact .inl (by decide) | exact .inr (by decide)), (by first | (refine Or.inl ?_; first | rfl | exact congrArg some (ints_ren _ _).symm | exact congrArg ABlk.own (ints_ren _ _).symm | exact congrArg some (tab64_ren _).symm | exact congrArg (ABlk.row _ _) (ints_ren _ _).symm) | rfl | exact congrArg some (ints_ren _ _).symm | exact congrArg ABlk.own (ints_ren _ _).symm | exact congrArg some (tab64_ren _).symm | exact congrArg (ABlk.row _ _) (ints_ren _ _).symm | exact Or.inr ⟨rfl, rfl⟩)⟩, ?_⟩))) (by first | rfl | exact congrArg AV.g (ints_ren _ _) | (simp [ints_ren, AV.ren, ABlk.ren, AC.ren, AE.ren, qq]; done)) (by first | rfl | (simp [behind, gone, lk, up, del, qq, ABlk.wr, GB, ints_ren, AV.ren, ABlk.ren, AC.ren, AE.ren]; done) | (simp [behind, gone, lk, up, del, qq, ABlk.wr, GB, ints_ren, AV.ren, ABlk.ren, AC.ren, AE.ren]; rfl)) ?_
    refine Wk.on ?_
    refine CallA.ro [2] (.c (.str (posB g.ws.length 0 k))) (hpn) (by first | rfl | exact congrArg AV.g (ints_ren _ _) | (simp [ints_ren, AV.ren, ABlk.ren, AC.ren, AE.ren, qq]; done)) rfl (by (repeat (first | exact trivial | refine ⟨⟨(by first | exact .inl (by decide) | exact .inr (by decide)), (by first | (refine Or.inl ?_; first | rfl | exact congrArg some (ints_ren _ _).symm | exact congrArg ABlk.own (ints_ren _ _).symm | exact congrArg some (tab64_ren _).symm | exact congrArg (ABlk.row _ _) (ints_ren _ _).symm) | rfl | exact congrArg some (ints_ren _ _).symm | exact congrArg ABlk.own (ints_ren _ _).symm | exact congrArg some (tab64_ren _).symm | exact congrArg (ABlk.row _ _) (ints_ren _ _).symm | exact Or.inr ⟨rfl, rfl⟩)⟩, ?_⟩))) (by first | rfl | exact congrArg AV.g (ints_ren _ _) | (simp [ints_ren, AV.ren, ABlk.ren, AC.ren, AE.ren, qq]; done)) ?_
    refine Wk.on ?_
    refine CallA.ro [] (.c .nils) (hfr) (by first | rfl | exact congrArg AV.g (ints_ren _ _) | (simp [ints_ren, AV.ren, ABlk.ren, AC.ren, AE.ren, qq]; done)) rfl (by (repeat (first | exact trivial | refine ⟨⟨(by first | exact .inl (by decide) | exact .inr (by decide)), (by first | (refine Or.inl ?_; first | rfl | exact congrArg some (ints_ren _ _).symm | exact congrArg ABlk.own (ints_ren _ _).symm | exact congrArg some (tab64_ren _).symm | exact congrArg (ABlk.row _ _) (ints_ren _ _).symm) | rfl | exact congrArg some (ints_ren _ _).symm | exact congrArg ABlk.own (ints_ren _ _).symm | exact congrArg some (tab64_ren _).symm | exact congrArg (ABlk.row _ _) (ints_ren _ _).symm | exact Or.inr ⟨rfl, rfl⟩)⟩, ?_⟩))) (by first | rfl | exact congrArg AV.g (ints_ren _ _) | (simp [ints_ren, AV.ren, ABlk.ren, AC.ren, AE.ren, qq]; done)) ?_
    refine Wk.on ?_
    refine CallA.ro [] (.c (.bool true)) (awake_spec) (by first | rfl | exact congrArg AV.g (ints_ren _ _) | (simp [ints_ren, AV.ren, ABlk.ren, AC.ren, AE.ren, qq]; done)) rfl (by (repeat (first | exact trivial | refine ⟨⟨(by first | exact .inl (by decide) | exact .inr (by decide)), (by first | (refine Or.inl ?_; first | rfl | exact congrArg some (ints_ren _ _).symm | exact congrArg ABlk.own (ints_ren _ _).symm | exact congrArg some (tab64_ren _).symm | exact congrArg (ABlk.row _ _) (ints_ren _ _).symm) | rfl | exact congrArg some (ints_ren _ _).symm | exact congrArg ABlk.own (ints_ren _ _).symm | exact congrArg some (tab64_ren _).symm | exact congrArg (ABlk.row _ _) (ints_ren _ _).symm | exact Or.inr ⟨rfl, rfl⟩)⟩, ?_⟩))) (by first | rfl | exact congrArg AV.g (ints_ren _ _) | (simp [ints_ren, AV.ren, ABlk.ren, AC.ren, AE.ren, qq]; done)) ?_
    refine Wk.on ?_
    exact AH.Fin.nil [] ⟨rfl, rfl, rfl⟩ (by first | exact trivial | (simp [tupA, hpLt, tmLt, AV.lt, AE.lt, AC.lt, LL_cons, LL_nil, idOk, ABlk.lt, ints_LL, GB, tab64_LL, gC, wB, giC, noneB, gst, tC, pC, gN, gR, rC, rB]; done) | (simp [tupA, hpLt, tmLt, AV.lt, AE.lt, AC.lt, LL_cons, LL_nil, idOk, ABlk.lt, ints_LL, GB, tab64_LL, gC, wB, giC, noneB, gst, tC, pC, gN, gR, rC, rB, rdn, wrn]; done)) trivial trivial rfl (by simp [GB])
  · obtain ⟨w0, ws, hw0⟩ : ∃ w0 ws, mem f = w0 :: ws := by
      cases hq : mem f with
      | nil =>
        have := pop_pos f (by omega) (by omega)
        have h2 : (mem f).length = pop f := by simp [mem, pop]
        rw [hq] at h2; simp at h2; omega
      | cons a b => exact ⟨a, b, rfl⟩
    have hwl : ws.length + 1 ≤ 10 := by
      have := mem_len (n := f) (by omega)
      rw [hw0] at this; exact this
    rw [hw0] at hfr
    change FDet Tryd.prog _ _ _ _ (.c (.row 0 (ws.length + 1))) [(0, .row 3 1 (ints (w0 :: ws)))] 1 at hfr
    have hum := um_lt n (n := ws.length + 1) (by omega)
    have hv : (w0 :: ws).getD (um n (ws.length + 1)) 0 ∈ mem f := by
      rw [hw0, List.getD_eq_getElem?_getD, List.getElem?_eq_getElem (by rw [List.length_cons]; exact hum)]
      exact List.getElem_mem _
    obtain ⟨w, hwe, hlw, hwb, hkb, hoff, hpop, hk2, hd1, hd2⟩ := wire_facts hgm.ok hf hk hd hv
    have hll : (ints (w0 :: ws)).length = ws.length + 1 := by rw [ints_len]; rfl
    have hwo := without_rs hgm hlw
    have hlg := lessG_game hgm hT w
    have hk0 := kind_spec hgm
    have hk1 := kind_spec hlg
    have hls1 : W (lessG g w) (2 ^ (lessG g w).ws.length - 1) 0 true = true → W g (2 ^ g.ws.length - 1) 0 true = true := W_less hgm.ok hlw
    have hls2 : W (lessG g w) (2 ^ (lessG g w).ws.length - 1) 0 false = true → W g (2 ^ g.ws.length - 1) 0 false = true := W_less hgm.ok hlw
    rw [show kindB g = kindS (W g (2 ^ g.ws.length - 1) 0 true) (W g (2 ^ g.ws.length - 1) 0 false) from rfl] at hk0
    rw [show kindB (lessG g w) = kindS (W (lessG g w) (2 ^ (lessG g w).ws.length - 1) 0 true) (W (lessG g w) (2 ^ (lessG g w).ws.length - 1) 0 false) from rfl] at hk1
    generalize W (lessG g w) (2 ^ (lessG g w).ws.length - 1) 0 true = a1 at *
    generalize W (lessG g w) (2 ^ (lessG g w).ws.length - 1) 0 false = b1 at *
    generalize W g (2 ^ g.ws.length - 1) 0 true = a0 at *
    generalize W g (2 ^ g.ws.length - 1) 0 false = b0 at *
    have hwor : worthN a1 b1 ≤ worthN a0 b0 := by
      revert hls1 hls2
      cases a1 <;> cases b1 <;> cases a0 <;> cases b0 <;> simp [worthN]
    generalize lessG g w = h at *
    refine FSpec.of_body tok true Tryd.func14 rfl (by kernel_rfl) (by decide) (by simp [tupA, hpLt, tmLt, AV.lt, AE.lt, AC.lt, LL_cons, LL_nil, idOk, ABlk.lt, ints_LL, GB, tab64_LL, gC, wB, giC, noneB, gst, tC, pC, gN, gR, rC, rB]) (by simp [tupA, hpLt, tmLt, AV.lt, AE.lt, AC.lt, LL_cons, LL_nil, idOk, ABlk.lt, ints_LL, GB, tab64_LL, gC, wB, giC, noneB, gst, tC, pC, gN, gR, rC, rB]) (by show 3 ≤ _; decide) ?_
    refine Wk.on ?_
    refine CallA.det [0] (.g (gC g 2)) ([(1, .own (rC x 0)), (0, rB x), (100002, .ro tab64), (100000, noneB), (2, .row 60 2 (ints (fl g.ws)))]) (ht) (by first | rfl | exact congrArg AV.g (ints_ren _ _) | (simp [ints_ren, AV.ren, ABlk.ren, AC.ren, AE.ren, qq]; done)) rfl (by (repeat (first | exact trivial | refine ⟨⟨(by first | exact .inl (by decide) | exact .inr (by decide)), (by first | (refine Or.inl ?_; first | rfl | exact congrArg some (ints_ren _ _).symm | exact congrArg ABlk.own (ints_ren _ _).symm | exact congrArg some (tab64_ren _).symm | exact congrArg (ABlk.row _ _) (ints_ren _ _).symm) | rfl | exact congrArg some (ints_ren _ _).symm | exact congrArg ABlk.own (ints_ren _ _).symm | exact congrArg some (tab64_ren _).symm | exact congrArg (ABlk.row _ _) (ints_ren _ _).symm | exact Or.inr ⟨rfl, rfl⟩)⟩, ?_⟩))) (by first | rfl | exact congrArg AV.g (ints_ren _ _) | (simp [ints_ren, AV.ren, ABlk.ren, AC.ren, AE.ren, qq]; done)) (by first | rfl | (simp [behind, gone, lk, up, del, qq, ABlk.wr, GB, ints_ren, AV.ren, ABlk.ren, AC.ren, AE.ren]; done) | (simp [behind, gone, lk, up, del, qq, ABlk.wr, GB, ints_ren, AV.ren, ABlk.ren, AC.ren, AE.ren]; rfl)) ?_
    refine Wk.on ?_
    refine CallA.det [2] (.g (gC g 4)) ([(3, .own (gC g 2)), (1, .own (rC x 0)), (0, rB x), (100002, .ro tab64), (100000, noneB), (2, .row 60 2 (ints (fl g.ws))), (4, .row 60 2 (ints (fl g.ws)))]) (hgv) (by first | rfl | exact congrArg AV.g (ints_ren _ _) | (simp [ints_ren, AV.ren, ABlk.ren, AC.ren, AE.ren, qq]; done)) rfl (by (repeat (first | exact trivial | refine ⟨⟨(by first | exact .inl (by decide) | exact .inr (by decide)), (by first | (refine Or.inl ?_; first | rfl | exact congrArg some (ints_ren _ _).symm | exact congrArg ABlk.own (ints_ren _ _).symm | exact congrArg some (tab64_ren _).symm | exact congrArg (ABlk.row _ _) (ints_ren _ _).symm) | rfl | exact congrArg some (ints_ren _ _).symm | exact congrArg ABlk.own (ints_ren _ _).symm | exact congrArg some (tab64_ren _).symm | exact congrArg (ABlk.row _ _) (ints_ren _ _).symm | exact Or.inr ⟨rfl, rfl⟩)⟩, ?_⟩))) (by first | rfl | exact congrArg AV.g (ints_ren _ _) | (simp [ints_ren, AV.ren, ABlk.ren, AC.ren, AE.ren, qq]; done)) (by first | rfl | (simp [behind, gone, lk, up, del, qq, ABlk.wr, GB, ints_ren, AV.ren, ABlk.ren, AC.ren, AE.ren]; done) | (simp [behind, gone, lk, up, del, qq, ABlk.wr, GB, ints_ren, AV.ren, ABlk.ren, AC.ren, AE.ren]; rfl)) ?_
    refine Wk.on ?_
    refine CallA.ro [2] (.c (.str (posB g.ws.length f k))) (hpn) (by first | rfl | exact congrArg AV.g (ints_ren _ _) | (simp [ints_ren, AV.ren, ABlk.ren, AC.ren, AE.ren, qq]; done)) rfl (by (repeat (first | exact trivial | refine ⟨⟨(by first | exact .inl (by decide) | exact .inr (by decide)), (by first | (refine Or.inl ?_; first | rfl | exact congrArg some (ints_ren _ _).symm | exact congrArg ABlk.own (ints_ren _ _).symm | exact congrArg some (tab64_ren _).symm | exact congrArg (ABlk.row _ _) (ints_ren _ _).symm) | rfl | exact congrArg some (ints_ren _ _).symm | exact congrArg ABlk.own (ints_ren _ _).symm | exact congrArg some (tab64_ren _).symm | exact congrArg (ABlk.row _ _) (ints_ren _ _).symm | exact Or.inr ⟨rfl, rfl⟩)⟩, ?_⟩))) (by first | rfl | exact congrArg AV.g (ints_ren _ _) | (simp [ints_ren, AV.ren, ABlk.ren, AC.ren, AE.ren, qq]; done)) ?_
    refine Wk.on ?_
    refine CallA.det [] (.c (.row 6 (ws.length + 1))) ([(5, .own (gC g 4)), (3, .own (gC g 2)), (1, .own (rC x 0)), (0, rB x), (100002, .ro tab64), (100000, noneB), (2, .row 60 2 (ints (fl g.ws))), (4, .row 60 2 (ints (fl g.ws))), (6, .row 3 1 (ints (w0 :: ws)))]) (hfr) (by first | rfl | exact congrArg AV.g (ints_ren _ _) | (simp [ints_ren, AV.ren, ABlk.ren, AC.ren, AE.ren, qq]; done)) rfl (by (repeat (first | exact trivial | refine ⟨⟨(by first | exact .inl (by decide) | exact .inr (by decide)), (by first | (refine Or.inl ?_; first | rfl | exact congrArg some (ints_ren _ _).symm | exact congrArg ABlk.own (ints_ren _ _).symm | exact congrArg some (tab64_ren _).symm | exact congrArg (ABlk.row _ _) (ints_ren _ _).symm) | rfl | exact congrArg some (ints_ren _ _).symm | exact congrArg ABlk.own (ints_ren _ _).symm | exact congrArg some (tab64_ren _).symm | exact congrArg (ABlk.row _ _) (ints_ren _ _).symm | exact Or.inr ⟨rfl, rfl⟩)⟩, ?_⟩))) (by first | rfl | exact congrArg AV.g (ints_ren _ _) | (simp [ints_ren, AV.ren, ABlk.ren, AC.ren, AE.ren, qq]; done)) (by first | rfl | (simp [behind, gone, lk, up, del, qq, ABlk.wr, GB, ints_ren, AV.ren, ABlk.ren, AC.ren, AE.ren]; done) | (simp [behind, gone, lk, up, del, qq, ABlk.wr, GB, ints_ren, AV.ren, ABlk.ren, AC.ren, AE.ren]; rfl)) ?_
    refine Wk.on ?_
    rw [decide_eq_false (show ¬ ((ws.length + 1 : Nat) : Int) = 0 by omega)]
    refine Wk.on ?_
    rw [wrapU (by omega)]
    refine ⟨⟨wrap_nn _, by omega⟩, ?_⟩
    refine Wk.on ?_
    rw [um_wrap _ (by omega) (by omega)]
    refine Wk.on ?_
    simp only [ints_getD, Int.toNat_natCast, Nat.zero_add, Nat.mul_one]
    rw [hwe]
    refine Tr.loop (md := true) (X := Nat) (st := fun i => ⟨[(7, .c (.ptr 3 0)), (8, .c (.ptr 5 0)), (9, .c (.str (posB g.ws.length f k))), (11, .c (.int .i64 w)), (12, .c (.int .i64 i))], [(5, .own (gC g 4)), (3, .own (gC g 2)), (1, .own (rC x 0)), (0, rB x), (100002, .ro tab64), (100000, noneB), (2, .row 60 2 (ints (fl g.ws))), (4, .row 60 2 (ints (fl g.ws)))], 7, 140, 1⟩) (inv := fun i => i ≤ 2) (μ := fun i => 2 - i) (x0 := 0) (l := []) tok (by omega) ?_ ?_
    · exact Sub.nil ⟨rfl, rfl, (by simp [tab64_LL, gC, wB, giC, noneB, gst, tC, pC, gN, gR, rC, rB]), rfl, (by simp [tupA, hpLt, tmLt, AV.lt, AE.lt, AC.lt, LL_cons, LL_nil, idOk, ABlk.lt, ints_LL, GB, tab64_LL, gC, wB, giC, noneB, gst, tC, pC, gN, gR, rC, rB]), (by simp [tupA, hpLt, tmLt, AV.lt, AE.lt, AC.lt, LL_cons, LL_nil, idOk, ABlk.lt, ints_LL, GB, tab64_LL, gC, wB, giC, noneB, gst, tC, pC, gN, gR, rC, rB])⟩ (by (repeat (first | exact trivial | refine ⟨trivial, ?_⟩ | refine ⟨rfl, ?_⟩))) (by (repeat (first | exact trivial | refine ⟨trivial, ?_⟩ | refine ⟨rfl, ?_⟩)))
    · intro i hi
      match i, hi with
      | 0, _ =>
        have hwp := winsP_spec hgm hf hk hd true
        have hwk := winsP_spec hgm (f := offN f w) (k := k ||| 2 ^ w) (by omega) hk2 hd2 true
        have hwc := winsP_spec hgm (f := offN f w) (k := k) (by omega) hk hd1 true
        have k1 : W g f k true = true → W g (offN f w) (k ||| 2 ^ w) true = true := W_keep hgm.ok hf hk hwb
        have k2 : W g (offN f w) k true = true → W g f k true = true := W_cut hgm.ok hf hk hwb
        generalize W g f k true = a at *
        generalize W g (offN f w) (k ||| 2 ^ w) true = b at *
        generalize W g (offN f w) k true = d at *
        refine Wk.on ?_
        refine CallA.ro [4] (.t [.c (.bool a), .c (.int .i64 0)]) (hwp) (by first | rfl | exact congrArg AV.g (ints_ren _ _) | (simp [ints_ren, AV.ren, ABlk.ren, AC.ren, AE.ren, qq]; done)) rfl (by (repeat (first | exact trivial | refine ⟨⟨(by first | exact .inl (by decide) | exact .inr (by decide)), (by first | (refine Or.inl ?_; first | rfl | exact congrArg some (ints_ren _ _).symm | exact congrArg ABlk.own (ints_ren _ _).symm | exact congrArg some (tab64_ren _).symm | exact congrArg (ABlk.row _ _) (ints_ren _ _).symm) | rfl | exact congrArg some (ints_ren _ _).symm | exact congrArg ABlk.own (ints_ren _ _).symm | exact congrArg some (tab64_ren _).symm | exact congrArg (ABlk.row _ _) (ints_ren _ _).symm | exact Or.inr ⟨rfl, rfl⟩)⟩, ?_⟩))) (by first | rfl | exact congrArg AV.g (ints_ren _ _) | (simp [ints_ren, AV.ren, ABlk.ren, AC.ren, AE.ren, qq]; done)) ?_
        refine Wk.on ?_
        refine Tr.draw (md := true) [⟨[], [62, 63, 64, 65, 66], [], [], []⟩, ⟨[], [61, 63, 65, 66], [0], [], []⟩, ⟨[], [61, 62, 65, 66], [0, 1], [], []⟩, ⟨[1, 2], [61, 65, 66], [0], [], []⟩, ⟨[], [61, 62, 63, 64], [0, 1, 2, 3], [], []⟩, ⟨[4], [61, 62, 63, 64], [0, 1, 2, 3], [], []⟩, ⟨[0, 1, 2, 3, 4, 5], [], [], [], []⟩, ⟨[0, 1, 2, 3, 4, 5, 6], [], [], [], []⟩, ⟨[0, 1, 2, 3, 4, 5, 6, 7], [69], [], [], []⟩, ⟨[0, 1, 2, 3, 4, 5, 6, 7], [15, 68], [8], [], []⟩, ⟨[0, 1, 2, 3, 4, 5, 6, 7, 8], [69], [9], [], []⟩] tok (by kernel_rfl) (by kernel_rfl) ?_
        refine Wk.on ?_
        refine CallQ.ro [] (.c (.str (posB g.ws.length (offN f w) (k ||| 2 ^ w)))) (put_spec (ch := 43) hgl hlw (pos_keep hgl hf hlw)) (by first | rfl | exact congrArg AV.g (ints_ren _ _) | (simp [ints_ren, AV.ren, ABlk.ren, AC.ren, AE.ren, qq]; done)) rfl (by (repeat (first | exact trivial | refine ⟨⟨(by first | exact .inl (by decide) | exact .inr (by decide)), (by first | (refine Or.inl ?_; first | rfl | exact congrArg some (ints_ren _ _).symm | exact congrArg ABlk.own (ints_ren _ _).symm | exact congrArg some (tab64_ren _).symm | exact congrArg (ABlk.row _ _) (ints_ren _ _).symm) | rfl | exact congrArg some (ints_ren _ _).symm | exact congrArg ABlk.own (ints_ren _ _).symm | exact congrArg some (tab64_ren _).symm | exact congrArg (ABlk.row _ _) (ints_ren _ _).symm | exact Or.inr ⟨rfl, rfl⟩)⟩, ?_⟩))) (by first | rfl | exact congrArg AV.g (ints_ren _ _) | (simp [ints_ren, AV.ren, ABlk.ren, AC.ren, AE.ren, qq]; done)) ?_
        refine Wk.on ?_
        refine CallQ.ro [4] (.t [.c (.bool b), .c (.int .i64 0)]) (hwk) (by first | rfl | exact congrArg AV.g (ints_ren _ _) | (simp [ints_ren, AV.ren, ABlk.ren, AC.ren, AE.ren, qq]; done)) rfl (by (repeat (first | exact trivial | refine ⟨⟨(by first | exact .inl (by decide) | exact .inr (by decide)), (by first | (refine Or.inl ?_; first | rfl | exact congrArg some (ints_ren _ _).symm | exact congrArg ABlk.own (ints_ren _ _).symm | exact congrArg some (tab64_ren _).symm | exact congrArg (ABlk.row _ _) (ints_ren _ _).symm) | rfl | exact congrArg some (ints_ren _ _).symm | exact congrArg ABlk.own (ints_ren _ _).symm | exact congrArg some (tab64_ren _).symm | exact congrArg (ABlk.row _ _) (ints_ren _ _).symm | exact Or.inr ⟨rfl, rfl⟩)⟩, ?_⟩))) (by first | rfl | exact congrArg AV.g (ints_ren _ _) | (simp [ints_ren, AV.ren, ABlk.ren, AC.ren, AE.ren, qq]; done)) ?_
        refine Wk.on ?_
        refine Tr.draw (md := true) [⟨[], [72, 73, 74, 75, 76], [], [], []⟩, ⟨[], [71, 73, 75, 76], [0], [], []⟩, ⟨[], [71, 72, 75, 76], [0, 1], [], []⟩, ⟨[1, 2], [71, 75, 76], [0], [], []⟩, ⟨[], [71, 72, 73, 74], [0, 1, 2, 3], [], []⟩, ⟨[4], [71, 72, 73, 74], [0, 1, 2, 3], [], []⟩, ⟨[0, 1, 2, 3, 4, 5], [], [], [], []⟩, ⟨[0, 1, 2, 3, 4, 5, 6], [], [], [], []⟩, ⟨[0, 1, 2, 3, 4, 5, 6, 7], [79], [], [], []⟩, ⟨[0, 1, 2, 3, 4, 5, 6, 7], [17, 78], [8], [], []⟩, ⟨[0, 1, 2, 3, 4, 5, 6, 7, 8], [79], [9], [], []⟩] tok (by kernel_rfl) (by kernel_rfl) ?_
        refine Wk.on ?_
        refine CallQ.ro [] (.c (.str (posB g.ws.length (offN f w) k))) (put_spec (ch := 45) hgl hlw (pos_cut hgl hf hlw hkb)) (by first | rfl | exact congrArg AV.g (ints_ren _ _) | (simp [ints_ren, AV.ren, ABlk.ren, AC.ren, AE.ren, qq]; done)) rfl (by (repeat (first | exact trivial | refine ⟨⟨(by first | exact .inl (by decide) | exact .inr (by decide)), (by first | (refine Or.inl ?_; first | rfl | exact congrArg some (ints_ren _ _).symm | exact congrArg ABlk.own (ints_ren _ _).symm | exact congrArg some (tab64_ren _).symm | exact congrArg (ABlk.row _ _) (ints_ren _ _).symm) | rfl | exact congrArg some (ints_ren _ _).symm | exact congrArg ABlk.own (ints_ren _ _).symm | exact congrArg some (tab64_ren _).symm | exact congrArg (ABlk.row _ _) (ints_ren _ _).symm | exact Or.inr ⟨rfl, rfl⟩)⟩, ?_⟩))) (by first | rfl | exact congrArg AV.g (ints_ren _ _) | (simp [ints_ren, AV.ren, ABlk.ren, AC.ren, AE.ren, qq]; done)) ?_
        refine Wk.on ?_
        refine CallQ.ro [4] (.t [.c (.bool d), .c (.int .i64 0)]) (hwc) (by first | rfl | exact congrArg AV.g (ints_ren _ _) | (simp [ints_ren, AV.ren, ABlk.ren, AC.ren, AE.ren, qq]; done)) rfl (by (repeat (first | exact trivial | refine ⟨⟨(by first | exact .inl (by decide) | exact .inr (by decide)), (by first | (refine Or.inl ?_; first | rfl | exact congrArg some (ints_ren _ _).symm | exact congrArg ABlk.own (ints_ren _ _).symm | exact congrArg some (tab64_ren _).symm | exact congrArg (ABlk.row _ _) (ints_ren _ _).symm) | rfl | exact congrArg some (ints_ren _ _).symm | exact congrArg ABlk.own (ints_ren _ _).symm | exact congrArg some (tab64_ren _).symm | exact congrArg (ABlk.row _ _) (ints_ren _ _).symm | exact Or.inr ⟨rfl, rfl⟩)⟩, ?_⟩))) (by first | rfl | exact congrArg AV.g (ints_ren _ _) | (simp [ints_ren, AV.ren, ABlk.ren, AC.ren, AE.ren, qq]; done)) ?_
        refine Wk.on ?_
        cases a <;> cases b <;> cases d <;> first | exact absurd (k1 rfl) (by decide) | exact absurd (k2 rfl) (by decide) | skip
        all_goals refine Wk.on ?_
        all_goals refine Again.mk (1) (Sub.nil ⟨rfl, rfl, (by simp [tab64_LL, gC, wB, giC, noneB, gst, tC, pC, gN, gR, rC, rB]), rfl, (by simp [tupA, hpLt, tmLt, AV.lt, AE.lt, AC.lt, LL_cons, LL_nil, idOk, ABlk.lt, ints_LL, GB, tab64_LL, gC, wB, giC, noneB, gst, tC, pC, gN, gR, rC, rB]), (by simp [tupA, hpLt, tmLt, AV.lt, AE.lt, AC.lt, LL_cons, LL_nil, idOk, ABlk.lt, ints_LL, GB, tab64_LL, gC, wB, giC, noneB, gst, tC, pC, gN, gR, rC, rB])⟩ (by (repeat (first | exact trivial | refine ⟨trivial, ?_⟩ | refine ⟨rfl, ?_⟩))) (by (repeat (first | exact trivial | refine ⟨trivial, ?_⟩ | refine ⟨rfl, ?_⟩)))) (by omega) (by omega)
      | 1, _ =>
        have hwp := winsP_spec hgm hf hk hd false
        have hwk := winsP_spec hgm (f := offN f w) (k := k ||| 2 ^ w) (by omega) hk2 hd2 false
        have hwc := winsP_spec hgm (f := offN f w) (k := k) (by omega) hk hd1 false
        have k1 : W g f k false = true → W g (offN f w) (k ||| 2 ^ w) false = true := W_keep hgm.ok hf hk hwb
        have k2 : W g (offN f w) k false = true → W g f k false = true := W_cut hgm.ok hf hk hwb
        generalize W g f k false = a at *
        generalize W g (offN f w) (k ||| 2 ^ w) false = b at *
        generalize W g (offN f w) k false = d at *
        refine Wk.on ?_
        refine CallA.ro [4] (.t [.c (.bool a), .c (.int .i64 0)]) (hwp) (by first | rfl | exact congrArg AV.g (ints_ren _ _) | (simp [ints_ren, AV.ren, ABlk.ren, AC.ren, AE.ren, qq]; done)) rfl (by (repeat (first | exact trivial | refine ⟨⟨(by first | exact .inl (by decide) | exact .inr (by decide)), (by first | (refine Or.inl ?_; first | rfl | exact congrArg some (ints_ren _ _).symm | exact congrArg ABlk.own (ints_ren _ _).symm | exact congrArg some (tab64_ren _).symm | exact congrArg (ABlk.row _ _) (ints_ren _ _).symm) | rfl | exact congrArg some (ints_ren _ _).symm | exact congrArg ABlk.own (ints_ren _ _).symm | exact congrArg some (tab64_ren _).symm | exact congrArg (ABlk.row _ _) (ints_ren _ _).symm | exact Or.inr ⟨rfl, rfl⟩)⟩, ?_⟩))) (by first | rfl | exact congrArg AV.g (ints_ren _ _) | (simp [ints_ren, AV.ren, ABlk.ren, AC.ren, AE.ren, qq]; done)) ?_
        refine Wk.on ?_
        refine Tr.draw (md := true) [⟨[], [62, 63, 64, 65, 66], [], [], []⟩, ⟨[], [61, 63, 65, 66], [0], [], []⟩, ⟨[], [61, 62, 65, 66], [0, 1], [], []⟩, ⟨[1, 2], [61, 65, 66], [0], [], []⟩, ⟨[], [61, 62, 63, 64], [0, 1, 2, 3], [], []⟩, ⟨[4], [61, 62, 63, 64], [0, 1, 2, 3], [], []⟩, ⟨[0, 1, 2, 3, 4, 5], [], [], [], []⟩, ⟨[0, 1, 2, 3, 4, 5, 6], [], [], [], []⟩, ⟨[0, 1, 2, 3, 4, 5, 6, 7], [69], [], [], []⟩, ⟨[0, 1, 2, 3, 4, 5, 6, 7], [15, 68], [8], [], []⟩, ⟨[0, 1, 2, 3, 4, 5, 6, 7, 8], [69], [9], [], []⟩] tok (by kernel_rfl) (by kernel_rfl) ?_
        refine Wk.on ?_
        refine CallQ.ro [] (.c (.str (posB g.ws.length (offN f w) (k ||| 2 ^ w)))) (put_spec (ch := 43) hgl hlw (pos_keep hgl hf hlw)) (by first | rfl | exact congrArg AV.g (ints_ren _ _) | (simp [ints_ren, AV.ren, ABlk.ren, AC.ren, AE.ren, qq]; done)) rfl (by (repeat (first | exact trivial | refine ⟨⟨(by first | exact .inl (by decide) | exact .inr (by decide)), (by first | (refine Or.inl ?_; first | rfl | exact congrArg some (ints_ren _ _).symm | exact congrArg ABlk.own (ints_ren _ _).symm | exact congrArg some (tab64_ren _).symm | exact congrArg (ABlk.row _ _) (ints_ren _ _).symm) | rfl | exact congrArg some (ints_ren _ _).symm | exact congrArg ABlk.own (ints_ren _ _).symm | exact congrArg some (tab64_ren _).symm | exact congrArg (ABlk.row _ _) (ints_ren _ _).symm | exact Or.inr ⟨rfl, rfl⟩)⟩, ?_⟩))) (by first | rfl | exact congrArg AV.g (ints_ren _ _) | (simp [ints_ren, AV.ren, ABlk.ren, AC.ren, AE.ren, qq]; done)) ?_
        refine Wk.on ?_
        refine CallQ.ro [4] (.t [.c (.bool b), .c (.int .i64 0)]) (hwk) (by first | rfl | exact congrArg AV.g (ints_ren _ _) | (simp [ints_ren, AV.ren, ABlk.ren, AC.ren, AE.ren, qq]; done)) rfl (by (repeat (first | exact trivial | refine ⟨⟨(by first | exact .inl (by decide) | exact .inr (by decide)), (by first | (refine Or.inl ?_; first | rfl | exact congrArg some (ints_ren _ _).symm | exact congrArg ABlk.own (ints_ren _ _).symm | exact congrArg some (tab64_ren _).symm | exact congrArg (ABlk.row _ _) (ints_ren _ _).symm) | rfl | exact congrArg some (ints_ren _ _).symm | exact congrArg ABlk.own (ints_ren _ _).symm | exact congrArg some (tab64_ren _).symm | exact congrArg (ABlk.row _ _) (ints_ren _ _).symm | exact Or.inr ⟨rfl, rfl⟩)⟩, ?_⟩))) (by first | rfl | exact congrArg AV.g (ints_ren _ _) | (simp [ints_ren, AV.ren, ABlk.ren, AC.ren, AE.ren, qq]; done)) ?_
        refine Wk.on ?_
        refine Tr.draw (md := true) [⟨[], [72, 73, 74, 75, 76], [], [], []⟩, ⟨[], [71, 73, 75, 76], [0], [], []⟩, ⟨[], [71, 72, 75, 76], [0, 1], [], []⟩, ⟨[1, 2], [71, 75, 76], [0], [], []⟩, ⟨[], [71, 72, 73, 74], [0, 1, 2, 3], [], []⟩, ⟨[4], [71, 72, 73, 74], [0, 1, 2, 3], [], []⟩, ⟨[0, 1, 2, 3, 4, 5], [], [], [], []⟩, ⟨[0, 1, 2, 3, 4, 5, 6], [], [], [], []⟩, ⟨[0, 1, 2, 3, 4, 5, 6, 7], [79], [], [], []⟩, ⟨[0, 1, 2, 3, 4, 5, 6, 7], [17, 78], [8], [], []⟩, ⟨[0, 1, 2, 3, 4, 5, 6, 7, 8], [79], [9], [], []⟩] tok (by kernel_rfl) (by kernel_rfl) ?_
        refine Wk.on ?_
        refine CallQ.ro [] (.c (.str (posB g.ws.length (offN f w) k))) (put_spec (ch := 45) hgl hlw (pos_cut hgl hf hlw hkb)) (by first | rfl | exact congrArg AV.g (ints_ren _ _) | (simp [ints_ren, AV.ren, ABlk.ren, AC.ren, AE.ren, qq]; done)) rfl (by (repeat (first | exact trivial | refine ⟨⟨(by first | exact .inl (by decide) | exact .inr (by decide)), (by first | (refine Or.inl ?_; first | rfl | exact congrArg some (ints_ren _ _).symm | exact congrArg ABlk.own (ints_ren _ _).symm | exact congrArg some (tab64_ren _).symm | exact congrArg (ABlk.row _ _) (ints_ren _ _).symm) | rfl | exact congrArg some (ints_ren _ _).symm | exact congrArg ABlk.own (ints_ren _ _).symm | exact congrArg some (tab64_ren _).symm | exact congrArg (ABlk.row _ _) (ints_ren _ _).symm | exact Or.inr ⟨rfl, rfl⟩)⟩, ?_⟩))) (by first | rfl | exact congrArg AV.g (ints_ren _ _) | (simp [ints_ren, AV.ren, ABlk.ren, AC.ren, AE.ren, qq]; done)) ?_
        refine Wk.on ?_
        refine CallQ.ro [4] (.t [.c (.bool d), .c (.int .i64 0)]) (hwc) (by first | rfl | exact congrArg AV.g (ints_ren _ _) | (simp [ints_ren, AV.ren, ABlk.ren, AC.ren, AE.ren, qq]; done)) rfl (by (repeat (first | exact trivial | refine ⟨⟨(by first | exact .inl (by decide) | exact .inr (by decide)), (by first | (refine Or.inl ?_; first | rfl | exact congrArg some (ints_ren _ _).symm | exact congrArg ABlk.own (ints_ren _ _).symm | exact congrArg some (tab64_ren _).symm | exact congrArg (ABlk.row _ _) (ints_ren _ _).symm) | rfl | exact congrArg some (ints_ren _ _).symm | exact congrArg ABlk.own (ints_ren _ _).symm | exact congrArg some (tab64_ren _).symm | exact congrArg (ABlk.row _ _) (ints_ren _ _).symm | exact Or.inr ⟨rfl, rfl⟩)⟩, ?_⟩))) (by first | rfl | exact congrArg AV.g (ints_ren _ _) | (simp [ints_ren, AV.ren, ABlk.ren, AC.ren, AE.ren, qq]; done)) ?_
        refine Wk.on ?_
        cases a <;> cases b <;> cases d <;> first | exact absurd (k1 rfl) (by decide) | exact absurd (k2 rfl) (by decide) | skip
        all_goals refine Wk.on ?_
        all_goals refine Again.mk (2) (Sub.nil ⟨rfl, rfl, (by simp [tab64_LL, gC, wB, giC, noneB, gst, tC, pC, gN, gR, rC, rB]), rfl, (by simp [tupA, hpLt, tmLt, AV.lt, AE.lt, AC.lt, LL_cons, LL_nil, idOk, ABlk.lt, ints_LL, GB, tab64_LL, gC, wB, giC, noneB, gst, tC, pC, gN, gR, rC, rB]), (by simp [tupA, hpLt, tmLt, AV.lt, AE.lt, AC.lt, LL_cons, LL_nil, idOk, ABlk.lt, ints_LL, GB, tab64_LL, gC, wB, giC, noneB, gst, tC, pC, gN, gR, rC, rB])⟩ (by (repeat (first | exact trivial | refine ⟨trivial, ?_⟩ | refine ⟨rfl, ?_⟩))) (by (repeat (first | exact trivial | refine ⟨trivial, ?_⟩ | refine ⟨rfl, ?_⟩)))) (by omega) (by omega)
      | 2, _ =>
        refine Wk.on ?_
        refine CallA.det [4] (.t [.g (gC h 7), .c (.int .i64 0)]) ([(5, .own (gC g 4)), (3, .own (gC g 2)), (1, .own (rC x 0)), (0, rB x), (100002, .ro tab64), (100000, noneB), (2, .row 60 2 (ints (fl g.ws))), (4, .row 60 2 (ints (fl g.ws))), (7, .row 60 2 (ints (fl h.ws)))]) (hwo) (by first | rfl | exact congrArg AV.g (ints_ren _ _) | (simp [ints_ren, AV.ren, ABlk.ren, AC.ren, AE.ren, qq]; done)) rfl (by (repeat (first | exact trivial | refine ⟨⟨(by first | exact .inl (by decide) | exact .inr (by decide)), (by first | (refine Or.inl ?_; first | rfl | exact congrArg some (ints_ren _ _).symm | exact congrArg ABlk.own (ints_ren _ _).symm | exact congrArg some (tab64_ren _).symm | exact congrArg (ABlk.row _ _) (ints_ren _ _).symm) | rfl | exact congrArg some (ints_ren _ _).symm | exact congrArg ABlk.own (ints_ren _ _).symm | exact congrArg some (tab64_ren _).symm | exact congrArg (ABlk.row _ _) (ints_ren _ _).symm | exact Or.inr ⟨rfl, rfl⟩)⟩, ?_⟩))) (by first | rfl | exact congrArg AV.g (ints_ren _ _) | (simp [ints_ren, AV.ren, ABlk.ren, AC.ren, AE.ren, qq]; done)) (by first | rfl | (simp [behind, gone, lk, up, del, qq, ABlk.wr, GB, ints_ren, AV.ren, ABlk.ren, AC.ren, AE.ren]; done) | (simp [behind, gone, lk, up, del, qq, ABlk.wr, GB, ints_ren, AV.ren, ABlk.ren, AC.ren, AE.ren]; rfl)) ?_
        refine Wk.on ?_
        refine CallA.ro [4] (.t [.c (.str (kindS a0 b0)), .c (.int .i64 0)]) (hk0) (by first | rfl | exact congrArg AV.g (ints_ren _ _) | (simp [ints_ren, AV.ren, ABlk.ren, AC.ren, AE.ren, qq]; done)) rfl (by (repeat (first | exact trivial | refine ⟨⟨(by first | exact .inl (by decide) | exact .inr (by decide)), (by first | (refine Or.inl ?_; first | rfl | exact congrArg some (ints_ren _ _).symm | exact congrArg ABlk.own (ints_ren _ _).symm | exact congrArg some (tab64_ren _).symm | exact congrArg (ABlk.row _ _) (ints_ren _ _).symm) | rfl | exact congrArg some (ints_ren _ _).symm | exact congrArg ABlk.own (ints_ren _ _).symm | exact congrArg some (tab64_ren _).symm | exact congrArg (ABlk.row _ _) (ints_ren _ _).symm | exact Or.inr ⟨rfl, rfl⟩)⟩, ?_⟩))) (by first | rfl | exact congrArg AV.g (ints_ren _ _) | (simp [ints_ren, AV.ren, ABlk.ren, AC.ren, AE.ren, qq]; done)) ?_
        refine Wk.on ?_
        refine CallA.ro [7] (.t [.c (.str (kindS a1 b1)), .c (.int .i64 0)]) (hk1) (by first | rfl | exact congrArg AV.g (ints_ren _ _) | (simp [ints_ren, AV.ren, ABlk.ren, AC.ren, AE.ren, qq]; done)) rfl (by (repeat (first | exact trivial | refine ⟨⟨(by first | exact .inl (by decide) | exact .inr (by decide)), (by first | (refine Or.inl ?_; first | rfl | exact congrArg some (ints_ren _ _).symm | exact congrArg ABlk.own (ints_ren _ _).symm | exact congrArg some (tab64_ren _).symm | exact congrArg (ABlk.row _ _) (ints_ren _ _).symm) | rfl | exact congrArg some (ints_ren _ _).symm | exact congrArg ABlk.own (ints_ren _ _).symm | exact congrArg some (tab64_ren _).symm | exact congrArg (ABlk.row _ _) (ints_ren _ _).symm | exact Or.inr ⟨rfl, rfl⟩)⟩, ?_⟩))) (by first | rfl | exact congrArg AV.g (ints_ren _ _) | (simp [ints_ren, AV.ren, ABlk.ren, AC.ren, AE.ren, qq]; done)) ?_
        refine Wk.on ?_
        refine CallA.ro [] (.c (.int .i64 (worthN a1 b1))) (worth_spec a1 b1) (by first | rfl | exact congrArg AV.g (ints_ren _ _) | (simp [ints_ren, AV.ren, ABlk.ren, AC.ren, AE.ren, qq]; done)) rfl (by (repeat (first | exact trivial | refine ⟨⟨(by first | exact .inl (by decide) | exact .inr (by decide)), (by first | (refine Or.inl ?_; first | rfl | exact congrArg some (ints_ren _ _).symm | exact congrArg ABlk.own (ints_ren _ _).symm | exact congrArg some (tab64_ren _).symm | exact congrArg (ABlk.row _ _) (ints_ren _ _).symm) | rfl | exact congrArg some (ints_ren _ _).symm | exact congrArg ABlk.own (ints_ren _ _).symm | exact congrArg some (tab64_ren _).symm | exact congrArg (ABlk.row _ _) (ints_ren _ _).symm | exact Or.inr ⟨rfl, rfl⟩)⟩, ?_⟩))) (by first | rfl | exact congrArg AV.g (ints_ren _ _) | (simp [ints_ren, AV.ren, ABlk.ren, AC.ren, AE.ren, qq]; done)) ?_
        refine Wk.on ?_
        refine CallA.ro [] (.c (.int .i64 (worthN a0 b0))) (worth_spec a0 b0) (by first | rfl | exact congrArg AV.g (ints_ren _ _) | (simp [ints_ren, AV.ren, ABlk.ren, AC.ren, AE.ren, qq]; done)) rfl (by (repeat (first | exact trivial | refine ⟨⟨(by first | exact .inl (by decide) | exact .inr (by decide)), (by first | (refine Or.inl ?_; first | rfl | exact congrArg some (ints_ren _ _).symm | exact congrArg ABlk.own (ints_ren _ _).symm | exact congrArg some (tab64_ren _).symm | exact congrArg (ABlk.row _ _) (ints_ren _ _).symm) | rfl | exact congrArg some (ints_ren _ _).symm | exact congrArg ABlk.own (ints_ren _ _).symm | exact congrArg some (tab64_ren _).symm | exact congrArg (ABlk.row _ _) (ints_ren _ _).symm | exact Or.inr ⟨rfl, rfl⟩)⟩, ?_⟩))) (by first | rfl | exact congrArg AV.g (ints_ren _ _) | (simp [ints_ren, AV.ren, ABlk.ren, AC.ren, AE.ren, qq]; done)) ?_
        refine Wk.on ?_
        rw [decide_eq_true hwor]
        refine Wk.on ?_
        refine CallA.ro [] (.c (.bool true)) (awake_spec) (by first | rfl | exact congrArg AV.g (ints_ren _ _) | (simp [ints_ren, AV.ren, ABlk.ren, AC.ren, AE.ren, qq]; done)) rfl (by (repeat (first | exact trivial | refine ⟨⟨(by first | exact .inl (by decide) | exact .inr (by decide)), (by first | (refine Or.inl ?_; first | rfl | exact congrArg some (ints_ren _ _).symm | exact congrArg ABlk.own (ints_ren _ _).symm | exact congrArg some (tab64_ren _).symm | exact congrArg (ABlk.row _ _) (ints_ren _ _).symm) | rfl | exact congrArg some (ints_ren _ _).symm | exact congrArg ABlk.own (ints_ren _ _).symm | exact congrArg some (tab64_ren _).symm | exact congrArg (ABlk.row _ _) (ints_ren _ _).symm | exact Or.inr ⟨rfl, rfl⟩)⟩, ?_⟩))) (by first | rfl | exact congrArg AV.g (ints_ren _ _) | (simp [ints_ren, AV.ren, ABlk.ren, AC.ren, AE.ren, qq]; done)) ?_
        refine Wk.on ?_
        exact AH.Fin.nil [] ⟨rfl, rfl, rfl⟩ (by first | exact trivial | (simp [tupA, hpLt, tmLt, AV.lt, AE.lt, AC.lt, LL_cons, LL_nil, idOk, ABlk.lt, ints_LL, GB, tab64_LL, gC, wB, giC, noneB, gst, tC, pC, gN, gR, rC, rB]; done) | (simp [tupA, hpLt, tmLt, AV.lt, AE.lt, AC.lt, LL_cons, LL_nil, idOk, ABlk.lt, ints_LL, GB, tab64_LL, gC, wB, giC, noneB, gst, tC, pC, gN, gR, rC, rB, rdn, wrn]; done)) trivial trivial rfl (by simp [GB])
theorem more_all (x : Rw) (p : List UInt8) (n : Int) (h4 : x.ws.length ≤ 9223372036854775807) : FDet Tryd.prog 14 [.g (rC x 0), .c (.str (bs p)), .c (.int .i64 n)] [(0, rB x), (100002, .ro tab64), (100000, noneB)] 1 (.c (.bool true)) [] 1 := by
  by_cases h : (tame x 8 8).ws = []
  · exact more_nil x p n h4 h
  · exact more_row x p n h4 h
end Go.Proofs.YtfphkpdobbffeaaDoor
