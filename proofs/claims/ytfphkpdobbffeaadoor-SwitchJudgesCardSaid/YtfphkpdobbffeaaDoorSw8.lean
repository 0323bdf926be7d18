/-
  Two trees on all places, or a way to divide the places that too few wires cross. (Plain.)
-/
import Derived.Test.YtfphkpdobbffeaaDoorSw7
import Derived.Test.YtfphkpdobbffeaaDoorSw6
set_option linter.unusedSimpArgs false
set_option linter.unusedVariables false
namespace Go.Wire
variable {e : Nat → Nat × Nat} {n m : Nat}

structure Pk (e : Nat → Nat × Nat) (n m : Nat) (P : Bool → List Nat) : Prop where
  fo : ∀ b, Fo e n (P b)
  lt : ∀ b, ∀ i ∈ P b, i < m
  dj : ∀ b, ∀ i ∈ P b, i ∉ P (!b)
def szP (P : Bool → List Nat) : Nat := (P true).length + (P false).length
def upd (P : Bool → List Nat) (b : Bool) (l : List Nat) : Bool → List Nat := fun c => if c = b then l else P c
theorem upd_eq (P : Bool → List Nat) (b : Bool) (l : List Nat) : upd P b l b = l := if_pos rfl
theorem upd_ne (P : Bool → List Nat) (b : Bool) (l : List Nat) : upd P b l (!b) = P (!b) := by cases b <;> rfl
theorem szP_b (P : Bool → List Nat) (b : Bool) : szP P = (P b).length + (P (!b)).length := by
  cases b
  · exact Nat.add_comm _ _
  · rfl
structure Opt (e : Nat → Nat × Nat) (n m : Nat) (P : Bool → List Nat) : Prop extends Pk e n m P where
  most : ∀ Q, Pk e n m Q → szP Q ≤ szP P
theorem Pk.put {P : Bool → List Nat} {b : Bool} {l : List Nat} (h : Pk e n m P) (hl : Fo e n l) (hm : ∀ i ∈ l, i < m) (hd : ∀ i ∈ l, i ∉ P (!b)) : Pk e n m (upd P b l) := by
  refine ⟨fun c => ?_, fun c i hi => ?_, fun c i hi => ?_⟩
  · by_cases k : c = b
    · subst k; rw [upd_eq]; exact hl
    · have k : c = !b := by revert k; cases c <;> cases b <;> simp
      subst k; rw [upd_ne]; exact h.fo _
  · by_cases k : c = b
    · subst k; rw [upd_eq] at hi; exact hm i hi
    · have k : c = !b := by revert k; cases c <;> cases b <;> simp
      subst k; rw [upd_ne] at hi; exact h.lt _ i hi
  · by_cases k : c = b
    · subst k; rw [upd_eq] at hi; rw [upd_ne]; exact hd i hi
    · have k : c = !b := by revert k; cases c <;> cases b <;> simp
      subst k; rw [upd_ne] at hi; rw [Bool.not_not, upd_eq]; exact fun hi2 => hd i hi2 hi
def turnP (P : Bool → List Nat) (b : Bool) (i f : Nat) : Bool → List Nat := upd P b (i :: (P b).erase f)
inductive Rc (e : Nat → Nat × Nat) (n m : Nat) (P : Bool → List Nat) : (Bool → List Nat) → Prop
  | base : Rc e n m P P
  | turn {Q : Bool → List Nat} {b : Bool} {i f : Nat} : Rc e n m P Q → i < m → (∀ c, i ∉ Q c) → f ∈ Q b → Fo e n (i :: (Q b).erase f) → Rc e n m P (turnP Q b i f)
def Ends (e : Nat → Nat × Nat) (n m : Nat) : Prop := ∀ i, i < m → (e i).1 < n ∧ (e i).2 < n
theorem Opt.turn {Q : Bool → List Nat} {b : Bool} {i f : Nat} (h : Opt e n m Q) (hi : i < m) (hn : ∀ c, i ∉ Q c) (hf : f ∈ Q b) (hfo : Fo e n (i :: (Q b).erase f)) : Opt e n m (turnP Q b i f) ∧ ∀ c, f ∉ turnP Q b i f c := by
  have hfi : f ≠ i := fun k => hn b (k ▸ hf)
  have hnd := (h.fo b).nodup
  refine ⟨⟨h.put hfo (fun j hj => ?_) (fun j hj => ?_), fun Z hZ => ?_⟩, fun c => ?_⟩
  · rcases List.mem_cons.1 hj with rfl | hj
    · exact hi
    · exact h.lt b j (List.mem_of_mem_erase hj)
  · rcases List.mem_cons.1 hj with rfl | hj
    · exact hn _
    · exact h.dj b j (List.mem_of_mem_erase hj)
  · refine Nat.le_trans (h.most Z hZ) ?_
    rw [szP_b Q b, szP_b (turnP Q b i f) b]
    unfold turnP
    rw [upd_eq, upd_ne, List.length_cons, List.length_erase_of_mem hf]
    have := List.length_pos_of_mem hf
    omega
  · unfold turnP
    by_cases k : c = b
    · subst k
      rw [upd_eq]
      intro hc
      rcases List.mem_cons.1 hc with hc | hc
      · exact hfi hc
      · exact (List.Nodup.not_mem_erase hnd) hc
    · have k : c = !b := by revert k; cases c <;> cases b <;> simp
      subst k; rw [upd_ne]; exact h.dj b f hf
theorem Rc.opt {P Q : Bool → List Nat} (hP : Opt e n m P) (h : Rc e n m P Q) : Opt e n m Q := by
  induction h with
  | base => exact hP
  | turn _ hi hn hf hfo ih => exact (ih.turn hi hn hf hfo).1
def Lo (e : Nat → Nat × Nat) (n m : Nat) (P : Bool → List Nat) (i : Nat) : Prop := ∃ Q, Rc e n m P Q ∧ i < m ∧ ∀ c, i ∉ Q c
theorem Opt.joined {Q : Bool → List Nat} (he : Ends e n m) (h : Opt e n m Q) {i : Nat} (hi : i < m) (hn : ∀ c, i ∉ Q c) (b : Bool) : Jn e (Q b) (e i).1 (e i).2 := by
  apply Classical.byContradiction
  intro k
  have hfo := (fo_cons (he i hi)).2 ⟨h.fo b, k⟩
  have h2 := h.most _ (h.toPk.put (b := b) hfo (fun j hj => by
    rcases List.mem_cons.1 hj with rfl | hj
    · exact hi
    · exact h.lt b j hj) (fun j hj => by
    rcases List.mem_cons.1 hj with rfl | hj
    · exact hn _
    · exact h.dj b j hj))
  rw [szP_b Q b, szP_b (upd Q b (i :: Q b)) b, upd_eq, upd_ne, List.length_cons] at h2
  omega
theorem loose_way {P Q : Bool → List Nat} (he : Ends e n m) (hP : Opt e n m P) (hQ : Rc e n m P Q) {i : Nat} (hi : i < m) (hn : ∀ c, i ∉ Q c) (b : Bool) : ∃ M : List Nat, (∀ f ∈ M, f ∈ Q b ∧ Lo e n m P f) ∧ Jn e M (e i).1 (e i).2 := by
  have hO := hQ.opt hP
  obtain ⟨M, h1, h2, h3⟩ := least_join _ (Q b) (Nat.le_refl _) (hO.joined he hi hn b)
  refine ⟨M, fun f hf => ⟨h1.subset hf, ?_⟩, h2⟩
  have hfo := (hO.fo b).turn (he i hi) (h1.subset hf) ((hO.fo b).spare h1 hf h2 (h3 f hf))
  exact ⟨_, .turn hQ hi hn (h1.subset hf) hfo, hO.lt b f (h1.subset hf), (hO.turn hi hn (h1.subset hf) hfo).2⟩
def Jl (e : Nat → Nat × Nat) (n m : Nat) (P Q : Bool → List Nat) (b : Bool) (u v : Nat) : Prop := ∃ M : List Nat, (∀ f ∈ M, f ∈ Q b ∧ Lo e n m P f) ∧ Jn e M u v
theorem Jl.eqv (e : Nat → Nat × Nat) (n m : Nat) (P Q : Bool → List Nat) (b : Bool) : Eqv (Jl e n m P Q b) where
  refl u := ⟨[], fun f hf => absurd hf List.not_mem_nil, rfl⟩
  symm := fun ⟨M, h1, h2⟩ => ⟨M, h1, h2.symm⟩
  trans := fun ⟨M, h1, h2⟩ ⟨N, k1, k2⟩ => ⟨M ++ N, fun f hf => (List.mem_append.1 hf).elim (h1 f) (k1 f), (jn_mono (fun _ hj => List.mem_append_left _ hj) h2).trans (jn_mono (fun _ hj => List.mem_append_right _ hj) k2)⟩
theorem Jl.one {P Q : Bool → List Nat} {b : Bool} {f : Nat} (h1 : f ∈ Q b) (h2 : Lo e n m P f) : Jl e n m P Q b (e f).1 (e f).2 := ⟨[f], fun g hg => by rw [List.mem_singleton.1 hg]; exact ⟨h1, h2⟩, jn_mem (List.mem_singleton.2 rfl)⟩
theorem Jl.turn {P Q : Bool → List Nat} {b : Bool} {i f : Nat} (he : Ends e n m) (hP : Opt e n m P) (hQ : Rc e n m P Q) (hi : i < m) (hn : ∀ c, i ∉ Q c) (hf : f ∈ Q b) (hfo : Fo e n (i :: (Q b).erase f)) (c : Bool) (u v : Nat) : Jl e n m P (turnP Q b i f) c u v ↔ Jl e n m P Q c u v := by
  have hO := hQ.opt hP
  have hR : Rc e n m P (turnP Q b i f) := .turn hQ hi hn hf hfo
  have hfn := (hO.turn hi hn hf hfo).2
  have hfm := hO.lt b f hf
  have hLi : Lo e n m P i := ⟨Q, hQ, hi, hn⟩
  by_cases k : c = b
  · subst k
    constructor
    · rintro ⟨M, h1, h2⟩
      refine jn_least (Jl.eqv e n m P Q c) (fun j hj => ?_) h2
      obtain ⟨h3, h4⟩ := h1 j hj
      unfold turnP at h3
      rw [upd_eq] at h3
      rcases List.mem_cons.1 h3 with rfl | h3
      · exact loose_way he hP hQ hi hn c
      · exact Jl.one (List.mem_of_mem_erase h3) h4
    · rintro ⟨M, h1, h2⟩
      refine jn_least (Jl.eqv e n m P (turnP Q c i f) c) (fun j hj => ?_) h2
      obtain ⟨h3, h4⟩ := h1 j hj
      by_cases hjf : j = f
      · subst hjf
        exact loose_way he hP hR hfm hfn c
      · refine Jl.one ?_ h4
        unfold turnP
        rw [upd_eq]
        exact List.mem_cons_of_mem _ ((List.mem_erase_of_ne hjf).2 h3)
  · have k : c = !b := by revert k; cases c <;> cases b <;> simp
    subst k
    unfold Jl turnP
    rw [upd_ne]
theorem Jl.same {P Q : Bool → List Nat} (he : Ends e n m) (hP : Opt e n m P) (hQ : Rc e n m P Q) : ∀ (c : Bool) (u v : Nat), Jl e n m P Q c u v ↔ Jl e n m P P c u v := by
  induction hQ with
  | base => exact fun c u v => Iff.rfl
  | turn hQ hi hn hf hfo ih => exact fun c u v => (Jl.turn he hP hQ hi hn hf hfo c u v).trans (ih c u v)
theorem Jl.lo {P : Bool → List Nat} (he : Ends e n m) (hP : Opt e n m P) {i : Nat} (h : Lo e n m P i) (c : Bool) : Jl e n m P P c (e i).1 (e i).2 := by
  obtain ⟨Q, hQ, hi, hn⟩ := h
  exact (Jl.same he hP hQ c _ _).1 (loose_way he hP hQ hi hn c)
end Go.Wire

/-
  The switching game: more never harms; two trees win; who wins moving second has two trees. (Plain.)
-/
namespace Go.Wire
variable {e : Nat → Nat × Nat} {n m s t : Nat}

def Sw (e : Nat → Nat × Nat) (s t : Nat) : Nat → List Nat → List Nat → Bool → Prop
  | 0, _, K, _ => Jn e K s t
  | n + 1, F, K, true => ∀ i ∈ F, Sw e s t n (F.erase i) K false
  | n + 1, F, K, false => ∃ i ∈ F, Sw e s t n (F.erase i) (i :: K) true
theorem Sw.kept : ∀ {n : Nat} {F K K' : List Nat} {c : Bool}, (∀ i ∈ K, i ∈ K') → Sw e s t n F K c → Sw e s t n F K' c
  | 0, F, K, K', c, hs, h => jn_mono hs h
  | n + 1, F, K, K', true, hs, h => fun i hi => Sw.kept hs (h i hi)
  | n + 1, F, K, K', false, hs, ⟨i, hi, h⟩ => ⟨i, hi, Sw.kept (fun j hj => by
      rcases List.mem_cons.1 hj with rfl | hj
      · exact List.mem_cons_self ..
      · exact List.mem_cons_of_mem _ (hs j hj)) h⟩
theorem Sw.swap {n : Nat} {F K : List Nat} {i j : Nat} {c : Bool} (h : Sw e s t n F (i :: j :: K) c) : Sw e s t n F (j :: i :: K) c := Sw.kept (fun x hx => by
  simp only [List.mem_cons] at hx ⊢
  rcases hx with h | h | h
  · exact .inr (.inl h)
  · exact .inl h
  · exact .inr (.inr h)) h
structure More (e : Nat → Nat × Nat) (s t n : Nat) : Prop where
  to : ∀ {F K : List Nat}, F.length = n → Sw e s t n F K true → Sw e s t n F K false
  keep : ∀ {F K : List Nat} {w : Nat} {c : Bool}, F.length = n + 1 → w ∈ F → Sw e s t (n + 1) F K c → Sw e s t n (F.erase w) (w :: K) c
  cut : ∀ {F K : List Nat} {w : Nat} {c : Bool}, F.length = n + 1 → w ∈ F → Sw e s t n (F.erase w) K c → Sw e s t (n + 1) F K c
theorem one_mem {F : List Nat} {w i : Nat} (h : F.length = 1) (hw : w ∈ F) (hi : i ∈ F) : i = w := by
  obtain ⟨x, rfl⟩ := List.length_eq_one_iff.1 h
  rw [List.mem_singleton.1 hw, List.mem_singleton.1 hi]
theorem erase_in {F : List Nat} {w i : Nat} (hw : w ∈ F) (hi : i ∈ F.erase w) : w ∈ F.erase i := by
  by_cases h : w = i
  · subst h; exact hi
  · exact (List.mem_erase_of_ne h).2 hw
theorem Sw.more (e : Nat → Nat × Nat) (s t : Nat) : ∀ n, More e s t n
  | 0 => by
    have to : ∀ {F K : List Nat}, F.length = 0 → Sw e s t 0 F K true → Sw e s t 0 F K false := fun _ h => h
    refine ⟨to, fun {F K w c} hl hw h => ?_, fun {F K w c} hl hw h => ?_⟩
    · cases c
      · obtain ⟨i, hi, h⟩ := h
        obtain rfl := one_mem hl hw hi
        exact h
      · exact jn_mono (fun j hj => List.mem_cons_of_mem _ hj) (h w hw)
    · cases c
      · exact ⟨w, hw, jn_mono (fun j hj => List.mem_cons_of_mem _ hj) h⟩
      · intro i hi
        exact h
  | n + 1 => by
    have ih := Sw.more e s t n
    have to : ∀ {F K : List Nat}, F.length = n + 1 → Sw e s t (n + 1) F K true → Sw e s t (n + 1) F K false := fun {F K} hl h => by
      cases F with
      | nil => cases hl
      | cons i F => exact ⟨i, List.mem_cons_self .., ih.keep hl (List.mem_cons_self ..) h⟩
    refine ⟨to, fun {F K w c} hl hw h => ?_, fun {F K w c} hl hw h => ?_⟩
    · have hle : (F.erase w).length = n + 1 := by rw [List.length_erase_of_mem hw, hl]; rfl
      cases c
      · obtain ⟨i, hi, h⟩ := h
        by_cases k : i = w
        · subst k; exact to hle h
        · have hiw : i ∈ F.erase w := (List.mem_erase_of_ne k).2 hi
          have hle2 : (F.erase i).length = n + 1 := by rw [List.length_erase_of_mem hi, hl]; rfl
          refine ⟨i, hiw, ?_⟩
          rw [List.erase_comm]
          exact Sw.swap (ih.keep hle2 (erase_in hw hiw) h)
      · intro i hi
        have hiF := List.mem_of_mem_erase hi
        have hle2 : (F.erase i).length = n + 1 := by rw [List.length_erase_of_mem hiF, hl]; rfl
        rw [List.erase_comm]
        exact ih.keep hle2 (erase_in hw hi) (h i hiF)
    · have hle : (F.erase w).length = n + 1 := by rw [List.length_erase_of_mem hw, hl]; rfl
      cases c
      · obtain ⟨i, hi, h⟩ := h
        have hiF := List.mem_of_mem_erase hi
        have hle2 : (F.erase i).length = n + 1 := by rw [List.length_erase_of_mem hiF, hl]; rfl
        refine ⟨i, hiF, ?_⟩
        rw [List.erase_comm] at h
        exact ih.cut hle2 (erase_in hw hi) h
      · intro i hi
        have hle2 : (F.erase i).length = n + 1 := by rw [List.length_erase_of_mem hi, hl]; rfl
        by_cases k : i = w
        · subst k; exact to hle h
        · have hiw : i ∈ F.erase w := (List.mem_erase_of_ne k).2 hi
          have h := h i hiw
          rw [List.erase_comm] at h
          exact ih.cut hle2 (erase_in hw hiw) h
theorem exch {f b : Nat} {l : List Nat} (h : Jn e (f :: l) (e b).1 (e b).2) (hn : ¬ Jn e l (e b).1 (e b).2) : Jn e (b :: l) (e f).1 (e f).2 := by
  have up : ∀ {x y}, Jn e l x y → Jn e (b :: l) x y := fun h => jn_mono (fun j hj => List.mem_cons_of_mem _ hj) h
  have hb : Jn e (b :: l) (e b).1 (e b).2 := jn_mem (List.mem_cons_self ..)
  rcases jn_cons.1 h with h | ⟨h1, h2⟩ | ⟨h1, h2⟩
  · exact absurd h hn
  · exact (up h1).symm.trans (hb.trans (up h2).symm)
  · exact (up h2).trans (hb.symm.trans (up h1))
structure SI (e : Nat → Nat × Nat) (X : Nat → Prop) (F K A B : List Nat) : Prop where
  a : ∀ i ∈ A, i ∈ F
  b : ∀ i ∈ B, i ∈ F
  dj : ∀ i ∈ A, i ∉ B
  ae : ∀ i ∈ A, X (e i).1 ∧ X (e i).2
  be : ∀ i ∈ B, X (e i).1 ∧ X (e i).2
  aj : ∀ {u v}, X u → X v → Jn e (K ++ A) u v
  bj : ∀ {u v}, X u → X v → Jn e (K ++ B) u v
theorem SI.swap {X : Nat → Prop} {F K A B : List Nat} (h : SI e X F K A B) : SI e X F K B A := ⟨h.b, h.a, fun i hb ha => h.dj i ha hb, h.be, h.ae, h.bj, h.aj⟩
theorem SI.pass {X : Nat → Prop} {F K A B : List Nat} (h : SI e X F K A B) {b : Nat} : SI e X (F.erase b) (b :: K) (A.filter fun j => decide (j ≠ b)) (B.filter fun j => decide (j ≠ b)) := by
  have key : ∀ {C : List Nat} {u v : Nat}, Jn e (K ++ C) u v → Jn e ((b :: K) ++ C.filter fun j => decide (j ≠ b)) u v := fun {C u v} hj => jn_mono (fun j hj => by
    by_cases k : j = b
    · subst k; exact List.mem_append_left _ (List.mem_cons_self ..)
    · rcases List.mem_append.1 hj with hj | hj
      · exact List.mem_append_left _ (List.mem_cons_of_mem _ hj)
      · exact List.mem_append_right _ (List.mem_filter.2 ⟨hj, decide_eq_true k⟩)) hj
  exact ⟨fun i hi => (List.mem_erase_of_ne (of_decide_eq_true (List.mem_filter.1 hi).2)).2 (h.a i (List.mem_filter.1 hi).1), fun i hi => (List.mem_erase_of_ne (of_decide_eq_true (List.mem_filter.1 hi).2)).2 (h.b i (List.mem_filter.1 hi).1), fun i hi hb => h.dj i (List.mem_filter.1 hi).1 (List.mem_filter.1 hb).1, fun i hi => h.ae i (List.mem_filter.1 hi).1, fun i hi => h.be i (List.mem_filter.1 hi).1, fun hu hv => key (h.aj hu hv), fun hu hv => key (h.bj hu hv)⟩
theorem SI.reply {X : Nat → Prop} {F K A B : List Nat} (h : SI e X F K A B) {c : Nat} (hc : c ∈ A) (hn : ¬ Jn e (K ++ A.filter fun j => decide (j ≠ c)) (e c).1 (e c).2) : ∃ b ∈ B, b ≠ c ∧ SI e X ((F.erase c).erase b) (b :: K) (A.filter fun j => decide (j ≠ c)) (B.filter fun j => decide (j ≠ b)) := by
  obtain ⟨xc1, xc2⟩ := h.ae c hc
  obtain ⟨A', hA'⟩ : ∃ A', A' = A.filter fun j => decide (j ≠ c) := ⟨_, rfl⟩
  rw [← hA'] at hn ⊢
  have hex : ∃ b ∈ B, ¬ Jn e (K ++ A') (e b).1 (e b).2 := by
    apply Classical.byContradiction
    intro hno
    refine hn (jn_least (Jn.eqv _) (fun i hi => ?_) (h.bj xc1 xc2))
    rcases List.mem_append.1 hi with hi | hi
    · exact jn_mem (List.mem_append_left _ hi)
    · exact Classical.byContradiction fun k => hno ⟨i, hi, k⟩
  obtain ⟨b, hb, hbn⟩ := hex
  have hbc : b ≠ c := fun k => h.dj c hc (k ▸ hb)
  have hcA : ∀ {u v}, Jn e (K ++ A) u v → Jn e (c :: (K ++ A')) u v := fun hj => jn_mono (fun j hj => by
    by_cases k : j = c
    · exact k ▸ List.mem_cons_self ..
    · refine List.mem_cons_of_mem _ ?_
      rcases List.mem_append.1 hj with hj | hj
      · exact List.mem_append_left _ hj
      · exact List.mem_append_right _ (hA' ▸ List.mem_filter.2 ⟨hj, decide_eq_true k⟩)) hj
  obtain ⟨xb1, xb2⟩ := h.be b hb
  have hx := exch (hcA (h.aj xb1 xb2)) hbn
  refine ⟨b, hb, hbc, fun i hi => ?_, fun i hi => ?_, fun i hi hi2 => ?_, fun i hi => ?_, fun i hi => h.be i (List.mem_filter.1 hi).1, fun hu hv => ?_, fun hu hv => ?_⟩
  · rw [hA'] at hi
    obtain ⟨h1, h2⟩ := List.mem_filter.1 hi
    exact (List.mem_erase_of_ne (fun k : i = b => h.dj i h1 (k ▸ hb))).2 ((List.mem_erase_of_ne (of_decide_eq_true h2)).2 (h.a i h1))
  · obtain ⟨h1, h2⟩ := List.mem_filter.1 hi
    exact (List.mem_erase_of_ne (of_decide_eq_true h2)).2 ((List.mem_erase_of_ne (fun k : i = c => h.dj c hc (k ▸ h1))).2 (h.b i h1))
  · rw [hA'] at hi
    exact h.dj i (List.mem_filter.1 hi).1 (List.mem_filter.1 hi2).1
  · rw [hA'] at hi
    exact h.ae i (List.mem_filter.1 hi).1
  · refine jn_least (Jn.eqv _) (fun i hi => ?_) (hcA (h.aj hu hv))
    rcases List.mem_cons.1 hi with rfl | hi
    · exact jn_mono (fun j hj => hj) hx
    · exact jn_mem (List.mem_cons_of_mem _ hi)
  · refine jn_mono (fun j hj => ?_) (h.bj hu hv)
    by_cases k : j = b
    · exact k ▸ List.mem_append_left _ (List.mem_cons_self ..)
    · rcases List.mem_append.1 hj with hj | hj
      · exact List.mem_append_left _ (List.mem_cons_of_mem _ hj)
      · exact List.mem_append_right _ (List.mem_filter.2 ⟨hj, decide_eq_true k⟩)
theorem SI.cutA {X : Nat → Prop} {F K A B : List Nat} (h : SI e X F K A B) {c : Nat} (hc : c ∈ A) (hj : Jn e (K ++ A.filter fun j => decide (j ≠ c)) (e c).1 (e c).2) : SI e X (F.erase c) K (A.filter fun j => decide (j ≠ c)) B := by
  refine ⟨fun i hi => ?_, fun i hi => (List.mem_erase_of_ne (fun k : i = c => h.dj c hc (k ▸ hi))).2 (h.b i hi), fun i hi => h.dj i (List.mem_filter.1 hi).1, fun i hi => h.ae i (List.mem_filter.1 hi).1, h.be, fun hu hv => ?_, h.bj⟩
  · obtain ⟨h1, h2⟩ := List.mem_filter.1 hi
    exact (List.mem_erase_of_ne (of_decide_eq_true h2)).2 (h.a i h1)
  · refine jn_least (Jn.eqv _) (fun i hi => ?_) (h.aj hu hv)
    by_cases k : i = c
    · exact k ▸ hj
    · rcases List.mem_append.1 hi with hi | hi
      · exact jn_mem (List.mem_append_left _ hi)
      · exact jn_mem (List.mem_append_right _ (List.mem_filter.2 ⟨hi, decide_eq_true k⟩))
theorem SI.cutN {X : Nat → Prop} {F K A B : List Nat} (h : SI e X F K A B) {c : Nat} (ha : c ∉ A) (hb : c ∉ B) : SI e X (F.erase c) K A B :=
  ⟨fun i hi => (List.mem_erase_of_ne (fun k : i = c => ha (k ▸ hi))).2 (h.a i hi), fun i hi => (List.mem_erase_of_ne (fun k : i = c => hb (k ▸ hi))).2 (h.b i hi), h.dj, h.ae, h.be, h.aj, h.bj⟩
theorem SI.joined {X : Nat → Prop} {K A B : List Nat} (h : SI e X [] K A B) {u v : Nat} (hu : X u) (hv : X v) : Jn e K u v :=
  jn_mono (fun i hi => by
    rcases List.mem_append.1 hi with hi | hi
    · exact hi
    · exact absurd (h.a i hi) List.not_mem_nil) (h.aj hu hv)
theorem SI.wins {X : Nat → Prop} (hs : X s) (ht : X t) : ∀ (k n : Nat) {F K A B : List Nat}, n ≤ k → F.length = n → SI e X F K A B → Sw e s t n F K true
  | k, 0, F, K, A, B, _, hl, h => by
    obtain rfl := List.length_eq_zero_iff.1 hl
    exact h.joined hs ht
  | 0, n + 1, F, K, A, B, hk, hl, h => by omega
  | k + 1, n + 1, F, K, A, B, hk, hl, h => by
    intro c hc
    have hlc : (F.erase c).length = n := by rw [List.length_erase_of_mem hc, hl]; rfl
    cases n with
    | zero =>
      show Jn e K s t
      have h0 : F = [c] := by
        obtain ⟨x, rfl⟩ := List.length_eq_one_iff.1 hl
        rw [List.mem_singleton.1 hc]
      subst h0
      by_cases hca : c ∈ A
      · refine jn_mono (fun i hi => ?_) (h.bj hs ht)
        rcases List.mem_append.1 hi with hi | hi
        · exact hi
        · have := List.mem_singleton.1 (h.b i hi)
          exact absurd (this ▸ hi) (h.dj c hca)
      · refine jn_mono (fun i hi => ?_) (h.aj hs ht)
        rcases List.mem_append.1 hi with hi | hi
        · exact hi
        · have := List.mem_singleton.1 (h.a i hi)
          exact absurd (this ▸ hi) hca
    | succ n =>
      have go : ∀ {A B : List Nat}, SI e X (F.erase c) K A B → Sw e s t (n + 1) (F.erase c) K false := fun {A B} h2 => by
        cases hF : F.erase c with
        | nil => rw [hF] at hlc; cases hlc
        | cons b G =>
          rw [hF] at h2
          refine ⟨b, List.mem_cons_self .., SI.wins hs ht k n (by omega) ?_ (h2.pass (b := b))⟩
          rw [List.length_erase_of_mem (List.mem_cons_self ..), ← hF, hlc]; rfl
      have two : ∀ {A B : List Nat}, SI e X F K A B → c ∈ A → Sw e s t (n + 1) (F.erase c) K false := fun {A B} h2 hca => by
        by_cases hj : Jn e (K ++ A.filter fun j => decide (j ≠ c)) (e c).1 (e c).2
        · exact go (h2.cutA hca hj)
        · obtain ⟨b, hb, hbc, h3⟩ := h2.reply hca hj
          have hbF : b ∈ F.erase c := (List.mem_erase_of_ne hbc).2 (h2.b b hb)
          exact ⟨b, hbF, SI.wins hs ht k n (by omega) (by rw [List.length_erase_of_mem hbF, hlc]; rfl) h3⟩
      by_cases hca : c ∈ A
      · exact two h hca
      · by_cases hcb : c ∈ B
        · exact two h.swap hcb
        · exact go (h.cutN hca hcb)
end Go.Wire

/-
  Lehman's theorem: who wins moving second has two trees. (Plain.)
-/
namespace Go.Wire
variable {e : Nat → Nat × Nat} {n m s t z : Nat}

structure CS (e : Nat → Nat × Nat) (n z : Nat) (F K A B L : List Nat) : Prop where
  k : ∀ i ∈ K, Jn e L (e i).1 (e i).2
  f : ∀ i ∈ F, i ∈ A ∨ i ∈ B ∨ Jn e L (e i).1 (e i).2
  a : Fo e n (z :: (A ++ L))
  b : Fo e n (z :: (B ++ L))
structure CC (e : Nat → Nat × Nat) (n z : Nat) (F K A B L : List Nat) : Prop where
  k : ∀ i ∈ K, Jn e L (e i).1 (e i).2
  f : ∀ i ∈ F, i ∈ A ∨ i ∈ B ∨ Jn e L (e i).1 (e i).2
  a : Fo e n (z :: (A ++ L))
  b : Fo e n (z :: (B ++ L)) ∨ ∃ b ∈ B, Fo e n (z :: (B.erase b ++ L))
theorem CS.swap {F K A B L : List Nat} (h : CS e n z F K A B L) : CS e n z F K B A L := ⟨h.k, fun i hi => by
  rcases h.f i hi with h | h | h
  · exact .inr (.inl h)
  · exact .inl h
  · exact .inr (.inr h), h.b, h.a⟩
structure Pair (e : Nat → Nat × Nat) (n m s t : Nat) (A B : List Nat) : Prop where
  fa : Fo e n A
  fb : Fo e n B
  la : ∀ i ∈ A, i < m
  lb : ∀ i ∈ B, i < m
  dj : ∀ i ∈ A, i ∉ B
  same : ∀ u v, Jn e A u v ↔ Jn e B u v
  st : Jn e A s t
theorem Fo.same {A B C : List Nat} (hA : Fo e n (C ++ A)) (hB : Fo e n B) (h : ∀ u v, Jn e A u v ↔ Jn e B u v) : Fo e n (C ++ B) := by
  have hin : In e n (C ++ B) := fun i hi => by
    rcases List.mem_append.1 hi with hi | hi
    · exact hA.1 i (List.mem_append_left _ hi)
    · exact hB.1 i hi
  have hA0 : Fo e n A := hA.sub (List.sublist_append_right ..)
  have key : ∀ {A B : List Nat}, (∀ u v, Jn e A u v ↔ Jn e B u v) → ∀ {u v}, Jn e (C ++ A) u v → Jn e (C ++ B) u v := fun {A B} h {u v} hj => jn_least (Jn.eqv _) (fun i hi => by
    rcases List.mem_append.1 hi with hi | hi
    · exact jn_mem (List.mem_append_left _ hi)
    · exact jn_mono (fun j hj => List.mem_append_right _ hj) ((h _ _).1 (jn_mem hi))) hj
  have h1 : cp e n (C ++ A) = cp e n (C ++ B) := cp_congr fun u v => ⟨key h, key fun u v => (h u v).symm⟩
  have h2 : cp e n A = cp e n B := cp_congr h
  have h3 := hA.2
  have h4 := hA0.2
  have h5 := hB.2
  rw [List.length_append] at h3
  exact ⟨hin, by rw [← h1, List.length_append]; omega⟩
end Go.Wire

/-
  Wires as pairs of places: what one made short does to them. (Plain.)
-/
namespace Go.Wire

abbrev Wr := Nat × Nat

def plc (a b x : Nat) : Nat := if x = b then a else if b < x then x - 1 else x
def cw (a b : Nat) (w : Wr) : Wr := (min (plc a b w.1) (plc a b w.2), max (plc a b w.1) (plc a b w.2))

def shW (a b : Nat) (W : List Wr) : List Wr := (W.filter fun w => decide (plc a b w.1 ≠ plc a b w.2)).map (cw a b)
end Go.Wire

/-
  Wires as pairs of places: a wire made short; trees with and without a wire; two trees as lists of wires. (Plain.)
-/
namespace Go.Wire

theorem plc_eq {a b u v : Nat} (hab : a < b) : plc a b u = plc a b v ↔ u = v ∨ (u = a ∧ v = b) ∨ (u = b ∧ v = a) := by
  unfold plc
  split <;> split <;> (try split) <;> (try split) <;> omega
theorem plc_sur {a b : Nat} (hab : a < b) (y : Nat) : ∃ u, plc a b u = y := by
  by_cases h : y < b
  · exact ⟨y, by unfold plc; rw [if_neg (by omega), if_neg (by omega)]⟩
  · exact ⟨y + 1, by unfold plc; rw [if_neg (by omega), if_pos (by omega)]; omega⟩
theorem plc_lt {a b n x : Nat} (hab : a < b) (hb : b < n) (hx : x < n) : plc a b x < n - 1 := by
  unfold plc
  split
  · omega
  · split <;> omega
theorem cw_lt {a b n : Nat} {w : Wr} (hab : a < b) (hb : b < n) (h : w.1 < n ∧ w.2 < n) : (cw a b w).1 < n - 1 ∧ (cw a b w).2 < n - 1 := by
  have h1 := plc_lt hab hb h.1
  have h2 := plc_lt hab hb h.2
  unfold cw
  exact ⟨by show min _ _ < _; omega, by show max _ _ < _; omega⟩
theorem jn_ends {l : List Wr} {a b : Nat} (w : Wr) : Jn id l (cw a b w).1 (cw a b w).2 ↔ Jn id l (plc a b w.1) (plc a b w.2) := by
  show Jn id l (min (plc a b w.1) (plc a b w.2)) (max (plc a b w.1) (plc a b w.2)) ↔ _
  rcases Nat.le_total (plc a b w.1) (plc a b w.2) with h | h
  · rw [Nat.min_eq_left h, Nat.max_eq_right h]
  · rw [Nat.min_eq_right h, Nat.max_eq_left h]
    exact ⟨Jn.symm, Jn.symm⟩
theorem jn_short {a b : Nat} (hab : a < b) {L : List Wr} {u v : Nat} : Jn id (L.map (cw a b)) (plc a b u) (plc a b v) ↔ Jn id (L ++ [(a, b)]) u v := by
  have hw : Jn (id : Wr → Wr) (L ++ [(a, b)]) a b := jn_mem (e := (id : Wr → Wr)) (i := (a, b)) (by simp)
  have hsame : ∀ {u v}, plc a b u = plc a b v → Jn (id : Wr → Wr) (L ++ [(a, b)]) u v := fun {u v} h => by
    rcases (plc_eq hab).1 h with rfl | ⟨rfl, rfl⟩ | ⟨rfl, rfl⟩
    · exact Jn.refl _ _
    · exact hw
    · exact hw.symm
  constructor
  · intro h
    refine jn_least (R := fun x y => ∀ u v, plc a b u = x → plc a b v = y → Jn (id : Wr → Wr) (L ++ [(a, b)]) u v) ⟨fun x u v hu hv => hsame (hu.trans hv.symm), fun h u v hu hv => (h v u hv hu).symm, fun {x y z} h1 h2 u v hu hv => ?_⟩ (fun w hw => ?_) h u v rfl rfl
    · obtain ⟨q, hq⟩ := plc_sur hab y
      exact (h1 u q hu hq).trans (h2 q v hq hv)
    · obtain ⟨x, hx, rfl⟩ := List.mem_map.1 hw
      have hj : Jn (id : Wr → Wr) (L ++ [(a, b)]) x.1 x.2 := jn_mem (e := (id : Wr → Wr)) (List.mem_append_left _ hx)
      show ∀ u v, plc a b u = min (plc a b x.1) (plc a b x.2) → plc a b v = max (plc a b x.1) (plc a b x.2) → _
      intro u v hu hv
      rcases Nat.le_total (plc a b x.1) (plc a b x.2) with h | h
      · rw [Nat.min_eq_left h] at hu
        rw [Nat.max_eq_right h] at hv
        exact (hsame hu).trans (hj.trans (hsame hv).symm)
      · rw [Nat.min_eq_right h] at hu
        rw [Nat.max_eq_left h] at hv
        exact (hsame hu).trans (hj.symm.trans (hsame hv).symm)
  · refine jn_least (R := fun u v => Jn id (L.map (cw a b)) (plc a b u) (plc a b v)) ⟨fun _ => rfl, Eq.symm, Eq.trans⟩ (fun w hw => ?_)
    rcases List.mem_append.1 hw with hw | hw
    · exact (jn_ends w).1 (jn_mem (e := (id : Wr → Wr)) (List.mem_map.2 ⟨w, hw, rfl⟩))
    · rw [List.mem_singleton.1 hw]
      show Jn id _ (plc a b a) (plc a b b)
      rw [(plc_eq hab).2 (.inr (.inl ⟨rfl, rfl⟩))]; rfl
theorem fo_short {a b n : Nat} (hab : a < b) (hb : b < n) : ∀ {L : List Wr}, In (id : Wr → Wr) n L → (Fo id (n - 1) (L.map (cw a b)) ↔ Fo id n (L ++ [(a, b)]))
  | [], _ => by
    refine ⟨fun _ => (fo_cons (e := (id : Wr → Wr)) (i := (a, b)) ⟨by show a < n; omega, hb⟩).2 ⟨Fo.nil n, fun h => ?_⟩, fun _ => Fo.nil _⟩
    have : a = b := h
    omega
  | w :: L, h => by
    have ih := fo_short hab hb h.tail
    have hw := h w (List.mem_cons_self ..)
    show Fo id (n - 1) (cw a b w :: L.map (cw a b)) ↔ Fo id n (w :: (L ++ [(a, b)]))
    refine (fo_cons (e := (id : Wr → Wr)) (i := cw a b w) (cw_lt hab hb hw)).trans (Iff.trans ?_ (fo_cons (e := (id : Wr → Wr)) hw).symm)
    refine and_congr ih (not_congr ?_)
    exact (jn_ends w).trans (jn_short hab)

structure PairL (n s t : Nat) (W A B C : List Wr) : Prop where
  sub : (A ++ (B ++ C)).Perm W
  fa : Fo (id : Wr → Wr) n A
  fb : Fo (id : Wr → Wr) n B
  same : ∀ u v, Jn (id : Wr → Wr) A u v ↔ Jn (id : Wr → Wr) B u v
  st : Jn (id : Wr → Wr) A s t
theorem PairL.perm {n s t : Nat} {W W' A B C : List Wr} (h : PairL n s t W A B C) (hp : W.Perm W') : PairL n s t W' A B C := ⟨h.sub.trans hp, h.fa, h.fb, h.same, h.st⟩
theorem PairL.short {n s t a b : Nat} {W A B C : List Wr} (hab : a < b) (hb : b < n) (hn : In (id : Wr → Wr) n C) (sub : (A ++ (B ++ C)).Perm W) (fa : Fo (id : Wr → Wr) n (A ++ [(a, b)])) (fb : Fo (id : Wr → Wr) n (B ++ [(a, b)])) (same : ∀ u v, Jn (id : Wr → Wr) (A ++ [(a, b)]) u v ↔ Jn (id : Wr → Wr) (B ++ [(a, b)]) u v) (st : Jn (id : Wr → Wr) (A ++ [(a, b)]) s t) : PairL (n - 1) (plc a b s) (plc a b t) (shW a b W) (A.map (cw a b)) (B.map (cw a b)) (shW a b C) := by
  have key : ∀ {A : List Wr}, Fo (id : Wr → Wr) n (A ++ [(a, b)]) → A.filter (fun w => decide (plc a b w.1 ≠ plc a b w.2)) = A := fun {A} h => by
    refine List.filter_eq_self.2 fun w hw => decide_eq_true fun k => ?_
    have hp : (A ++ [(a, b)]).Perm (w :: (A.erase w ++ [(a, b)])) := (List.perm_cons_erase hw).append_right _
    refine (h.perm hp).head ((jn_short (L := A.erase w) hab).1 ?_)
    show Jn id _ (plc a b w.1) (plc a b w.2)
    rw [k]; rfl
  refine ⟨?_, (fo_short hab hb (fun w hw => fa.1 w (List.mem_append_left _ hw))).2 fa, (fo_short hab hb (fun w hw => fb.1 w (List.mem_append_left _ hw))).2 fb, fun x y => ?_, (jn_short hab).2 st⟩
  · have := (sub.filter fun w => decide (plc a b w.1 ≠ plc a b w.2)).map (cw a b)
    rw [List.filter_append, List.filter_append, key fa, key fb, List.map_append, List.map_append] at this
    exact this
  · obtain ⟨u, rfl⟩ := plc_sur hab x
    obtain ⟨v, rfl⟩ := plc_sur hab y
    rw [jn_short hab, jn_short hab]
    exact same u v
end Go.Wire

/-
  Plain: the games' wires as wires that join places; the number of trees as choices; two trees; who wins.
-/
namespace Go.Proofs.YtfphkpdobbffeaaDoor
open Go Go.AH Go.Wire
set_option maxRecDepth 100000
set_option maxHeartbeats 1000000

def eg (g : Gm) (i : Nat) : Nat × Nat := g.ws.getD i (0, 0)
theorem eg_ends {g : Gm} (hg : g.ok) : Wire.Ends (eg g) g.n g.ws.length := fun i hi => by
  have := hg.ends i hi
  exact ⟨by show (g.ws.getD i (0, 0)).1 < _; omega, this.2⟩
theorem root_fold {g : Gm} (hg : g.ok) : ∀ (l : List Nat), (∀ i ∈ l, i < g.ws.length) → ∀ u, u < 8 → root (((l.reverse).map Int.ofNat).foldl (joinF g) (aloneSt 8)) u = Wire.lb (eg g) l u
  | [], _, u, hu => alone_root hu
  | i :: l, h, u, hu => by
    have he := hg.ends i (h i (List.mem_cons_self ..))
    have h8 := hg.n8
    have ih := root_fold hg l fun j hj => h j (List.mem_cons_of_mem _ hj)
    have hG : Grp (((l.reverse).map Int.ofNat).foldl (joinF g) (aloneSt 8)) := Grp.fold hg _ _ Grp.alone fun y hy => by
      obtain ⟨j, hj, rfl⟩ := List.mem_map.1 hy
      exact h j (List.mem_cons_of_mem _ (List.mem_reverse.1 hj))
    rw [List.reverse_cons, List.map_append, List.foldl_append]
    show root (joinL _ (g.ws.getD i (0, 0)).1 (g.ws.getD i (0, 0)).2) u = _
    rw [root_joinL hG (by omega) (by omega) u hu, ih u hu, ih _ (show (g.ws.getD i (0, 0)).1 < 8 by omega), ih _ (show (g.ws.getD i (0, 0)).2 < 8 by omega)]
    rfl
theorem memN_lt {k n : Nat} (hk : k ≤ 10) (hn : n < 2 ^ k) {i : Nat} (hi : i ∈ memN n) : i < k := lt_len hn (List.mem_filter.1 hi).2
theorem root_lb {g : Gm} (hg : g.ok) {a : Nat} (ha : a < 2 ^ g.ws.length) {u : Nat} (hu : u < 8) : root (keptL g a) u = Wire.lb (eg g) (memN a).reverse u := by
  rw [← root_fold hg (memN a).reverse (fun i hi => memN_lt hg.len ha (List.mem_reverse.1 hi)) u hu, List.reverse_reverse]; rfl
theorem comps_cp {g : Gm} (hg : g.ok) {a : Nat} (ha : a < 2 ^ g.ws.length) : comps (keptL g a) g.n = cp (eg g) g.n (memN a) := by
  rw [← cp_congr (l := (memN a).reverse) (fun u v => jn_perm (List.reverse_perm _))]
  have h8 := hg.n8
  refine List.countP_congr fun u hu => ?_
  have := List.mem_range.1 hu
  rw [root_lb hg ha (by omega)]
theorem eg_in {g : Gm} (hg : g.ok) {a : Nat} (ha : a < 2 ^ g.ws.length) : In (eg g) g.n (memN a) := fun i hi => eg_ends hg i (memN_lt hg.len ha hi)
theorem acy_fo {g : Gm} (hg : g.ok) {a : Nat} (ha : a < 2 ^ g.ws.length) : acyF g (aloneSt 8) (mem a) = true ↔ Fo (eg g) g.n (memN a) := by
  have h := (acy_comps hg (mem a) (aloneSt 8) Grp.alone fun y hy => (mem_lt hg.len ha hy).2).2
  rw [show (mem a).foldl (joinF g) (aloneSt 8) = keptL g a from rfl, comps_alone hg.n8, comps_cp hg ha, show (mem a).length = (memN a).length by simp [mem]] at h
  rw [h]
  exact ⟨fun k => ⟨eg_in hg ha, k⟩, fun k => k.2⟩
theorem tree_full {g : Gm} (hg : g.ok) {a : Nat} (ha : a < 2 ^ g.ws.length) : isTreeB g a (2 ^ g.n - 1) = true ↔ Fo (eg g) g.n (memN a) ∧ (memN a).length + 1 = g.n := by
  have h2 := hg.n2
  have hpf := pop_full g.n hg.n8
  have hG : Grp (keptL g a) := Grp.fold hg (mem a) _ Grp.alone fun y hy => (mem_lt hg.len ha hy).2
  have hco := comps_one hG (n := g.n) (by omega) hg.n8
  rw [isTreeB, Bool.and_eq_true, Bool.and_eq_true, decide_eq_true_eq, decide_eq_true_eq, acy_fo hg ha, hpf]
  constructor
  · rintro ⟨⟨h3, h4⟩, h5⟩
    exact ⟨h5, by show pop a + 1 = _; omega⟩
  · rintro ⟨h5, h6⟩
    have h7 : pop a + 1 = g.n := h6
    have h8 := h5.2
    refine ⟨⟨places_all hg ha (hco.1 ?_), by omega⟩, h5⟩
    rw [comps_cp hg ha]; omega
/-! Two trees. -/
/-! Lehman. -/
end Go.Proofs.YtfphkpdobbffeaaDoor

/-
  Contract: the reference's HasBarrier.
-/
namespace Go.Proofs.YtfphkpdobbffeaaDoor
open Go Go.AH
set_option maxRecDepth 100000
set_option maxHeartbeats 4000000

def nL (w : Nat → Nat) (n : Nat) : List Int := (List.range n).map fun i => (w i : Int)
theorem nL_len (w : Nat → Nat) (n : Nat) : (nL w n).length = n := by simp [nL]
theorem nL_get (w : Nat → Nat) {n i : Nat} (h : i < n) : (ints (nL w n)).getD (0 + i * 1) (.int .i64 0) = .int .i64 (w i : Nat) := by
  rw [Nat.zero_add, Nat.mul_one, ints_getD]; simp [nL, h, List.getElem?_range]
theorem nL_set (w : Nat → Nat) {n i : Nat} (k : Nat) (h : i < n) : (ints (nL w n)).set i (.int .i64 (k : Nat)) = ints (nL (updW w i k) n) := by
  apply List.ext_getElem?
  intro j
  rw [List.getElem?_set]
  by_cases hj : j < n
  · by_cases e : i = j
    · subst e; simp [ints, nL, updW, h]
    · have e2 : ¬ j = i := fun x => e x.symm
      simp [ints, nL, updW, hj, e, e2]
  · simp [ints, nL, hj]; omega
theorem betweenR_spec {g : Gm} (hg : g.ok) (w : Nat → Nat) : FDet Tryd.prog 72 [.g (gC g 0), .c (.rs 1 0 g.n)] [(0, wB g), (1, .ro (ints (nL w g.n)))] 2 (.c (.int .i64 (crN w g.ws : Nat))) [] 2 := by
  have h8 := hg.n8
  have hl := hg.len
  have hW8 : (ints (nL w g.n)).length = g.n := by rw [ints_len, nL_len]
  refine FSpec.of_body tok true Tryd.func72 rfl (by kernel_rfl) (by decide) (by simp [tupA, hpLt, tmLt, AV.lt, AE.lt, AC.lt, LL_cons, LL_nil, idOk, ABlk.lt, ints_LL, GB, tab64_LL, gC, wB, giC, noneB]) (by simp [tupA, hpLt, tmLt, AV.lt, AE.lt, AC.lt, LL_cons, LL_nil, idOk, ABlk.lt, ints_LL, GB, tab64_LL, gC, wB, giC, noneB]) (by show 2 ≤ _; decide) ?_
  refine Wk.on ?_
  refine Tr.loop (md := true) (X := Nat) (st := fun i => ⟨[(1, .c (.rs 1 0 g.n)), (2, .c (.ptr 2 0)), (5, .c (.int .i64 (crN w (g.ws.take i) : Nat))), (6, .c (.int .i64 i))], [(2, .own (gC g 0)), (0, wB g), (1, .ro (ints (nL w g.n)))], 3, 36, 2⟩) (inv := fun i => i ≤ g.ws.length) (μ := fun i => g.ws.length - i) (x0 := 0) (l := []) tok (by omega) ?_ ?_
  · exact Sub.nil ⟨rfl, rfl, (by simp [tab64_LL, gC, wB, giC, noneB]), rfl, (by simp [tupA, hpLt, tmLt, AV.lt, AE.lt, AC.lt, LL_cons, LL_nil, idOk, ABlk.lt, ints_LL, GB, tab64_LL, gC, wB, giC, noneB]), (by simp [tupA, hpLt, tmLt, AV.lt, AE.lt, AC.lt, LL_cons, LL_nil, idOk, ABlk.lt, ints_LL, GB, tab64_LL, gC, wB, giC, noneB])⟩ (by (repeat (first | exact trivial | refine ⟨trivial, ?_⟩ | refine ⟨rfl, ?_⟩))) ⟨rfl, rfl, rfl, trivial⟩
  · intro i hi
    have hcl : crN w (g.ws.take i) ≤ 10 := Nat.le_trans List.countP_le_length (by rw [List.length_take]; omega)
    by_cases hlt : i < g.ws.length
    · have hs := crN_succ w g.ws hlt
      have he := hg.ends i hlt
      obtain ⟨a, ha⟩ : ∃ a, a = (g.ws.getD i (0, 0)).1 := ⟨_, rfl⟩
      obtain ⟨b, hb⟩ : ∃ b, b = (g.ws.getD i (0, 0)).2 := ⟨_, rfl⟩
      rw [← ha, ← hb] at he hs
      have hlen : 0 + i * 2 + Int.toNat 0 * 1 + 1 ≤ (ints (fl g.ws)).length ∧ 0 + i * 2 + Int.toNat 1 * 1 + 1 ≤ (ints (fl g.ws)).length := by
        rw [ints_len, fl_len]; simp; omega
      have q0 := wget0 g.ws i
      have q1 := wget1 g.ws i
      rw [← ha] at q0
      rw [← hb] at q1
      refine Wk.on ?_
      rw [decide_eq_true (show ((i : Nat) : Int) < ((g.ws.length : Nat) : Int) by omega)]
      refine Wk.on ?_
      refine Tr.draw (md := true) [⟨[], [15, 16, 17, 18, 19, 20, 23, 24, 25, 26, 27, 28, 29, 30, 31], [], [], []⟩, ⟨[], [14, 17, 23, 24, 25, 26, 27, 28, 29, 30, 31], [0], [], []⟩, ⟨[1], [14, 17, 23, 24, 25, 26, 27, 28, 29, 30, 31], [0], [], []⟩, ⟨[], [14, 15, 16, 23, 24, 25, 26, 27, 28, 29, 30, 31], [0, 1, 2], [], []⟩, ⟨[1, 2, 3], [14, 23, 24, 25, 26, 27, 28, 29, 30, 31], [0], [], []⟩, ⟨[1, 2, 3, 4], [14, 23, 24, 25, 26, 27, 28, 29, 30, 31], [0], [], []⟩, ⟨[1, 2, 3, 4, 5], [14, 23, 24, 25, 26, 27, 28, 29, 30, 31], [0], [], []⟩, ⟨[0, 1, 2, 3, 4, 5, 6], [23, 24, 25, 26, 27, 28, 29, 30, 31], [], [], []⟩, ⟨[0, 1, 2, 3, 4, 5, 6, 7], [23, 24, 25, 26, 27, 28, 29, 30, 31], [], [], []⟩, ⟨[], [14, 15, 16, 17, 18, 19, 20, 21, 22, 24, 25, 26, 27, 28, 29], [0, 1, 2, 3, 4, 5, 6, 7, 8], [], []⟩, ⟨[], [14, 15, 16, 17, 18, 19, 20, 21, 22, 23, 26], [0, 1, 2, 3, 4, 5, 6, 7, 8, 9], [], []⟩, ⟨[10], [14, 15, 16, 17, 18, 19, 20, 21, 22, 23, 26], [0, 1, 2, 3, 4, 5, 6, 7, 8, 9], [], []⟩, ⟨[], [14, 15, 16, 17, 18, 19, 20, 21, 22, 23, 24, 25], [0, 1, 2, 3, 4, 5, 6, 7, 8, 9, 10, 11], [], []⟩, ⟨[10, 11, 12], [14, 15, 16, 17, 18, 19, 20, 21, 22, 23], [0, 1, 2, 3, 4, 5, 6, 7, 8, 9], [], []⟩, ⟨[10, 11, 12, 13], [14, 15, 16, 17, 18, 19, 20, 21, 22, 23], [0, 1, 2, 3, 4, 5, 6, 7, 8, 9], [], []⟩, ⟨[10, 11, 12, 13, 14], [14, 15, 16, 17, 18, 19, 20, 21, 22, 23], [0, 1, 2, 3, 4, 5, 6, 7, 8, 9], [], []⟩, ⟨[9, 10, 11, 12, 13, 14, 15], [14, 15, 16, 17, 18, 19, 20, 21, 22], [0, 1, 2, 3, 4, 5, 6, 7, 8], [], []⟩, ⟨[9, 10, 11, 12, 13, 14, 15, 16], [14, 15, 16, 17, 18, 19, 20, 21, 22], [0, 1, 2, 3, 4, 5, 6, 7, 8], [], []⟩] tok (by kernel_rfl) (by kernel_rfl) ?_
      refine Wk.on ?_
      rw [Int.toNat_natCast, q0]
      refine Wk.on ?_
      rw [Int.toNat_natCast, q1]
      refine Wk.on ?_
      rw [Int.toNat_natCast, Int.toNat_natCast, nL_get w (show a < g.n by omega), nL_get w (show b < g.n by omega)]
      refine Wk.on ?_
      refine ⟨fun hc => ?_, fun hc => ?_⟩ <;> (try simp only [decide_eq_true_eq, decide_eq_false_iff_not, Decidable.not_not, Bool.not_true, Bool.not_false, ne_eq, cond_true, cond_false, Bool.not_eq_true', Bool.not_eq_false'] at hc)
      · rw [if_pos (show w a ≠ w b by omega)] at hs
        refine Wk.on ?_
        refine Again.mk (i + 1) (Sub.nil ⟨rfl, rfl, (by simp [tab64_LL, gC, wB, giC, noneB]), rfl, (by simp [tupA, hpLt, tmLt, AV.lt, AE.lt, AC.lt, LL_cons, LL_nil, idOk, ABlk.lt, ints_LL, GB, tab64_LL, gC, wB, giC, noneB]), (by simp [tupA, hpLt, tmLt, AV.lt, AE.lt, AC.lt, LL_cons, LL_nil, idOk, ABlk.lt, ints_LL, GB, tab64_LL, gC, wB, giC, noneB])⟩ ⟨rfl, rfl, by rw [hs]; rfl, rfl, trivial⟩ (by (repeat (first | exact trivial | refine ⟨trivial, ?_⟩ | refine ⟨rfl, ?_⟩)))) (by omega) (by omega)
      · rw [if_neg (show ¬ (w a ≠ w b) by omega)] at hs
        refine Wk.on ?_
        refine Again.mk (i + 1) (Sub.nil ⟨rfl, rfl, (by simp [tab64_LL, gC, wB, giC, noneB]), rfl, (by simp [tupA, hpLt, tmLt, AV.lt, AE.lt, AC.lt, LL_cons, LL_nil, idOk, ABlk.lt, ints_LL, GB, tab64_LL, gC, wB, giC, noneB]), (by simp [tupA, hpLt, tmLt, AV.lt, AE.lt, AC.lt, LL_cons, LL_nil, idOk, ABlk.lt, ints_LL, GB, tab64_LL, gC, wB, giC, noneB])⟩ ⟨rfl, rfl, by rw [hs]; rfl, rfl, trivial⟩ (by (repeat (first | exact trivial | refine ⟨trivial, ?_⟩ | refine ⟨rfl, ?_⟩)))) (by omega) (by omega)
    · have e : i = g.ws.length := by omega
      subst e
      refine Wk.on ?_
      rw [decide_eq_false (show ¬ (((g.ws.length : Nat) : Int) < ((g.ws.length : Nat) : Int)) by omega)]
      refine Wk.on ?_
      intro _
      refine Wk.on ?_
      rw [List.take_length]
      exact AH.Fin.nil2 ⟨rfl, rfl, rfl⟩
theorem rep_zero : ∀ M : Nat, rep M [AC.int .i64 0] = List.replicate M (.int .i64 0)
  | 0 => rfl
  | M + 1 => by rw [List.replicate_succ, ← rep_zero M]; rfl
theorem nL_w0 (n : Nat) : ints (nL w0 n) = List.replicate n (.int .i64 0) := by
  apply List.ext_getElem?
  intro j
  by_cases h : j < n
  · simp [ints, nL, w0, h, List.getElem?_replicate]
  · simp [ints, nL, h, List.getElem?_replicate]
end Go.Proofs.YtfphkpdobbffeaaDoor

/-
  Contract: the reference's IsBarrier.
-/
namespace Go.Proofs.YtfphkpdobbffeaaDoor
open Go Go.AH
set_option maxRecDepth 100000
set_option maxHeartbeats 4000000

def runRE (n i : Nat) : List Int → Option Int → Nat → (Nat → Nat) → Option (Nat × (Nat → Nat))
  | [], _, c, u => some (c, u)
  | x :: r, q, c, u => if (x < 0 ∨ (n : Int) ≤ x ∨ 0 < u x.toNat) ∨ ∃ y, q = some y ∧ x ≤ y then none else runRE n i r (some x) (c + 1) (updW u x.toNat (i + 1))
def runRP (n : Nat) : List (List Int) → Nat → Option (List Int) → Nat → (Nat → Nat) → Option (Nat × (Nat → Nat))
  | [], _, _, c, u => some (c, u)
  | p :: r, i, q, c, u => if p = [] then none else match runRE n i p none c u with
    | none => none
    | some (c, u) => if ∃ x, q = some x ∧ p.getD 0 0 < x.getD 0 0 then none else runRP n r (i + 1) (some p) c u
def isBarR (g : Gm) (V : List (List Int)) : Bool := match runRP g.n V 0 none 0 w0 with
  | none => false
  | some (c, u) => decide (c = g.n) && decide (2 ≤ V.length) && decide ((crN u g.ws : Int) < 2 * ((V.length : Int) - 1))
theorem isBarR_none {g : Gm} {V : List (List Int)} (h : runRP g.n V 0 none 0 w0 = none) : isBarR g V = false := by unfold isBarR; rw [h]
theorem runRP_step {n : Nat} {V : List (List Int)} {i : Nat} (h : i < V.length) (c : Nat) (u : Nat → Nat) : runRP n (V.drop i) i (prevO V i) c u =
    if V.getD i [] = [] then none else match runRE n i (V.getD i []) none c u with
    | none => none
    | some (c, u) => if 0 < i ∧ (V.getD i []).getD 0 0 < (V.getD (i - 1) []).getD 0 0 then none else runRP n (V.drop (i + 1)) (i + 1) (prevO V (i + 1)) c u := by
  rw [List.drop_eq_getElem_cons h, runRP]
  have e : V.getD i [] = V[i] := by simp [List.getD_eq_getElem?_getD, h]
  rw [e]
  have c0 : (∃ x, prevO V i = some x ∧ V[i].getD 0 0 < x.getD 0 0) ↔ (0 < i ∧ V[i].getD 0 0 < (V.getD (i - 1) []).getD 0 0) := by
    unfold prevO
    constructor
    · rintro ⟨x, h1, h2⟩
      by_cases hi : i = 0
      · rw [if_pos hi] at h1; cases h1
      · rw [if_neg hi] at h1; injection h1 with h1; subst h1; exact ⟨by omega, h2⟩
    · rintro ⟨h1, h2⟩
      exact ⟨_, if_neg (by omega), h2⟩
  have c2 : prevO V (i + 1) = some V[i] := by unfold prevO; rw [if_neg (by omega)]; simp [List.getD_eq_getElem?_getD, h]
  rw [c2]
  split
  · rfl
  · split
    · rfl
    · rename_i c' u' _
      by_cases q : 0 < i ∧ V[i].getD 0 0 < (V.getD (i - 1) []).getD 0 0
      · rw [if_pos q, if_pos (c0.2 q)]
      · rw [if_neg q, if_neg fun x => q (c0.1 x)]
def prevE (p : List Int) (j : Nat) : Option Int := if j = 0 then none else some (p.getD (j - 1) 0)
theorem runRE_step {n i : Nat} {p : List Int} {j : Nat} (h : j < p.length) (c : Nat) (u : Nat → Nat) : runRE n i (p.drop j) (prevE p j) c u =
    if (p.getD j 0 < 0 ∨ (n : Int) ≤ p.getD j 0 ∨ 0 < u (p.getD j 0).toNat) ∨ (0 < j ∧ p.getD j 0 ≤ p.getD (j - 1) 0) then none else runRE n i (p.drop (j + 1)) (prevE p (j + 1)) (c + 1) (updW u (p.getD j 0).toNat (i + 1)) := by
  rw [List.drop_eq_getElem_cons h, runRE]
  have e : p.getD j 0 = p[j] := by simp [List.getD_eq_getElem?_getD, h]
  rw [e]
  have c0 : (∃ y, prevE p j = some y ∧ p[j] ≤ y) ↔ (0 < j ∧ p[j] ≤ p.getD (j - 1) 0) := by
    unfold prevE
    constructor
    · rintro ⟨x, h1, h2⟩
      by_cases hi : j = 0
      · rw [if_pos hi] at h1; cases h1
      · rw [if_neg hi] at h1; injection h1 with h1; subst h1; exact ⟨by omega, h2⟩
    · rintro ⟨h1, h2⟩
      exact ⟨_, if_neg (by omega), h2⟩
  have c2 : prevE p (j + 1) = some p[j] := by unfold prevE; rw [if_neg (by omega)]; simp [List.getD_eq_getElem?_getD, h]
  rw [c2]
  by_cases q : (p[j] < 0 ∨ (n : Int) ≤ p[j] ∨ 0 < u p[j].toNat) ∨ (0 < j ∧ p[j] ≤ p.getD (j - 1) 0)
  · rw [if_pos q, if_pos (q.imp id c0.2)]
  · rw [if_neg q, if_neg fun x => q (x.imp id c0.1)]
theorem tv_get (p : List Int) (j : Nat) : (RT.leaf 1 p.length p).cs.getD (j * 1) (.int .i64 0) = .int .i64 (p.getD j 0) := by
  rw [Nat.mul_one]; exact ints_getD p j 0
theorem isBarR_spec {g : Gm} (hg : g.ok) (V : List (List Int)) (hV : V.length ≤ 1000) (hVa : ∀ a ∈ V, a.length ≤ 1000) : FDet Tryd.prog 31 [.g (gC g 0), .c (.rs 1 0 V.length)] [(0, wB g), (1, .ro (tvC V))] 2 (.c (.bool (isBarR g V))) [] 2 := by
  have h8 := hg.n8
  refine FSpec.of_body tok true Tryd.func31 rfl (by kernel_rfl) (by decide) (by simp [tupA, hpLt, tmLt, AV.lt, AE.lt, AC.lt, LL_cons, LL_nil, idOk, ABlk.lt, ints_LL, GB, tab64_LL, gC, wB, giC, noneB, tvC_LL]) (by simp [tupA, hpLt, tmLt, AV.lt, AE.lt, AC.lt, LL_cons, LL_nil, idOk, ABlk.lt, ints_LL, GB, tab64_LL, gC, wB, giC, noneB, tvC_LL]) (by show 2 ≤ _; decide) ?_
  refine Wk.on ?_
  have hrep : ∀ z, z = [AC.int .i64 0] → rep ((g.n : Nat) : Int).toNat z = ints (nL w0 g.n) := fun z hz => by rw [hz, Int.toNat_natCast, rep_zero, nL_w0]
  refine ⟨⟨Nat.le_of_ble_eq_true rfl, Nat.le_of_ble_eq_true rfl, rfl, by omega, rfl, by show (8 : Int) * (g.n : Int) ≤ _; omega, by omega⟩, ?_⟩
  refine Wk.on ?_
  rw [hrep _ rfl]
  refine Tr.loop (md := true) (X := Nat × Nat × (Nat → Nat)) (st := fun x => ⟨[(1, .c (.rs 1 0 V.length)), (2, .c (.ptr 2 0)), (5, .c (.sl 3 0 g.n (some g.n))), (6, .c (.int .i64 x.2.1)), (7, .c (.int .i64 x.1))], [(3, .own (ints (nL x.2.2 g.n))), (2, .own (gC g 0)), (0, wB g), (1, .ro (tvC V))], 4, 116, 2⟩) (inv := fun x => x.1 ≤ V.length ∧ x.2.1 ≤ 1000 * x.1 ∧ (0 < x.1 → V.getD (x.1 - 1) [] ≠ []) ∧ runRP g.n (V.drop x.1) x.1 (prevO V x.1) x.2.1 x.2.2 = runRP g.n V 0 none 0 w0) (μ := fun x => V.length - x.1) (x0 := (0, 0, w0)) (l := []) tok ⟨by omega, by show 0 ≤ 1000 * 0; omega, (fun h => absurd h (by decide)), rfl⟩ ?_ ?_
  · exact Sub.nil ⟨rfl, rfl, (by simp [tab64_LL, gC, wB, giC, noneB, tvC_LL]), rfl, (by simp [tupA, hpLt, tmLt, AV.lt, AE.lt, AC.lt, LL_cons, LL_nil, idOk, ABlk.lt, ints_LL, GB, tab64_LL, gC, wB, giC, noneB, tvC_LL]), (by simp [tupA, hpLt, tmLt, AV.lt, AE.lt, AC.lt, LL_cons, LL_nil, idOk, ABlk.lt, ints_LL, GB, tab64_LL, gC, wB, giC, noneB, tvC_LL])⟩ (by (repeat (first | exact trivial | refine ⟨trivial, ?_⟩ | refine ⟨rfl, ?_⟩))) ⟨rfl, rfl, rfl, rfl, trivial⟩
  · rintro ⟨i, c, u⟩ ⟨h1, h2, h4, h3⟩
    dsimp only at h1 h2 h3 h4 ⊢
    have hW8 : (ints (nL u g.n)).length = g.n := by rw [ints_len, nL_len]
    by_cases hi : i < V.length
    · have hst := runRP_step hi c u (n := g.n)
      rw [h3] at hst
      have htl : (tvC V).length = V.length := by simp [tvC]
      have htg := tvC_get hi
      obtain ⟨p, hp⟩ : ∃ p, p = V.getD i [] := ⟨_, rfl⟩
      have hpl : p.length ≤ 1000 := by rw [hp, List.getD_eq_getElem?_getD, List.getElem?_eq_getElem hi]; exact hVa _ (List.getElem_mem hi)
      rw [← hp] at hst htg
      refine Wk.on ?_
      rw [decide_eq_true (show ((i : Nat) : Int) < ((V.length : Nat) : Int) by omega)]
      refine Wk.on ?_
      rw [Int.toNat_natCast, htg]
      refine Wk.on ?_
      by_cases hp0 : p = []
      · rw [if_pos hp0] at hst
        subst hp0
        refine Wk.on ?_
        exact AH.Fin.nil2 ⟨by rw [isBarR_none hst]; rfl, rfl, rfl⟩
      · have hp1 : 0 < p.length := List.length_pos_iff.2 hp0
        rw [if_neg hp0] at hst
        rw [decide_eq_false (show ¬ (((RT.leaf 1 p.length p).len : Nat) : Int) = 0 by show ¬ ((p.length : Nat) : Int) = 0; omega)]
        refine Wk.on ?_
        refine Tr.loop (md := true) (X := Nat × Nat × (Nat → Nat)) (st := fun x => ⟨[(1, .c (.rs 1 0 V.length)), (2, .c (.ptr 2 0)), (5, .c (.sl 3 0 g.n (some g.n))), (6, .c (.int .i64 x.2.1)), (7, .c (.int .i64 i)), (8, .c (.int .i64 x.1))], [(3, .own (ints (nL x.2.2 g.n))), (2, .own (gC g 0)), (0, wB g), (1, .ro (tvC V))], 4, 116, 2⟩) (inv := fun x => x.1 ≤ p.length ∧ x.2.1 ≤ 1000 * i + x.1 ∧ runRE g.n i (p.drop x.1) (prevE p x.1) x.2.1 x.2.2 = runRE g.n i p none c u) (μ := fun x => p.length - x.1) (x0 := (0, c, u)) (l := []) tok ⟨by omega, by show c ≤ 1000 * i + 0; omega, rfl⟩ ?_ ?_
        · exact Sub.nil ⟨rfl, rfl, (by simp [tab64_LL, gC, wB, giC, noneB, tvC_LL]), rfl, (by simp [tupA, hpLt, tmLt, AV.lt, AE.lt, AC.lt, LL_cons, LL_nil, idOk, ABlk.lt, ints_LL, GB, tab64_LL, gC, wB, giC, noneB, tvC_LL]), (by simp [tupA, hpLt, tmLt, AV.lt, AE.lt, AC.lt, LL_cons, LL_nil, idOk, ABlk.lt, ints_LL, GB, tab64_LL, gC, wB, giC, noneB, tvC_LL])⟩ (by (repeat (first | exact trivial | refine ⟨trivial, ?_⟩ | refine ⟨rfl, ?_⟩))) (by (repeat (first | exact trivial | refine ⟨trivial, ?_⟩ | refine ⟨rfl, ?_⟩)))
        · rintro ⟨j, c', u'⟩ ⟨g1, g2, g4⟩
          dsimp only at g1 g2 g4 ⊢
          have hW8' : (ints (nL u' g.n)).length = g.n := by rw [ints_len, nL_len]
          by_cases hj : j < p.length
          · have hes := runRE_step (n := g.n) (i := i) hj c' u'
            rw [g4] at hes
            refine Wk.on ?_
            rw [Int.toNat_natCast, htg]
            refine Wk.on ?_
            rw [decide_eq_true (show ((j : Nat) : Int) < (((RT.leaf 1 p.length p).len : Nat) : Int) by show ((j : Nat) : Int) < ((p.length : Nat) : Int); omega)]
            refine Wk.on ?_
            rw [Int.toNat_natCast, htg]
            refine Wk.on ?_
            refine ⟨⟨rfl, by omega, by show ((j : Nat) : Int) < ((p.length : Nat) : Int); omega⟩, ?_⟩
            refine Wk.on ?_
            refine ⟨by show ((j : Nat) : Int).toNat * 1 + 1 ≤ (p.map _).length; rw [List.length_map]; omega, ?_⟩
            refine Wk.on ?_
            rw [Int.toNat_natCast, tv_get p j]
            obtain ⟨v, hvv⟩ : ∃ v, v = p.getD j 0 := ⟨_, rfl⟩
            rw [← hvv] at hes ⊢
            by_cases c1 : v < 0
            · rw [if_pos (.inl (.inl c1))] at hes
              refine Wk.on ?_
              rw [decide_eq_true c1]
              refine Wk.on ?_
              rw [hes] at hst
              exact AH.Fin.nil2 ⟨by rw [isBarR_none hst]; rfl, rfl, rfl⟩
            · refine Wk.on ?_
              rw [decide_eq_false c1]
              refine Wk.on ?_
              by_cases c2 : ((g.n : Nat) : Int) ≤ v
              · rw [if_pos (.inl (.inr (.inl c2)))] at hes
                rw [decide_eq_true c2]
                refine Wk.on ?_
                rw [hes] at hst
                exact AH.Fin.nil2 ⟨by rw [isBarR_none hst]; rfl, rfl, rfl⟩
              · rw [decide_eq_false c2]
                refine Wk.on ?_
                obtain ⟨a, rfl⟩ : ∃ a : Nat, v = a := ⟨v.toNat, by omega⟩
                rw [Int.toNat_natCast] at hes
                have hga := nL_get u' (n := g.n) (i := a) (by omega)
                rw [Int.toNat_natCast, hga]
                refine Wk.on ?_
                by_cases c3 : 0 < u' a
                · rw [if_pos (.inl (.inr (.inr c3)))] at hes
                  rw [decide_eq_true (show (0 : Int) < ((u' a : Nat) : Int) by omega)]
                  refine Wk.on ?_
                  rw [hes] at hst
                  exact AH.Fin.nil2 ⟨by rw [isBarR_none hst]; rfl, rfl, rfl⟩
                · rw [decide_eq_false (show ¬ (0 : Int) < ((u' a : Nat) : Int) by omega)]
                  refine Wk.on ?_
                  by_cases c5 : 0 < j
                  · rw [decide_eq_true (show (0 : Int) < ((j : Nat) : Int) by omega)]
                    refine Wk.on ?_
                    rw [Int.toNat_natCast, htg]
                    refine Wk.on ?_
                    refine ⟨⟨rfl, by omega, by show ((j : Nat) : Int) - 1 < ((p.length : Nat) : Int); omega⟩, ?_⟩
                    have hidx : (((j : Nat) : Int) - 1).toNat = j - 1 := by omega
                    refine Wk.on ?_
                    refine ⟨by show (((j : Nat) : Int) - 1).toNat * 1 + 1 ≤ (p.map _).length; rw [List.length_map]; omega, ?_⟩
                    refine Wk.on ?_
                    rw [hidx, tv_get p (j - 1)]
                    refine Wk.on ?_
                    by_cases c6 : ((a : Nat) : Int) ≤ p.getD (j - 1) 0
                    · rw [if_pos (.inr ⟨c5, c6⟩)] at hes
                      rw [decide_eq_true c6]
                      refine Wk.on ?_
                      rw [hes] at hst
                      exact AH.Fin.nil2 ⟨by rw [isBarR_none hst]; rfl, rfl, rfl⟩
                    · have c4 : ¬ (0 < j ∧ ((a : Nat) : Int) ≤ p.getD (j - 1) 0) := fun h => c6 h.2
                      rw [decide_eq_false c6]
                      rw [if_neg (by rintro ((h | h | h) | h); exact c1 h; exact c2 h; exact c3 h; exact c4 h)] at hes
                      have hset : (ints (nL u' g.n)).set (0 + a * 1) (.int .i64 ((i : Nat) + 1)) = ints (nL (updW u' a (i + 1)) g.n) := by rw [Nat.zero_add, Nat.mul_one]; exact nL_set u' (i + 1) (by omega)
                      refine Wk.on ?_
                      rw [Int.toNat_natCast, hset]
                      refine Again.mk ((j + 1, c' + 1, updW u' a (i + 1))) (Sub.nil ⟨rfl, rfl, (by simp [tab64_LL, gC, wB, giC, noneB, tvC_LL]), rfl, (by simp [tupA, hpLt, tmLt, AV.lt, AE.lt, AC.lt, LL_cons, LL_nil, idOk, ABlk.lt, ints_LL, GB, tab64_LL, gC, wB, giC, noneB, tvC_LL]), (by simp [tupA, hpLt, tmLt, AV.lt, AE.lt, AC.lt, LL_cons, LL_nil, idOk, ABlk.lt, ints_LL, GB, tab64_LL, gC, wB, giC, noneB, tvC_LL])⟩ (by (repeat (first | exact trivial | refine ⟨trivial, ?_⟩ | refine ⟨rfl, ?_⟩))) (by (repeat (first | exact trivial | refine ⟨trivial, ?_⟩ | refine ⟨rfl, ?_⟩)))) (⟨by show j + 1 ≤ p.length; omega, by show c' + 1 ≤ 1000 * i + (j + 1); omega, hes.symm⟩) (by omega)
                  · have c4 : ¬ (0 < j ∧ ((a : Nat) : Int) ≤ p.getD (j - 1) 0) := fun h => c5 h.1
                    rw [decide_eq_false (show ¬ (0 : Int) < ((j : Nat) : Int) by omega)]
                    rw [if_neg (by rintro ((h | h | h) | h); exact c1 h; exact c2 h; exact c3 h; exact c4 h)] at hes
                    have hset : (ints (nL u' g.n)).set (0 + a * 1) (.int .i64 ((i : Nat) + 1)) = ints (nL (updW u' a (i + 1)) g.n) := by rw [Nat.zero_add, Nat.mul_one]; exact nL_set u' (i + 1) (by omega)
                    refine Wk.on ?_
                    rw [Int.toNat_natCast, hset]
                    refine Again.mk ((j + 1, c' + 1, updW u' a (i + 1))) (Sub.nil ⟨rfl, rfl, (by simp [tab64_LL, gC, wB, giC, noneB, tvC_LL]), rfl, (by simp [tupA, hpLt, tmLt, AV.lt, AE.lt, AC.lt, LL_cons, LL_nil, idOk, ABlk.lt, ints_LL, GB, tab64_LL, gC, wB, giC, noneB, tvC_LL]), (by simp [tupA, hpLt, tmLt, AV.lt, AE.lt, AC.lt, LL_cons, LL_nil, idOk, ABlk.lt, ints_LL, GB, tab64_LL, gC, wB, giC, noneB, tvC_LL])⟩ (by (repeat (first | exact trivial | refine ⟨trivial, ?_⟩ | refine ⟨rfl, ?_⟩))) (by (repeat (first | exact trivial | refine ⟨trivial, ?_⟩ | refine ⟨rfl, ?_⟩)))) (⟨by show j + 1 ≤ p.length; omega, by show c' + 1 ≤ 1000 * i + (j + 1); omega, hes.symm⟩) (by omega)
          · have hje : j = p.length := by omega
            subst hje
            rw [List.drop_length, runRE] at g4
            rw [← g4] at hst
            dsimp only at hst
            refine Wk.on ?_
            rw [Int.toNat_natCast, htg]
            refine Wk.on ?_
            rw [decide_eq_false (show ¬ ((p.length : Nat) : Int) < (((RT.leaf 1 p.length p).len : Nat) : Int) by show ¬ ((p.length : Nat) : Int) < ((p.length : Nat) : Int); omega)]
            refine Wk.on ?_
            refine Tr.draw (md := true) [⟨[], [], [], [], []⟩, ⟨[0], [], [], [], []⟩, ⟨[0, 1], [], [], [], []⟩, ⟨[0, 1, 2], [83, 84, 89, 90, 91, 92, 93, 94], [], [], []⟩, ⟨[0, 1, 2], [82, 89, 90, 91, 92, 93, 94], [3], [], []⟩, ⟨[0, 1, 2, 4], [82, 89, 90, 91, 92, 93, 94], [3], [], []⟩, ⟨[0, 1, 2, 3, 4, 5], [89, 90, 91, 92, 93, 94], [], [], []⟩, ⟨[0, 1, 2, 3, 4, 5, 6], [89, 90, 91, 92, 93, 94], [], [], []⟩, ⟨[0, 1, 2, 3, 4, 5, 6, 7], [89, 90, 91, 92, 93, 94], [], [], []⟩, ⟨[0, 1, 2, 3, 4, 5, 6, 7, 8], [89, 90, 91, 92, 93, 94], [], [], []⟩, ⟨[0, 1, 2], [82, 83, 84, 85, 86, 87, 88, 90], [3, 4, 5, 6, 7, 8, 9], [], []⟩, ⟨[0, 1, 2], [82, 83, 84, 85, 86, 87, 88, 89], [3, 4, 5, 6, 7, 8, 9, 10], [], []⟩, ⟨[0, 1, 2, 10, 11], [82, 83, 84, 85, 86, 87, 88], [3, 4, 5, 6, 7, 8, 9], [], []⟩, ⟨[0, 1, 2, 10, 11, 12], [82, 83, 84, 85, 86, 87, 88], [3, 4, 5, 6, 7, 8, 9], [], []⟩, ⟨[0, 1, 2, 10, 11, 12, 13], [82, 83, 84, 85, 86, 87, 88], [3, 4, 5, 6, 7, 8, 9], [], []⟩, ⟨[0, 1, 2, 10, 11, 12, 13, 14], [82, 83, 84, 85, 86, 87, 88], [3, 4, 5, 6, 7, 8, 9], [], []⟩] tok (by kernel_rfl) (by kernel_rfl) ?_
            refine Wk.on ?_
            by_cases hi0 : 0 < i
            · rw [decide_eq_true (show (0 : Int) < ((i : Nat) : Int) by omega)]
              have htq := tvC_get (V := V) (i := i - 1) (by omega)
              have hq0 := h4 hi0
              obtain ⟨q, hq⟩ : ∃ q, q = V.getD (i - 1) [] := ⟨_, rfl⟩
              rw [← hq] at htq hst hq0
              have hq1 : 0 < q.length := List.length_pos_iff.2 hq0
              have hidx : (((i : Nat) : Int) - 1).toNat = i - 1 := by omega
              refine Wk.on ?_
              rw [hidx, htq]
              have tq0 : (RT.leaf 1 q.length q).cs.getD (Int.toNat 0 * 1) (.int .i64 0) = .int .i64 (q.getD 0 0) := tv_get q 0
              have tp0 : (RT.leaf 1 p.length p).cs.getD (Int.toNat 0 * 1) (.int .i64 0) = .int .i64 (p.getD 0 0) := tv_get p 0
              refine Wk.on ?_
              refine ⟨⟨rfl, by omega, by show (0 : Int) < ((q.length : Nat) : Int); omega⟩, ?_⟩
              refine Wk.on ?_
              refine ⟨by show 0 * 1 + 1 ≤ (q.map _).length; rw [List.length_map]; omega, ?_⟩
              refine Wk.on ?_
              rw [tq0]
              refine Wk.on ?_
              rw [Int.toNat_natCast, htg]
              refine Wk.on ?_
              refine ⟨⟨rfl, by omega, by show (0 : Int) < ((p.length : Nat) : Int); omega⟩, ?_⟩
              refine Wk.on ?_
              refine ⟨by show 0 * 1 + 1 ≤ (p.map _).length; rw [List.length_map]; omega, ?_⟩
              refine Wk.on ?_
              rw [tp0]
              refine Wk.on ?_
              by_cases c7 : p.getD 0 0 < q.getD 0 0
              · rw [if_pos ⟨hi0, c7⟩] at hst
                rw [decide_eq_true c7]
                refine Wk.on ?_
                exact AH.Fin.nil2 ⟨by rw [isBarR_none hst]; rfl, rfl, rfl⟩
              · rw [if_neg (fun h => c7 h.2)] at hst
                rw [decide_eq_false c7]
                refine Wk.on ?_
                refine Again.mk ((i + 1, c', u')) (Sub.nil ⟨rfl, rfl, (by simp [tab64_LL, gC, wB, giC, noneB, tvC_LL]), rfl, (by simp [tupA, hpLt, tmLt, AV.lt, AE.lt, AC.lt, LL_cons, LL_nil, idOk, ABlk.lt, ints_LL, GB, tab64_LL, gC, wB, giC, noneB, tvC_LL]), (by simp [tupA, hpLt, tmLt, AV.lt, AE.lt, AC.lt, LL_cons, LL_nil, idOk, ABlk.lt, ints_LL, GB, tab64_LL, gC, wB, giC, noneB, tvC_LL])⟩ (by (repeat (first | exact trivial | refine ⟨trivial, ?_⟩ | refine ⟨rfl, ?_⟩))) (by (repeat (first | exact trivial | refine ⟨trivial, ?_⟩ | refine ⟨rfl, ?_⟩)))) (⟨by show i + 1 ≤ V.length; omega, by show c' ≤ 1000 * (i + 1); omega, fun _ => (by show V.getD (i + 1 - 1) [] ≠ []; rw [Nat.add_sub_cancel, ← hp]; exact hp0), hst.symm⟩) (by omega)
            · rw [decide_eq_false (show ¬ (0 : Int) < ((i : Nat) : Int) by omega)]
              rw [if_neg (fun h => hi0 h.1)] at hst
              refine Wk.on ?_
              refine Again.mk ((i + 1, c', u')) (Sub.nil ⟨rfl, rfl, (by simp [tab64_LL, gC, wB, giC, noneB, tvC_LL]), rfl, (by simp [tupA, hpLt, tmLt, AV.lt, AE.lt, AC.lt, LL_cons, LL_nil, idOk, ABlk.lt, ints_LL, GB, tab64_LL, gC, wB, giC, noneB, tvC_LL]), (by simp [tupA, hpLt, tmLt, AV.lt, AE.lt, AC.lt, LL_cons, LL_nil, idOk, ABlk.lt, ints_LL, GB, tab64_LL, gC, wB, giC, noneB, tvC_LL])⟩ (by (repeat (first | exact trivial | refine ⟨trivial, ?_⟩ | refine ⟨rfl, ?_⟩))) (by (repeat (first | exact trivial | refine ⟨trivial, ?_⟩ | refine ⟨rfl, ?_⟩)))) (⟨by show i + 1 ≤ V.length; omega, by show c' ≤ 1000 * (i + 1); omega, fun _ => (by show V.getD (i + 1 - 1) [] ≠ []; rw [Nat.add_sub_cancel, ← hp]; exact hp0), hst.symm⟩) (by omega)
    · have hie : i = V.length := by omega
      subst hie
      rw [List.drop_length, runRP] at h3
      have hb : isBarR g V = (decide (c = g.n) && decide (2 ≤ V.length) && decide ((crN u g.ws : Int) < 2 * ((V.length : Int) - 1))) := by unfold isBarR; rw [← h3]
      have hcr : crN u g.ws ≤ 10 := Nat.le_trans List.countP_le_length hg.len
      have hwk : FDet Tryd.prog 72 [.g (gC g 0), .c (.sl 1 0 g.n (some g.n))] [(0, wB g), (1, .own (ints (nL u g.n)))] 2 (.c (.int .i64 (crN u g.ws : Nat))) [] 2 :=
        FDet.wk (betweenR_spec hg u) ⟨Or.inl rfl, ⟨rfl, rfl, rfl⟩, trivial⟩ ⟨Or.inl rfl, Or.inl rfl, trivial⟩
      refine Wk.on ?_
      rw [decide_eq_false (show ¬ ((V.length : Nat) : Int) < ((V.length : Nat) : Int) by omega)]
      refine Wk.on ?_
      intro _
      refine Wk.on ?_
      by_cases c1 : c = g.n
      · rw [decide_eq_true c1, Bool.true_and] at hb
        rw [decide_eq_true (show ((c : Nat) : Int) = ((g.n : Nat) : Int) by omega)]
        refine Wk.on ?_
        by_cases c2 : 2 ≤ V.length
        · rw [decide_eq_true c2, Bool.true_and] at hb
          rw [decide_eq_true (show (2 : Int) ≤ ((V.length : Nat) : Int) by omega)]
          refine Wk.on ?_
          refine CallA.det2 [0, 3] (.c (.int .i64 (crN u g.ws : Nat))) ([(2, .own (gC g 0)), (0, wB g), (1, .ro (tvC V))]) (hwk) ?_
          refine Wk.on ?_
          exact AH.Fin.nil2 ⟨by rw [hb]; rfl, rfl, rfl⟩
        · rw [decide_eq_false c2, Bool.false_and] at hb
          rw [decide_eq_false (show ¬ (2 : Int) ≤ ((V.length : Nat) : Int) by omega)]
          refine Wk.on ?_
          exact AH.Fin.nil2 ⟨by rw [hb]; rfl, rfl, rfl⟩
      · rw [decide_eq_false c1, Bool.false_and, Bool.false_and] at hb
        rw [decide_eq_false (show ¬ ((c : Nat) : Int) = ((g.n : Nat) : Int) by omega)]
        refine Wk.on ?_
        exact AH.Fin.nil2 ⟨by rw [hb]; rfl, rfl, rfl⟩
end Go.Proofs.YtfphkpdobbffeaaDoor

/-
  Plain: two trees on all places, or a barrier: never both, and always one.
-/
namespace Go.Proofs.YtfphkpdobbffeaaDoor
open Go Go.AH Go.Wire
set_option maxRecDepth 100000
set_option maxHeartbeats 1000000

/-! Two trees on all places. -/
/-! A division that groups make, told by restricted growth. -/
/-! The reference's search. -/
end Go.Proofs.YtfphkpdobbffeaaDoor

/-
  Plain: what is a barrier, by the program and by the reference; what the search finds is one.
-/
namespace Go.Proofs.YtfphkpdobbffeaaDoor
open Go Go.AH Go.Wire
set_option maxRecDepth 100000
set_option maxHeartbeats 1000000

theorem or_tb (s a b : Nat) : (s ||| 2 ^ a).testBit b = (s.testBit b || decide (a = b)) := by
  rw [Nat.testBit_or, Nat.testBit_two_pow]
/-! The program's and the reference's answers are the same. -/
structure Rl (n s c : Nat) (u w : Nat → Nat) : Prop where
  b : ∀ a, a < n → (s.testBit a = true ↔ 0 < u a)
  l : s < 2 ^ n
  c : c = (List.range n).countP fun a => decide (0 < u a)
  w : ∀ a, a < n → 0 < u a → u a = w a + 1
theorem Rl.put {n s c i a : Nat} {u w : Nat → Nat} (h : Rl n s c u w) (ha : a < n) (h0 : ¬ 0 < u a) : Rl n (s ||| 2 ^ a) (c + 1) (updW u a (i + 1)) (updW w a i) where
  b := fun b hb => by
    rw [or_tb, Bool.or_eq_true, decide_eq_true_eq, h.b b hb, updW]
    by_cases e : b = a
    · subst e; simp
    · rw [if_neg e]
      exact ⟨fun k => k.resolve_right fun k => e k.symm, .inl⟩
  l := or_lt h.l ((Nat.pow_lt_pow_iff_right (by omega)).2 ha)
  c := by
    have h1 := cnt_rm (fun b => decide (0 < updW u a (i + 1) b)) a (by simp [updW]) n
    rw [if_pos ha] at h1
    rw [← h1, h.c]
    congr 1
    refine List.countP_congr fun b _ => ?_
    rw [Bool.and_eq_true, decide_eq_true_eq, decide_eq_true_eq, decide_eq_true_eq, updW]
    by_cases e : b = a
    · subst e; simp; omega
    · rw [if_neg e]; exact ⟨fun k => ⟨k, e⟩, fun k => k.1⟩
  w := fun b hb h1 => by
    rw [updW] at h1 ⊢
    rw [updW]
    by_cases e : b = a
    · rw [if_pos e, if_pos e]
    · rw [if_neg e] at h1 ⊢; rw [if_neg e]; exact h.w b hb h1
theorem runE_R {n i : Nat} : ∀ (r : List Int) (s c : Nat) (u w : Nat → Nat) (q : Option Int) (l : Int), Rl n s c u w → ((q = none ∧ l = -1) ∨ (q = some l ∧ 0 ≤ l)) →
    (runE n i r s w l = none ∧ runRE n i r q c u = none) ∨ ∃ s' w' c' u', runE n i r s w l = some (s', w') ∧ runRE n i r q c u = some (c', u') ∧ Rl n s' c' u' w' ∧ (∀ a, 0 < u a → 0 < u' a) ∧ ∀ v r', r = v :: r' → 0 ≤ v ∧ v < (n : Int) ∧ ¬ 0 < u v.toNat ∧ 0 < u' v.toNat
  | [], s, c, u, w, q, l, h, hq => .inr ⟨s, w, c, u, rfl, rfl, h, fun _ k => k, fun v r' e => by cases e⟩
  | v :: r, s, c, u, w, q, l, h, hq => by
    have hc : (v ≤ l ∨ (n : Int) ≤ v ∨ s.testBit v.toNat = true) ↔ ((v < 0 ∨ (n : Int) ≤ v ∨ 0 < u v.toNat) ∨ ∃ y, q = some y ∧ v ≤ y) := by
      by_cases h1 : (n : Int) ≤ v
      · exact ⟨fun _ => .inl (.inr (.inl h1)), fun _ => .inr (.inl h1)⟩
      · by_cases h2 : v < 0
        · refine ⟨fun _ => .inl (.inl h2), fun _ => .inl ?_⟩
          rcases hq with ⟨_, k⟩ | ⟨_, k⟩ <;> omega
        · have hb := h.b v.toNat (by omega)
          have h3 : (∃ y, q = some y ∧ v ≤ y) ↔ v ≤ l := by
            rcases hq with ⟨k, k2⟩ | ⟨k, k2⟩
            · subst k; simp; omega
            · subst k; simp
          rw [hb, h3]
          constructor
          · rintro (k | k | k)
            · exact .inr k
            · exact .inl (.inr (.inl k))
            · exact .inl (.inr (.inr k))
          · rintro ((k | k | k) | k)
            · exact absurd k h2
            · exact .inr (.inl k)
            · exact .inr (.inr k)
            · exact .inl k
    by_cases hk : v ≤ l ∨ (n : Int) ≤ v ∨ s.testBit v.toNat = true
    · refine .inl ⟨?_, ?_⟩
      · rw [runE, if_pos hk]
      · rw [runRE, if_pos (hc.1 hk)]
    · have hk2 : ¬ ((v < 0 ∨ (n : Int) ≤ v ∨ 0 < u v.toNat) ∨ ∃ y, q = some y ∧ v ≤ y) := fun k => hk (hc.2 k)
      rw [runE, if_neg hk, runRE, if_neg hk2]
      have v0 : 0 ≤ v := by
        apply Classical.byContradiction
        intro k; exact hk2 (.inl (.inl (by omega)))
      have vn : v < (n : Int) := by
        apply Classical.byContradiction
        intro k; exact hk2 (.inl (.inr (.inl (by omega))))
      have vu : ¬ 0 < u v.toNat := fun k => hk2 (.inl (.inr (.inr k)))
      rcases runE_R r _ _ _ _ (some v) v (h.put (i := i) (a := v.toNat) (by omega) vu) (.inr ⟨rfl, v0⟩) with ⟨e1, e2⟩ | ⟨s', w', c', u', e1, e2, e3, e4, _⟩
      · exact .inl ⟨e1, e2⟩
      · refine .inr ⟨s', w', c', u', e1, e2, e3, fun a ha => e4 a ?_, fun v' r' e => ?_⟩
        · rw [updW]; split
          · omega
          · exact ha
        · injection e with e5 e6
          subst e5
          exact ⟨v0, vn, vu, e4 _ (by rw [updW, if_pos rfl]; omega)⟩
theorem cmpL_cons {a b : Int} {x y : List Int} (h : a < b) : cmpL (a :: x) (b :: y) < 0 := by
  have e : cmpI a b = -1 := by rw [cmpI, if_pos h]
  rw [cmpL, e, if_neg (by decide)]; decide
theorem cmpL_cons' {a b : Int} {x y : List Int} (h : b < a) : 0 ≤ cmpL (a :: x) (b :: y) := by
  have e : cmpI a b = 1 := by rw [cmpI, if_neg (by omega), if_pos h]
  rw [cmpL, e, if_neg (by decide)]; decide
theorem runP_R {n : Nat} : ∀ (r : List (List Int)) (i : Nat) (q : Option (List Int)) (s c : Nat) (u w : Nat → Nat), Rl n s c u w → (∀ x, q = some x → ∃ a x', x = a :: x' ∧ 0 ≤ a ∧ a < (n : Int) ∧ 0 < u a.toNat) →
    (runP n r i q s w = none ∧ runRP n r i q c u = none) ∨ ∃ s' w' c' u', runP n r i q s w = some (s', w') ∧ runRP n r i q c u = some (c', u') ∧ Rl n s' c' u' w'
  | [], i, q, s, c, u, w, h, hq => .inr ⟨s, w, c, u, rfl, rfl, h⟩
  | p :: r, i, q, s, c, u, w, h, hq => by
    rw [runP, runRP]
    by_cases hp : p = []
    · rw [if_pos hp, if_pos (.inl hp)]; exact .inl ⟨rfl, rfl⟩
    · rw [if_neg hp]
      obtain ⟨b, p', rfl⟩ : ∃ b p', p = b :: p' := by
        cases p with
        | nil => exact absurd rfl hp
        | cons b p' => exact ⟨b, p', rfl⟩
      rcases runE_R (i := i) (b :: p') s c u w none (-1) h (.inl ⟨rfl, rfl⟩) with ⟨e1, e2⟩ | ⟨s', w', c', u', e1, e2, e3, e4, e5⟩
      · rw [e1, e2]
        refine .inl ⟨?_, rfl⟩
        split <;> rfl
      · obtain ⟨b0, bn, bu, bu'⟩ := e5 b p' rfl
        rw [e1, e2]
        have hc : ((b :: p' = []) ∨ ∃ x, q = some x ∧ 0 ≤ cmpL x (b :: p')) ↔ ∃ x, q = some x ∧ (b :: p').getD 0 0 < x.getD 0 0 := by
          constructor
          · rintro (k | ⟨x, k1, k2⟩)
            · cases k
            · obtain ⟨a, x', rfl, a0, an, au⟩ := hq x k1
              refine ⟨_, k1, ?_⟩
              show b < a
              apply Classical.byContradiction
              intro k3
              by_cases k4 : a = b
              · subst k4; exact bu au
              · have := cmpL_cons (x := x') (y := p') (show a < b by omega)
                omega
          · rintro ⟨x, k1, k2⟩
            obtain ⟨a, x', rfl, a0, an, au⟩ := hq x k1
            exact .inr ⟨_, k1, cmpL_cons' k2⟩
        by_cases hk : (b :: p' = []) ∨ ∃ x, q = some x ∧ 0 ≤ cmpL x (b :: p')
        · rw [if_pos hk]
          dsimp only
          rw [if_pos (hc.1 hk)]
          exact .inl ⟨rfl, rfl⟩
        · rw [if_neg hk]
          dsimp only
          rw [if_neg fun k => hk (hc.2 k)]
          exact runP_R r (i + 1) _ s' c' u' w' e3 fun x hx => by
            injection hx with hx
            exact ⟨b, p', hx.symm, b0, bn, bu'⟩
theorem full_bits {n s : Nat} (hs : s < 2 ^ n) : s = 2 ^ n - 1 ↔ ∀ a, a < n → s.testBit a = true := by
  constructor
  · rintro rfl a ha
    rw [Nat.testBit_two_pow_sub_one]; exact decide_eq_true ha
  · intro h
    apply Nat.eq_of_testBit_eq
    intro a
    rw [Nat.testBit_two_pow_sub_one]
    by_cases ha : a < n
    · rw [h a ha, decide_eq_true ha]
    · rw [decide_eq_false ha]
      exact Nat.testBit_lt_two_pow (Nat.lt_of_lt_of_le hs (Nat.pow_le_pow_right (by omega) (by omega)))
theorem isBar_eq {g : Gm} (hg : g.ok) (V : List (List Int)) : isBar g V = isBarR g V := by
  have h0 : Rl g.n 0 0 w0 w0 := ⟨fun a _ => by simp [w0], pow_pos2 _, by simp [w0], fun a _ k => absurd k (by simp [w0])⟩
  unfold isBar isBarR
  rcases runP_R (n := g.n) V 0 none 0 0 w0 w0 h0 (fun x hx => by cases hx) with ⟨e1, e2⟩ | ⟨s, w, c, u, e1, e2, e3⟩
  · rw [e1, e2]
  · rw [e1, e2]
    dsimp only
    have hfull : s = 2 ^ g.n - 1 ↔ c = g.n := by
      rw [full_bits e3.l, e3.c]
      constructor
      · intro h
        have : (List.range g.n).countP (fun a => decide (0 < u a)) = (List.range g.n).length := List.countP_eq_length.2 fun a ha => decide_eq_true ((e3.b a (List.mem_range.1 ha)).1 (h a (List.mem_range.1 ha)))
        rw [this, List.length_range]
      · intro h a ha
        have : (List.range g.n).countP (fun a => decide (0 < u a)) = (List.range g.n).length := by rw [h, List.length_range]
        exact (e3.b a ha).2 (of_decide_eq_true (List.countP_eq_length.1 this a (List.mem_range.2 ha)))
    by_cases hs : s = 2 ^ g.n - 1
    · have hc := hfull.1 hs
      rw [decide_eq_true hs, decide_eq_true hc]
      have hb := (full_bits e3.l).1 hs
      have : crN u g.ws = crN w g.ws := by
        refine List.countP_congr fun p hp => ?_
        obtain ⟨h1, h2⟩ := ws_ends hg p hp
        rw [e3.w _ h1 ((e3.b _ h1).1 (hb _ h1)), e3.w _ h2 ((e3.b _ h2).1 (hb _ h2))]
        simp
      rw [this]
    · rw [decide_eq_false hs, decide_eq_false fun k => hs (hfull.2 k)]
      simp
/-! What the search finds is a barrier. -/
end Go.Proofs.YtfphkpdobbffeaaDoor

/-
  The law SwitchLehman, as a contract.
-/
namespace Go.Proofs.YtfphkpdobbffeaaDoor
open Go Go.AH
set_option maxRecDepth 100000
set_option maxHeartbeats 1000000

theorem Gm.game.ends {g : Gm} (h : g.game) : g.s ≠ g.t := by
  have h1 := h.1
  unfold bad0 at h1
  omega
end Go.Proofs.YtfphkpdobbffeaaDoor

/-
  Contracts: Spanning, Barrier, IsTrees, as the laws want them.
-/
namespace Go.Proofs.YtfphkpdobbffeaaDoor
open Go Go.AH Go.Wire
set_option maxRecDepth 100000
set_option maxHeartbeats 1000000

theorem IsTrees_spec {g : Gm} (hg : g.game) (L0 L1 : List Int) (h0 : L0.length ≤ 1000) (h1 : L1.length ≤ 1000) : FDet Tryd.prog 35 [.g (gC g 0), .g [.rs 1 0 L0.length, .rs 2 0 L1.length]] [(0, wB g), (1, .ro (ints L0)), (2, .ro (ints L1)), (100002, .ro tab64)] 3
    (.t [.c (.bool (areB g (setOk g.ws.length L0) (setOk g.ws.length L1) (setV g.ws.length L0) (setV g.ws.length L1))), .c (.int .i64 0)]) [] 3 := by
  have ha := areTrees_spec hg.ok L0 L1 h0 h1
  generalize areB g (setOk g.ws.length L0) (setOk g.ws.length L1) (setV g.ws.length L0) (setV g.ws.length L1) = B at *
  generalize setV g.ws.length L0 = v0 at *
  generalize setV g.ws.length L1 = v1 at *
  refine FSpec.of_body tok true Tryd.func35 rfl (by kernel_rfl) (by decide) (by simp [tupA, hpLt, tmLt, AV.lt, AE.lt, AC.lt, LL_cons, LL_nil, idOk, ABlk.lt, ints_LL, GB, tab64_LL, gC, wB, giC, noneB, gst, tC, pC, gN, gR, rC, rB, treesK, treesH, treesR, tvC_LL]) (by simp [tupA, hpLt, tmLt, AV.lt, AE.lt, AC.lt, LL_cons, LL_nil, idOk, ABlk.lt, ints_LL, GB, tab64_LL, gC, wB, giC, noneB, gst, tC, pC, gN, gR, rC, rB, treesK, treesH, treesR, tvC_LL]) (by show 2 ≤ _; decide) ?_
  refine Wk.on ?_
  refine CallA.ro2 [0] (.c (.int .i64 0)) (check_ok hg) ?_
  refine Wk.on ?_
  refine CallA.ro2 [0, 1, 2] (.t [.g [.int .i64 v0, .int .i64 v1], .c (.bool B)]) (ha) ?_
  refine Wk.on ?_
  exact AH.Fin.nil2 ⟨rfl, rfl, rfl⟩
/-! What two trees on all places are. -/
structure Spn (g : Gm) (a b : Nat) : Prop where
  la : a < 2 ^ g.ws.length
  lb : b < 2 ^ g.ws.length
  ne : a ≠ b
  ta : isTreeB g a (2 ^ g.n - 1) = true
  tb : isTreeB g b (2 ^ g.n - 1) = true
  pa : placesN g a = 2 ^ g.n - 1
  dj : a &&& b = 0
  a0 : a ≠ 0
  lt : a < b
theorem Spn.ends {g : Gm} (hg : g.ok) {a b : Nat} (h : Spn g a b) : alT g (placesN g a) = true := by
  rw [alT, decide_eq_true_eq, endsN, ends_iff, h.pa, Nat.testBit_two_pow_sub_one, Nat.testBit_two_pow_sub_one]
  exact ⟨decide_eq_true hg.s, decide_eq_true hg.t⟩
theorem Spn.trees {g : Gm} (hg : g.ok) {a b : Nat} (h : Spn g a b) : treesF g (alT g) ≠ none := fun hn => by
  have h1 := firstFrom_none hn a (Nat.zero_le _) (by have := h.la; omega)
  rw [okA, if_neg (by rw [h.ends hg, h.pa, h.ta]; simp [h.a0])] at h1
  have h3 := firstFrom_none h1 b h.lt (by have := h.lb; omega)
  rw [okB, if_pos ⟨h.dj, by rw [h.pa]; exact h.tb⟩] at h3
  cases h3
theorem Spn.are {g : Gm} (hg : g.ok) {a b : Nat} (h : Spn g a b) : areB g (setOk g.ws.length (mem a)) (setOk g.ws.length (mem b)) (setV g.ws.length (mem a)) (setV g.ws.length (mem b)) = true := by
  obtain ⟨a1, a2⟩ := mem_set hg.len h.la
  obtain ⟨b1, b2⟩ := mem_set hg.len h.lb
  have he := h.ends hg
  rw [alT, decide_eq_true_eq] at he
  rw [a1, a2, b1, b2, areB, decide_eq_true h.dj, decide_eq_true he, h.pa, h.ta, h.tb]
  rfl
theorem Spn.len {g : Gm} (hg : g.ok) {a b : Nat} (h : Spn g a b) : (mem a).length + 1 = g.n := by
  have := ((tree_full hg h.la).1 h.ta).2
  rw [← this]
  simp [mem]
end Go.Proofs.YtfphkpdobbffeaaDoor

/-
  SwitchJudges: the rounds
-/
namespace Go.Proofs.YtfphkpdobbffeaaDoor
open Go Go.AH
set_option maxRecDepth 100000
set_option maxHeartbeats 2000000

structure JI (x : Nat × List Int × List Int × List (List Int)) : Prop where
  r : x.1 ≤ 2
  a : x.2.1.length ≤ 12
  b : x.2.2.1.length ≤ 12
  v : x.2.2.2.length ≤ 10
  w : ∀ a ∈ x.2.2.2, a.length ≤ 10
def jst_r (g : Gm) (L0 L1 : List Int) (x : Nat × List Int × List Int × List (List Int)) : AS := ⟨[(10, .c (.rs 40 0 x.2.2.2.length)), (12, .c (.int .i64 x.1)), (4, .c (.ptr 5 0)), (7, .c (.ptr 7 0)), (8, .c (.ptr 9 0)), (9, .c (.ptr 30 0))], (40, .ro (tvC x.2.2.2)) :: hp3r g L0 L1 x.2.1 x.2.2.1, 41, 168, 4⟩
theorem jd1_r {g : Gm} (hgm : g.game) (L0 L1 : List Int) (hL0 : L0.length ≤ 9223372036854775807) (hL1 : L1.length ≤ 9223372036854775807) (A B : List Int) (V : List (List Int)) (hI : JI (0, A, B, V)) {Q : Exit → AS → Prop}
    (hQ : ∀ A B V, Q (.exit 2) (jst_r g L0 L1 (2, A, B, V))) : Tr Tryd.prog jd1 (jst_r g L0 L1 (0, A, B, V)) Q := by
  refine Tr.post ?_
  refine Tr.loop (md := true) (X := Nat × List Int × List Int × List (List Int)) (st := jst_r g L0 L1) (inv := JI) (μ := fun x => 2 - x.1) (x0 := (0, A, B, V)) (l := []) tok hI (Sub.nil ⟨rfl, rfl, (by simp [jst_r]), rfl, (by simp [tupA, hpLt, tmLt, AV.lt, AE.lt, AC.lt, LL_cons, LL_nil, idOk, ABlk.lt, ints_LL, GB, tab64_LL, gC, wB, giC, noneB, gst, tC, pC, gN, gR, rC, rB, tvC_LL, hp3r, jst_r]), (by simp [tupA, hpLt, tmLt, AV.lt, AE.lt, AC.lt, LL_cons, LL_nil, idOk, ABlk.lt, ints_LL, GB, tab64_LL, gC, wB, giC, noneB, gst, tC, pC, gN, gR, rC, rB, tvC_LL, hp3r, jst_r])⟩ (by (repeat (first | exact trivial | refine ⟨trivial, ?_⟩ | refine ⟨rfl, ?_⟩))) (by (repeat (first | exact trivial | refine ⟨trivial, ?_⟩ | refine ⟨rfl, ?_⟩)))) ?_
  rintro ⟨r, A, B, V⟩ ⟨i1, i2, i3, i4, i5⟩
  dsimp only at i1 i2 i3 i4 i5
  by_cases h2 : r < 2
  rotate_left
  · obtain rfl : r = 2 := by omega
    refine Wk.on ?_
    intro _
    refine Wk.on ?_
    refine ⟨_, ?_, hQ A B V⟩
    exact Under.wk [] ⟨rfl, rfl, Nat.le_of_ble_eq_true rfl, Nat.le_of_ble_eq_true rfl⟩ rfl (by repeat (first | exact trivial | refine ⟨?_, ?_⟩ | exact Or.inl rfl | exact Or.inr ⟨⟨rfl, rfl, rfl⟩, trivial⟩ | exact Or.inr rfl)) (by repeat (first | exact trivial | refine ⟨?_, ?_⟩ | exact Or.inl rfl | exact Or.inl (tab64_ren _).symm | exact Or.inl (congrArg ABlk.ro (tvC_ren _ _).symm) | exact Or.inl (congrArg ABlk.ro (ints_ren _ _).symm) | exact Or.inl (congrArg (ABlk.row 60 2) (ints_ren _ _).symm) | exact Or.inr (Or.inl (Or.inl (ints_ren _ _).symm)) | exact Or.inr (Or.inl (Or.inl (tvC_ren _ _).symm)) | exact Or.inr (Or.inl (Or.inr ⟨⟨⟨rfl, rfl, rfl⟩, trivial⟩, ⟨⟨rfl, rfl, rfl⟩, trivial⟩, trivial⟩)) | exact Or.inr (Or.inl (Or.inr ⟨⟨⟨rfl, rfl, rfl⟩, trivial⟩, rfl, trivial⟩)) | exact Or.inr (Or.inl (Or.inr ⟨rfl, ⟨⟨rfl, rfl, rfl⟩, trivial⟩, trivial⟩)) | exact Or.inr (Or.inl (Or.inr ⟨rfl, rfl, trivial⟩)) | exact Or.inr (Or.inr ⟨rfl, rfl⟩))) rfl (by simp [tupA, hpLt, tmLt, AV.lt, AE.lt, AC.lt, LL_cons, LL_nil, idOk, ABlk.lt, ints_LL, GB, tab64_LL, gC, wB, giC, noneB, gst, tC, pC, gN, gR, rC, rB, tvC_LL, hp3r, jst_r]) (by simp [tupA, hpLt, tmLt, AV.lt, AE.lt, AC.lt, LL_cons, LL_nil, idOk, ABlk.lt, ints_LL, GB, tab64_LL, gC, wB, giC, noneB, gst, tC, pC, gN, gR, rC, rB, tvC_LL, hp3r, jst_r])
  have hg := hgm.ok
  have hn8 := hg.n8
  have e1 := IsTrees_spec hgm A B (by omega) (by omega)
  have e2 := isBar_spec hgm V (by omega) (fun a ha => by have := i5 a ha; omega)
  have e3 := isTreesR_spec hg A B (by omega) (by omega)
  have e4 := isBarR_spec hg V (by omega) (fun a ha => by have := i5 a ha; omega)
  rw [← are_eq hg hgm.ends (setV_lt _ _) (setV_lt _ _)] at e3
  rw [← isBar_eq hg] at e4
  generalize areB g (setOk g.ws.length A) (setOk g.ws.length B) (setV g.ws.length A) (setV g.ws.length B) = b1 at *
  generalize isBar g V = b2 at *
  refine Wk.on ?_
  rw [decide_eq_true (show ((r : Nat) : Int) < 2 by omega)]
  refine Wk.on ?_
  refine CallA.ro2 [8, 31, 32] (.t [.c (.bool b1), .c (.int .i64 0)]) (e1) ?_
  refine Wk.on ?_
  refine CallA.ro2 [8, 40] (.t [.c (.bool b2), .c (.int .i64 0)]) (e2) ?_
  refine Wk.on ?_
  refine CallA.ro2 [6, 31, 32] (.c (.bool b1)) (e3) ?_
  refine Wk.on ?_
  rw [bne_self_eq_false]
  refine Wk.on ?_
  refine CallA.ro2 [6, 40] (.c (.bool b2)) (e4) ?_
  refine Wk.on ?_
  rw [bne_self_eq_false]
  refine Wk.on ?_
  intro _
  refine Wk.on ?_
  refine Tr.tell (t := ⟨[(17, .c (.int .i64 0)), (4, .c (.ptr 5 0)), (7, .c (.ptr 7 0)), (8, .c (.ptr 9 0)), (9, .c (.ptr 30 0)), (12, .c (.int .i64 r))], (30, .own [.nils, .nils]) :: [(7, .own (gC g 6)), (9, .own (gC g 8)), (5, .own [.rs 1 0 L0.length, .rs 2 0 L1.length]), (1, .ro (ints L0)), (2, .ro (ints L1)), (6, .row 60 2 (ints (fl g.ws))), (8, .row 60 2 (ints (fl g.ws))), (100002, .ro tab64), (100000, noneB)], 40, 168, 4⟩) (Under.wk [] ⟨rfl, rfl, Nat.le_of_ble_eq_true rfl, Nat.le_of_ble_eq_true rfl⟩ rfl (by repeat (first | exact trivial | refine ⟨?_, ?_⟩ | exact Or.inl rfl | exact Or.inr ⟨⟨rfl, rfl, rfl⟩, trivial⟩ | exact Or.inr rfl)) (by repeat (first | exact trivial | refine ⟨?_, ?_⟩ | exact Or.inl rfl | exact Or.inl (tab64_ren _).symm | exact Or.inl (congrArg ABlk.ro (tvC_ren _ _).symm) | exact Or.inl (congrArg ABlk.ro (ints_ren _ _).symm) | exact Or.inl (congrArg (ABlk.row 60 2) (ints_ren _ _).symm) | exact Or.inr (Or.inl (Or.inl (ints_ren _ _).symm)) | exact Or.inr (Or.inl (Or.inl (tvC_ren _ _).symm)) | exact Or.inr (Or.inl (Or.inr ⟨⟨⟨rfl, rfl, rfl⟩, trivial⟩, ⟨⟨rfl, rfl, rfl⟩, trivial⟩, trivial⟩)) | exact Or.inr (Or.inl (Or.inr ⟨⟨⟨rfl, rfl, rfl⟩, trivial⟩, rfl, trivial⟩)) | exact Or.inr (Or.inl (Or.inr ⟨rfl, ⟨⟨rfl, rfl, rfl⟩, trivial⟩, trivial⟩)) | exact Or.inr (Or.inl (Or.inr ⟨rfl, rfl, trivial⟩)) | exact Or.inr (Or.inr ⟨rfl, rfl⟩))) rfl (by simp [tupA, hpLt, tmLt, AV.lt, AE.lt, AC.lt, LL_cons, LL_nil, idOk, ABlk.lt, ints_LL, GB, tab64_LL, gC, wB, giC, noneB, gst, tC, pC, gN, gR, rC, rB, tvC_LL, hp3r, jst_r]) (by simp [tupA, hpLt, tmLt, AV.lt, AE.lt, AC.lt, LL_cons, LL_nil, idOk, ABlk.lt, ints_LL, GB, tab64_LL, gC, wB, giC, noneB, gst, tC, pC, gN, gR, rC, rB, tvC_LL, hp3r, jst_r])) ?_
  refine jd2_r hg.len L0 L1 hL0 r ?_
  intro A2 B2 hA2 hB2
  refine Wk.on ?_
  refine Tr.tell (t := ⟨[(20, .c .nils), (21, .c (.int .i64 0)), (4, .c (.ptr 5 0)), (7, .c (.ptr 7 0)), (8, .c (.ptr 9 0)), (9, .c (.ptr 30 0)), (12, .c (.int .i64 r))], hp3r g L0 L1 A2 B2, 50, 168, 4⟩) (Under.wk [] ⟨rfl, rfl, Nat.le_of_ble_eq_true rfl, Nat.le_of_ble_eq_true rfl⟩ rfl (by repeat (first | exact trivial | refine ⟨?_, ?_⟩ | exact Or.inl rfl | exact Or.inr ⟨⟨rfl, rfl, rfl⟩, trivial⟩ | exact Or.inr rfl)) (by repeat (first | exact trivial | refine ⟨?_, ?_⟩ | exact Or.inl rfl | exact Or.inl (tab64_ren _).symm | exact Or.inl (congrArg ABlk.ro (tvC_ren _ _).symm) | exact Or.inl (congrArg ABlk.ro (ints_ren _ _).symm) | exact Or.inl (congrArg (ABlk.row 60 2) (ints_ren _ _).symm) | exact Or.inr (Or.inl (Or.inl (ints_ren _ _).symm)) | exact Or.inr (Or.inl (Or.inl (tvC_ren _ _).symm)) | exact Or.inr (Or.inl (Or.inr ⟨⟨⟨rfl, rfl, rfl⟩, trivial⟩, ⟨⟨rfl, rfl, rfl⟩, trivial⟩, trivial⟩)) | exact Or.inr (Or.inl (Or.inr ⟨⟨⟨rfl, rfl, rfl⟩, trivial⟩, rfl, trivial⟩)) | exact Or.inr (Or.inl (Or.inr ⟨rfl, ⟨⟨rfl, rfl, rfl⟩, trivial⟩, trivial⟩)) | exact Or.inr (Or.inl (Or.inr ⟨rfl, rfl, trivial⟩)) | exact Or.inr (Or.inr ⟨rfl, rfl⟩))) rfl (by simp [tupA, hpLt, tmLt, AV.lt, AE.lt, AC.lt, LL_cons, LL_nil, idOk, ABlk.lt, ints_LL, GB, tab64_LL, gC, wB, giC, noneB, gst, tC, pC, gN, gR, rC, rB, tvC_LL, hp3r, jst_r]) (by simp [tupA, hpLt, tmLt, AV.lt, AE.lt, AC.lt, LL_cons, LL_nil, idOk, ABlk.lt, ints_LL, GB, tab64_LL, gC, wB, giC, noneB, gst, tC, pC, gN, gR, rC, rB, tvC_LL, hp3r, jst_r])) ?_
  refine jd3_r (by have := hgm.ends; have := hg.s; have := hg.t; omega) hn8 L0 L1 A2 B2 hL1 r ?_
  intro V2 hV2 hVa2
  refine Wk.on ?_
  exact Again.under (r + 1, A2, B2, V2) (Under.wk [] ⟨rfl, rfl, Nat.le_of_ble_eq_true rfl, Nat.le_of_ble_eq_true rfl⟩ rfl (by repeat (first | exact trivial | refine ⟨?_, ?_⟩ | exact Or.inl rfl | exact Or.inr ⟨⟨rfl, rfl, rfl⟩, trivial⟩ | exact Or.inr rfl)) (by repeat (first | exact trivial | refine ⟨?_, ?_⟩ | exact Or.inl rfl | exact Or.inl (tab64_ren _).symm | exact Or.inl (congrArg ABlk.ro (tvC_ren _ _).symm) | exact Or.inl (congrArg ABlk.ro (ints_ren _ _).symm) | exact Or.inl (congrArg (ABlk.row 60 2) (ints_ren _ _).symm) | exact Or.inr (Or.inl (Or.inl (ints_ren _ _).symm)) | exact Or.inr (Or.inl (Or.inl (tvC_ren _ _).symm)) | exact Or.inr (Or.inl (Or.inr ⟨⟨⟨rfl, rfl, rfl⟩, trivial⟩, ⟨⟨rfl, rfl, rfl⟩, trivial⟩, trivial⟩)) | exact Or.inr (Or.inl (Or.inr ⟨⟨⟨rfl, rfl, rfl⟩, trivial⟩, rfl, trivial⟩)) | exact Or.inr (Or.inl (Or.inr ⟨rfl, ⟨⟨rfl, rfl, rfl⟩, trivial⟩, trivial⟩)) | exact Or.inr (Or.inl (Or.inr ⟨rfl, rfl, trivial⟩)) | exact Or.inr (Or.inr ⟨rfl, rfl⟩))) rfl (by simp [tupA, hpLt, tmLt, AV.lt, AE.lt, AC.lt, LL_cons, LL_nil, idOk, ABlk.lt, ints_LL, GB, tab64_LL, gC, wB, giC, noneB, gst, tC, pC, gN, gR, rC, rB, tvC_LL, hp3r, jst_r]) (by simp [tupA, hpLt, tmLt, AV.lt, AE.lt, AC.lt, LL_cons, LL_nil, idOk, ABlk.lt, ints_LL, GB, tab64_LL, gC, wB, giC, noneB, gst, tC, pC, gN, gR, rC, rB, tvC_LL, hp3r, jst_r])) ⟨by show r + 1 ≤ 2; omega, hA2, hB2, by show V2.length ≤ 10; omega, fun a ha => by have := hVa2 a ha; omega⟩ (by show 2 - (r + 1) < 2 - r; omega)
end Go.Proofs.YtfphkpdobbffeaaDoor

/-
  SwitchJudges: the loop over the places (no wires)
-/
namespace Go.Proofs.YtfphkpdobbffeaaDoor
open Go Go.AH
set_option maxRecDepth 100000
set_option maxHeartbeats 2000000

def hp3n (g : Gm) (L0 L1 A B : List Int) : List (Nat × ABlk) := [(30, .own [.rs 31 0 A.length, .rs 32 0 B.length]), (31, .ro (ints A)), (32, .ro (ints B)), (7, .own (gN g)), (9, .own (gN g)), (5, .own [.rs 1 0 L0.length, .rs 2 0 L1.length]), (1, .ro (ints L0)), (2, .ro (ints L1)), (100002, .ro tab64), (100000, noneB)]
theorem hp3n_l (g : Gm) (L0 L1 A B : List Int) {n : Nat} (h : 40 ≤ n) (T : List (Nat × ABlk)) (hT : hpLt n T) : hpLt n (hp3n g L0 L1 A B ++ T) := ⟨.inl (by omega), by simp [ABlk.lt, gR, gC, gN, rC, noneB, LL_cons, LL_nil, AC.lt, idOk, tab64_LL, tvC_LL, GB] <;> omega, .inl (by omega), ints_LL _ _, .inl (by omega), ints_LL _ _, .inl (by omega), by simp [ABlk.lt, gR, gC, gN, rC, noneB, LL_cons, LL_nil, AC.lt, idOk, tab64_LL, tvC_LL, GB] <;> omega, .inl (by omega), by simp [ABlk.lt, gR, gC, gN, rC, noneB, LL_cons, LL_nil, AC.lt, idOk, tab64_LL, tvC_LL, GB] <;> omega, .inl (by omega), by simp [ABlk.lt, gR, gC, gN, rC, noneB, LL_cons, LL_nil, AC.lt, idOk, tab64_LL, tvC_LL, GB] <;> omega, .inl (by omega), ints_LL _ _, .inl (by omega), ints_LL _ _, .inr (by decide), by simp [ABlk.lt, gR, gC, gN, rC, noneB, LL_cons, LL_nil, AC.lt, idOk, tab64_LL, tvC_LL, GB] <;> omega, .inr (by decide), by simp [ABlk.lt, gR, gC, gN, rC, noneB, LL_cons, LL_nil, AC.lt, idOk, tab64_LL, tvC_LL, GB] <;> omega, hT⟩
theorem hp3n_lt (g : Gm) (L0 L1 A B : List Int) : hpLt 40 (hp3n g L0 L1 A B) := by
  have := hp3n_l g L0 L1 A B (n := 40) (by omega) [] trivial
  rwa [List.append_nil] at this
theorem hp3n_none {g : Gm} {L0 L1 A B : List Int} {i : Nat} (h1 : 41 ≤ i) (h2 : i < 60) : lk (hp3n g L0 L1 A B) i = none := lk_none_of fun p hp e => by
  have := hpLt_keys (hp3n_lt g L0 L1 A B) p hp
  unfold idOk GB at this; omega
theorem jd3_n {g : Gm} (hn2 : 2 ≤ g.n) (hn8 : g.n ≤ 8) (L0 L1 A B : List Int) (hL1 : L1.length ≤ 9223372036854775807) (r : Int) {Q : Exit → AS → Prop}
    (hQ : ∀ V : List (List Int), V.length ≤ 8 → (∀ a ∈ V, a.length ≤ 8) → Q (.exit 6) ⟨[(20, .c (.row 40 V.length)), (21, .c (.int .i64 g.n)), (4, .c (.ptr 5 0)), (7, .c (.ptr 7 0)), (8, .c (.ptr 9 0)), (9, .c (.ptr 30 0)), (12, .c (.int .i64 r))], (40, .row 37 1 (tvC V)) :: hp3n g L0 L1 A B, 50, 168, 4⟩) :
    Tr Tryd.prog jd3 ⟨[(20, .c .nils), (21, .c (.int .i64 0)), (4, .c (.ptr 5 0)), (7, .c (.ptr 7 0)), (8, .c (.ptr 9 0)), (9, .c (.ptr 30 0)), (12, .c (.int .i64 r))], hp3n g L0 L1 A B, 50, 168, 4⟩ Q := by
  refine Tr.post ?_
  refine Tr.loop (md := true) (X := Nat × List (List Int)) (st := fun x => ⟨[(20, .c (match x.1 with | 0 => .nils | _ + 1 => .row 40 x.2.length)), (21, .c (.int .i64 x.1)), (4, .c (.ptr 5 0)), (7, .c (.ptr 7 0)), (8, .c (.ptr 9 0)), (9, .c (.ptr 30 0)), (12, .c (.int .i64 r))], (match x.1 with | 0 => hp3n g L0 L1 A B | _ + 1 => (40, .row 37 1 (rgC 41 x.2)) :: (hp3n g L0 L1 A B ++ rg 41 x.2)), 50, 168, 4⟩) (inv := fun x => x.1 ≤ g.n ∧ x.2.length ≤ x.1 ∧ ∀ a ∈ x.2, a.length ≤ x.1) (μ := fun x => g.n - x.1) (x0 := (0, [])) (l := []) tok ⟨by omega, by simp, fun a h => absurd h List.not_mem_nil⟩ ?_ ?_
  · exact Sub.nil ⟨rfl, rfl, (by simp [tab64_LL, gC, wB, giC, noneB, gst, tC, pC, gN, gR, rC, rB, tvC_LL, hp3n, rgC, rg]), rfl, (by simp [tupA, hpLt, tmLt, AV.lt, AE.lt, AC.lt, LL_cons, LL_nil, idOk, ABlk.lt, ints_LL, GB, tab64_LL, gC, wB, giC, noneB, gst, tC, pC, gN, gR, rC, rB, tvC_LL, hp3n, rgC, rg]), (by simp [tupA, hpLt, tmLt, AV.lt, AE.lt, AC.lt, LL_cons, LL_nil, idOk, ABlk.lt, ints_LL, GB, tab64_LL, gC, wB, giC, noneB, gst, tC, pC, gN, gR, rC, rB, tvC_LL, hp3n, rgC, rg])⟩ (by (repeat (first | exact trivial | refine ⟨trivial, ?_⟩ | refine ⟨rfl, ?_⟩))) (by (repeat (first | exact trivial | refine ⟨trivial, ?_⟩ | refine ⟨rfl, ?_⟩)))
  rintro ⟨v, V⟩ ⟨g1, g2, g3⟩
  dsimp only at g1 g2 g3 ⊢
  rcases v with _ | v
  · refine Wk.on ?_
    rw [decide_eq_true (show ((0 : Nat) : Int) < ((g.n : Nat) : Int) by omega)]
    refine Wk.on ?_
    by_cases hl : 0 < L1.length
    · rw [decide_eq_true (show ((0 : Nat) : Int) < ((L1.length : Nat) : Int) by omega)]
      refine Wk.on ?_
      refine Tr.draw (md := true) [⟨[], [136, 137, 138, 139, 140, 141, 142, 143, 144, 145, 146], [], [], []⟩, ⟨[0], [136, 137, 138, 139, 140, 141, 142, 143, 144, 145, 146], [], [], []⟩, ⟨[], [134, 135, 138, 142, 143, 144], [0, 1], [], []⟩, ⟨[2], [134, 135, 138, 142, 143, 144], [0, 1], [], []⟩, ⟨[], [134, 135, 136, 137, 142, 143, 144], [0, 1, 2, 3], [], []⟩, ⟨[2, 3, 4], [134, 135, 142, 143, 144], [0, 1], [], []⟩, ⟨[2, 3, 4, 5], [134, 135, 142, 143, 144], [0, 1], [], []⟩, ⟨[2, 3, 4, 5, 6], [134, 135, 142, 143, 144], [0, 1], [], []⟩, ⟨[], [134, 135, 136, 137, 138, 139, 140, 141], [0, 1, 2, 3, 4, 5, 6, 7], [], []⟩, ⟨[8], [134, 135, 136, 137, 138, 139, 140, 141], [0, 1, 2, 3, 4, 5, 6, 7], [], []⟩, ⟨[8, 9], [134, 135, 136, 137, 138, 139, 140, 141], [0, 1, 2, 3, 4, 5, 6, 7], [], []⟩, ⟨[2, 3, 4, 5, 6, 7, 8, 9, 10], [134, 135], [0, 1], [], []⟩, ⟨[2, 3, 4, 5, 6, 7, 8, 9, 10, 11], [134, 135], [0, 1], [], []⟩] tok (by kernel_rfl) (by kernel_rfl) ?_
      refine Wk.on ?_
      refine ⟨by rw [ints_len, Int.toNat_natCast]; omega, ?_⟩
      simp only [ints_getD, Int.toNat_natCast, Nat.zero_add, Nat.mul_one]
      refine Wk.on ?_
      rw [wrapU (by omega)]
      refine ⟨⟨wrap_nn _, by omega⟩, ?_⟩
      refine Wk.on ?_
      rw [um_wrap _ (by omega) (by omega)]
      refine Wk.on ?_
      rw [show min (0 : Int) ((um (L1.getD 0 0) g.n : Nat) : Int) = 0 by omega]
      refine Wk.on ?_
      exact Again.mk (1, [[((0 : Nat) : Int)]]) (Sub.new [(40, 51), (41, 53)] ⟨rfl, rfl, (by simp [tupA, hpLt, tmLt, AV.lt, AE.lt, AC.lt, LL_cons, LL_nil, idOk, ABlk.lt, ints_LL, GB, tab64_LL, gC, wB, giC, noneB, gst, tC, pC, gN, gR, rC, rB, tvC_LL, hp3n, rgC, rg])⟩ rfl (by (repeat (first | exact trivial | refine ⟨trivial, ?_⟩ | refine ⟨rfl, ?_⟩))) ⟨rfl, rfl, congrArg (fun c => some (ABlk.ro c)) (ints_ren _ _).symm, congrArg (fun c => some (ABlk.ro c)) (ints_ren _ _).symm, rfl, rfl, rfl, congrArg (fun c => some (ABlk.ro c)) (ints_ren _ _).symm, congrArg (fun c => some (ABlk.ro c)) (ints_ren _ _).symm, congrArg (fun c => some (ABlk.ro c)) (tab64_ren _).symm, rfl, rfl, trivial⟩ rfl (by simp [tupA, hpLt, tmLt, AV.lt, AE.lt, AC.lt, LL_cons, LL_nil, idOk, ABlk.lt, ints_LL, GB, tab64_LL, gC, wB, giC, noneB, gst, tC, pC, gN, gR, rC, rB, tvC_LL, hp3n, rgC, rg]) (by simp [tupA, hpLt, tmLt, AV.lt, AE.lt, AC.lt, LL_cons, LL_nil, idOk, ABlk.lt, ints_LL, GB, tab64_LL, gC, wB, giC, noneB, gst, tC, pC, gN, gR, rC, rB, tvC_LL, hp3n, rgC, rg])) ⟨by show 1 ≤ g.n; omega, by simp, fun a ha => by simp at ha; subst ha; simp⟩ (by show g.n - 1 < g.n - 0; omega)
    · rw [decide_eq_false (show ¬ ((0 : Nat) : Int) < ((L1.length : Nat) : Int) by omega)]
      refine Wk.on ?_
      exact Again.mk (1, [[((0 : Nat) : Int)]]) (Sub.new [(40, 51), (41, 53)] ⟨rfl, rfl, (by simp [tupA, hpLt, tmLt, AV.lt, AE.lt, AC.lt, LL_cons, LL_nil, idOk, ABlk.lt, ints_LL, GB, tab64_LL, gC, wB, giC, noneB, gst, tC, pC, gN, gR, rC, rB, tvC_LL, hp3n, rgC, rg])⟩ rfl (by (repeat (first | exact trivial | refine ⟨trivial, ?_⟩ | refine ⟨rfl, ?_⟩))) ⟨rfl, rfl, congrArg (fun c => some (ABlk.ro c)) (ints_ren _ _).symm, congrArg (fun c => some (ABlk.ro c)) (ints_ren _ _).symm, rfl, rfl, rfl, congrArg (fun c => some (ABlk.ro c)) (ints_ren _ _).symm, congrArg (fun c => some (ABlk.ro c)) (ints_ren _ _).symm, congrArg (fun c => some (ABlk.ro c)) (tab64_ren _).symm, rfl, rfl, trivial⟩ rfl (by simp [tupA, hpLt, tmLt, AV.lt, AE.lt, AC.lt, LL_cons, LL_nil, idOk, ABlk.lt, ints_LL, GB, tab64_LL, gC, wB, giC, noneB, gst, tC, pC, gN, gR, rC, rB, tvC_LL, hp3n, rgC, rg]) (by simp [tupA, hpLt, tmLt, AV.lt, AE.lt, AC.lt, LL_cons, LL_nil, idOk, ABlk.lt, ints_LL, GB, tab64_LL, gC, wB, giC, noneB, gst, tC, pC, gN, gR, rC, rB, tvC_LL, hp3n, rgC, rg])) ⟨by show 1 ≤ g.n; omega, by simp, fun a ha => by simp at ha; subst ha; simp⟩ (by show g.n - 1 < g.n - 0; omega)
  by_cases hv : v + 1 < g.n
  · refine Wk.on ?_
    rw [decide_eq_true (show ((v + 1 : Nat) : Int) < ((g.n : Nat) : Int) by omega)]
    refine Wk.on ?_
    by_cases hl : v + 1 < L1.length
    · rw [decide_eq_true (show ((v + 1 : Nat) : Int) < ((L1.length : Nat) : Int) by omega)]
      refine Wk.on ?_
      refine Tr.draw (md := true) [⟨[], [136, 137, 138, 139, 140, 141, 142, 143, 144, 145, 146], [], [], []⟩, ⟨[0], [136, 137, 138, 139, 140, 141, 142, 143, 144, 145, 146], [], [], []⟩, ⟨[], [134, 135, 138, 142, 143, 144], [0, 1], [], []⟩, ⟨[2], [134, 135, 138, 142, 143, 144], [0, 1], [], []⟩, ⟨[], [134, 135, 136, 137, 142, 143, 144], [0, 1, 2, 3], [], []⟩, ⟨[2, 3, 4], [134, 135, 142, 143, 144], [0, 1], [], []⟩, ⟨[2, 3, 4, 5], [134, 135, 142, 143, 144], [0, 1], [], []⟩, ⟨[2, 3, 4, 5, 6], [134, 135, 142, 143, 144], [0, 1], [], []⟩, ⟨[], [134, 135, 136, 137, 138, 139, 140, 141], [0, 1, 2, 3, 4, 5, 6, 7], [], []⟩, ⟨[8], [134, 135, 136, 137, 138, 139, 140, 141], [0, 1, 2, 3, 4, 5, 6, 7], [], []⟩, ⟨[8, 9], [134, 135, 136, 137, 138, 139, 140, 141], [0, 1, 2, 3, 4, 5, 6, 7], [], []⟩, ⟨[2, 3, 4, 5, 6, 7, 8, 9, 10], [134, 135], [0, 1], [], []⟩, ⟨[2, 3, 4, 5, 6, 7, 8, 9, 10, 11], [134, 135], [0, 1], [], []⟩] tok (by kernel_rfl) (by kernel_rfl) ?_
      refine Wk.on ?_
      refine ⟨by rw [ints_len, Int.toNat_natCast]; omega, ?_⟩
      simp only [ints_getD, Int.toNat_natCast, Nat.zero_add, Nat.mul_one]
      refine Wk.on ?_
      rw [wrapU (by omega)]
      refine ⟨⟨wrap_nn _, by omega⟩, ?_⟩
      refine Wk.on ?_
      rw [um_wrap _ (by omega) (by omega)]
      refine Wk.on ?_
      generalize um (L1.getD (v + 1) 0) g.n = u at *
      by_cases hk : u < V.length
      · rw [show min ((V.length : Nat) : Int) ((u : Nat) : Int) = ((u : Nat) : Int) by omega]
        refine Wk.on ?_
        rw [decide_eq_false (show ¬ ((u : Nat) : Int) = ((V.length : Nat) : Int) by omega)]
        refine Wk.on ?_
        obtain ⟨a, ha⟩ : ∃ a, V[u]? = some a := ⟨V[u], List.getElem?_eq_getElem hk⟩
        have hal := g3 a (List.mem_of_getElem? ha)
        refine ⟨by rw [rgC_len, Int.toNat_natCast]; omega, ?_⟩
        rw [show (rgC 41 V).getD (((u : Nat) : Int).toNat * 1) AC.nils = .row (41 + u) a.length from by rw [Int.toNat_natCast, Nat.mul_one, List.getD_eq_getElem?_getD, rgC_at, ha]; rfl]
        refine Wk.on ?_
        dsimp only
        have hL : ∀ X, lk ((50, X) :: (40, ABlk.row 37 1 (rgC 41 V)) :: (hp3n g L0 L1 A B ++ rg 41 V)) (41 + u) = some (.row 3 1 (ints a)) := fun X => by
          rw [lk, if_neg (by omega), lk, if_neg (by omega), lk_append, hp3n_none (by omega) (by omega)]
          exact rg_at2 V 41 u ha
        have hD : ∀ X Y Z, lk ((51, Y) :: del ((50, X) :: (40, Z) :: (hp3n g L0 L1 A B ++ rg 41 V)) (41 + u)) 40 = some Z := fun X Y Z => by
          rw [lk, if_neg (by omega), lk_del, if_neg (by omega)]; rfl
        rw [hL]
        dsimp only
        refine ⟨⟨Nat.le_of_ble_eq_true rfl, rfl, rfl, by rw [ints_len, Nat.mul_one], by show ((a.length + 1 : Nat) : Int) * 8 ≤ _; omega, by omega⟩, ?_⟩
        refine Wk.on ?_
        dsimp only
        rw [hD]
        refine Wk.on ?_
        dsimp only
        rw [hD]
        refine Wk.on ?_
        refine ⟨⟨rfl, by rw [rgC_len, Int.toNat_natCast]; omega⟩, ?_⟩
        refine Wk.on ?_
        exact Again.mk (v + 1 + 1, V.set u (a ++ [((v + 1 : Nat) : Int)])) (by
          have hS : ∀ (X Y Z W : ABlk) (i : Nat), lk (up ((51, Y) :: del ((50, X) :: (40, Z) :: (hp3n g L0 L1 A B ++ rg 41 V)) (41 + u)) 40 W) i = if 40 = i then some W else if 51 = i then some Y else if 41 + u = i then none else if 50 = i then some X else lk (hp3n g L0 L1 A B ++ rg 41 V) i := fun X Y Z W i => by
            rw [lk_up]
            by_cases e : 40 = i
            · rw [if_pos e, if_pos e]
            · rw [if_neg e, if_neg e, lk]
              by_cases e2 : 51 = i
              · rw [if_pos e2, if_pos e2]
              · rw [if_neg e2, if_neg e2, lk_del]
                by_cases e3 : 41 + u = i
                · rw [if_pos e3, if_pos e3]
                · rw [if_neg e3, if_neg e3, lk, lk, if_neg e]
          have hq : ∀ i, i ≠ 41 + u → rn [(41 + u, 51)] i = i := fun i h => rn_ne (by simp; omega)
          have hqu : rn [(41 + u, 51)] (41 + u) = 51 := by simp [rn, lk]
          refine sub3 [(41 + u, 51)] (by rw [List.length_set]; omega) rfl (hp3n_lt g L0 L1 A B) ⟨.inl (by omega), .inl (by omega), .inl (by omega), .inl (by omega), trivial, trivial⟩ ⟨rfl, rfl, Nat.le_of_ble_eq_true rfl⟩ (by simp; omega) ?_ rfl ⟨rfl, rfl, rfl, rfl, rfl, trivial⟩ ?_ (fun i hi => ?_) (fun j b hb => ?_) (fun i h1 h2 => ?_) (fun i j h1 h2 h3 h4 e => ?_)
          · rw [hq 40 (by omega), List.length_set]; rfl
          · rw [hq 40 (by omega)]
            refine (hS _ _ _ _ 40).trans ?_
            rw [if_pos rfl]
            have := rgC_grown (k := u) (n := a.length + 1) (c := a ++ [((v + 1 : Nat) : Int)]) ha (by simp) (by omega)
            rw [← this, Int.toNat_natCast, Nat.mul_one]
            rfl
          · refine (hS _ _ _ _ i).trans ?_
            unfold idOk GB at hi
            rw [if_neg (by omega), if_neg (by omega), if_neg (by omega), if_neg (by omega), lk_append, show lk (rg 41 V) i = none from lk_none_of fun p hp e => by have := rg_mem hp; omega, Option.or_none]
          · have hb : (V.set u (a ++ [((v + 1 : Nat) : Int)]))[j]? = some b := hb
            have hj : j < (V.set u (a ++ [((v + 1 : Nat) : Int)])).length := by
              by_cases hj : j < (V.set u (a ++ [((v + 1 : Nat) : Int)])).length
              · exact hj
              · rw [List.getElem?_eq_none (by omega)] at hb; cases hb
            rw [List.length_set] at hj
            rw [List.getElem?_set] at hb
            by_cases e : u = j
            · subst e
              rw [if_pos rfl, if_pos hk] at hb
              injection hb with hb; subst hb
              rw [hqu]
              refine (hS _ _ _ _ 51).trans ?_
              rw [if_neg (by omega), if_pos rfl]
              show some (ABlk.row 3 1 (ints a ++ [.int .i64 ((v + 1 : Nat) : Int)])) = _
              simp [ints]
            · rw [if_neg e] at hb
              rw [hq (41 + j) (by omega)]
              refine (hS _ _ _ _ (41 + j)).trans ?_
              rw [if_neg (by omega), if_neg (by omega), if_neg (by omega), if_neg (by omega), lk_append, hp3n_none (by omega) (by omega)]
              exact rg_at2 V 41 j hb
          · by_cases e : i = 41 + u
            · subst e; rw [hqu]; omega
            · rw [hq i e]; omega
          · by_cases e1 : i = 41 + u
            · by_cases e2 : j = 41 + u
              · omega
              · rw [e1, hqu, hq j e2] at e; omega
            · by_cases e2 : j = 41 + u
              · rw [e2, hqu, hq i e1] at e; omega
              · rw [hq i e1, hq j e2] at e; exact e) ⟨by show v + 1 + 1 ≤ g.n; omega, by show (V.set u _).length ≤ v + 1 + 1; rw [List.length_set]; omega, fun b hb => by
            obtain ⟨j, hj⟩ := List.getElem?_of_mem hb
            rw [List.getElem?_set] at hj
            by_cases e : u = j
            · rw [if_pos e] at hj
              rw [if_pos (by omega)] at hj
              injection hj with hj; subst hj; rw [List.length_append]; show a.length + 1 ≤ v + 1 + 1; omega
            · rw [if_neg e] at hj
              have := g3 b (List.mem_of_getElem? hj); show b.length ≤ v + 1 + 1; omega⟩ (by show g.n - (v + 1 + 1) < g.n - (v + 1); omega)
      · rw [show min ((V.length : Nat) : Int) ((u : Nat) : Int) = ((V.length : Nat) : Int) by omega]
        refine Wk.on ?_
        rw [decide_eq_true (show ((V.length : Nat) : Int) = ((V.length : Nat) : Int) from rfl)]
        refine Wk.on ?_
        refine ⟨⟨Nat.le_of_ble_eq_true rfl, rfl, rfl, by rw [rgC_len, Nat.mul_one], by show ((V.length + 1 : Nat) : Int) * 24 ≤ _; omega, by omega⟩, ?_⟩
        refine Wk.on ?_
        refine ⟨by rw [List.length_append, rgC_len, Int.toNat_natCast]; show V.length * 1 + 1 ≤ V.length + 1; omega, ?_⟩
        have hN : ∀ X : List AC, X = [AC.nils] → (rgC 41 V ++ X).getD (((V.length : Nat) : Int).toNat * 1) AC.nils = AC.nils := fun X hX => by
          subst hX
          rw [Int.toNat_natCast, Nat.mul_one, List.getD_eq_getElem?_getD, List.getElem?_append_right (by rw [rgC_len]; exact Nat.le_refl _), rgC_len, Nat.sub_self]; rfl
        rw [hN]
        rotate_left
        · rfl
        refine Wk.on ?_
        refine ⟨⟨rfl, by rw [List.length_append, rgC_len, Int.toNat_natCast]; show V.length * 1 + 1 ≤ V.length + 1; omega⟩, ?_⟩
        refine Wk.on ?_
        exact Again.mk (v + 1 + 1, V ++ [[((v + 1 : Nat) : Int)]]) (by
          have hS : ∀ (X Y Z W U T : ABlk) (i : Nat), lk (up ((53, Y) :: (52, U) :: (51, T) :: del ((50, X) :: (40, Z) :: (hp3n g L0 L1 A B ++ rg 41 V)) 40) 51 W) i = if 51 = i then some W else if 53 = i then some Y else if 52 = i then some U else if 40 = i then none else if 50 = i then some X else lk (hp3n g L0 L1 A B ++ rg 41 V) i := fun X Y Z W U T i => by
            rw [lk_up]
            by_cases e : 51 = i
            · rw [if_pos e, if_pos e]
            · rw [if_neg e, if_neg e, lk]
              by_cases e2 : 53 = i
              · rw [if_pos e2, if_pos e2]
              · rw [if_neg e2, if_neg e2, lk]
                by_cases e4 : 52 = i
                · rw [if_pos e4, if_pos e4]
                · rw [if_neg e4, if_neg e4, lk, if_neg e, lk_del]
                  by_cases e3 : 40 = i
                  · rw [if_pos e3, if_pos e3]
                  · rw [if_neg e3, if_neg e3, lk, lk, if_neg e3]
          have hq : ∀ i, i ≠ 40 → i ≠ 41 + V.length → rn [(40, 51), (41 + V.length, 53)] i = i := fun i h h2 => rn_ne (by simp; omega)
          have hq0 : rn [(40, 51), (41 + V.length, 53)] 40 = 51 := by simp [rn, lk]
          have hqu : rn [(40, 51), (41 + V.length, 53)] (41 + V.length) = 53 := by
            unfold rn; rw [lk, if_neg (by omega), lk, if_pos rfl]; rfl
          refine sub3 [(40, 51), (41 + V.length, 53)] (by rw [List.length_append]; show V.length + 1 ≤ 8; omega) rfl (hp3n_lt g L0 L1 A B) ⟨.inl (by omega), .inl (by omega), .inl (by omega), .inl (by omega), trivial, trivial⟩ ⟨rfl, rfl, Nat.le_of_ble_eq_true rfl⟩ (by simp; omega) ?_ rfl ⟨rfl, rfl, rfl, rfl, rfl, trivial⟩ ?_ (fun i hi => ?_) (fun j b hb => ?_) (fun i h1 h2 => ?_) (fun i j h1 h2 h3 h4 e => ?_)
          · rw [hq0, List.length_append]; rfl
          · rw [hq0]
            refine (hS _ _ _ _ _ _ 51).trans ?_
            rw [if_pos rfl, rgC_app, List.map_append, rgC_ren V 41 41 fun i h1 h2 => by rw [hq i (by omega) (by omega)]; omega]
            show some (ABlk.row 37 1 (List.set (rgC 41 V ++ [AC.nils]) _ _)) = some (ABlk.row 37 1 (rgC 41 V ++ [AC.row (rn _ (41 + V.length)) 1]))
            rw [hqu, Int.toNat_natCast, Nat.mul_one]
            have h1 := rgC_len V 41
            simp [List.set_append, h1]
          · refine (hS _ _ _ _ _ _ i).trans ?_
            unfold idOk GB at hi
            rw [if_neg (by omega), if_neg (by omega), if_neg (by omega), if_neg (by omega), if_neg (by omega), lk_append, show lk (rg 41 V) i = none from lk_none_of fun p hp e => by have := rg_mem hp; omega, Option.or_none]
          · have hb : (V ++ [[((v + 1 : Nat) : Int)]])[j]? = some b := hb
            by_cases hj : j < V.length
            · rw [List.getElem?_append_left hj] at hb
              rw [hq (41 + j) (by omega) (by omega)]
              refine (hS _ _ _ _ _ _ (41 + j)).trans ?_
              rw [if_neg (by omega), if_neg (by omega), if_neg (by omega), if_neg (by omega), if_neg (by omega), lk_append, hp3n_none (by omega) (by omega)]
              exact rg_at2 V 41 j hb
            · rw [List.getElem?_append_right (by omega)] at hb
              have e : j = V.length := by
                by_cases e : j = V.length
                · exact e
                · rw [List.getElem?_eq_none (by show 1 ≤ j - V.length; omega)] at hb; cases hb
              subst e
              rw [Nat.sub_self] at hb
              injection hb with hb; subst hb
              rw [hqu]
              refine (hS _ _ _ _ _ _ 53).trans ?_
              rw [if_neg (by omega), if_pos rfl]
              rfl
          · by_cases e : i = 41 + V.length
            · rw [e, hqu]; omega
            · by_cases e2 : i = 40
              · rw [e2, hq0]; omega
              · rw [hq i e2 e]; omega
          · by_cases e1 : i = 41 + V.length
            · by_cases e2 : j = 41 + V.length
              · omega
              · by_cases e3 : j = 40
                · rw [e1, e3, hqu, hq0] at e; omega
                · rw [e1, hqu, hq j e3 e2] at e; omega
            · by_cases e4 : i = 40
              · by_cases e2 : j = 41 + V.length
                · rw [e2, e4, hqu, hq0] at e; omega
                · by_cases e3 : j = 40
                  · omega
                  · rw [e4, hq0, hq j e3 e2] at e; omega
              · by_cases e2 : j = 41 + V.length
                · rw [e2, hqu, hq i e4 e1] at e; omega
                · by_cases e3 : j = 40
                  · rw [e3, hq0, hq i e4 e1] at e; omega
                  · rw [hq i e4 e1, hq j e3 e2] at e; exact e) ⟨by show v + 1 + 1 ≤ g.n; omega, by show (V ++ [_]).length ≤ v + 1 + 1; rw [List.length_append]; show V.length + 1 ≤ v + 1 + 1; omega, fun b hb => by
            rcases List.mem_append.1 hb with hb | hb
            · have := g3 b hb; show b.length ≤ v + 1 + 1; omega
            · simp only [List.mem_singleton] at hb; subst hb; show 1 ≤ v + 1 + 1; omega⟩ (by show g.n - (v + 1 + 1) < g.n - (v + 1); omega)
    · rw [decide_eq_false (show ¬ ((v + 1 : Nat) : Int) < ((L1.length : Nat) : Int) by omega)]
      refine Wk.on ?_
      rw [decide_eq_true (show ((V.length : Nat) : Int) = ((V.length : Nat) : Int) from rfl)]
      refine Wk.on ?_
      refine ⟨⟨Nat.le_of_ble_eq_true rfl, rfl, rfl, by rw [rgC_len, Nat.mul_one], by show ((V.length + 1 : Nat) : Int) * 24 ≤ _; omega, by omega⟩, ?_⟩
      refine Wk.on ?_
      refine ⟨by rw [List.length_append, rgC_len, Int.toNat_natCast]; show V.length * 1 + 1 ≤ V.length + 1; omega, ?_⟩
      have hN : ∀ X : List AC, X = [AC.nils] → (rgC 41 V ++ X).getD (((V.length : Nat) : Int).toNat * 1) AC.nils = AC.nils := fun X hX => by
        subst hX
        rw [Int.toNat_natCast, Nat.mul_one, List.getD_eq_getElem?_getD, List.getElem?_append_right (by rw [rgC_len]; exact Nat.le_refl _), rgC_len, Nat.sub_self]; rfl
      rw [hN]
      rotate_left
      · rfl
      refine Wk.on ?_
      refine ⟨⟨rfl, by rw [List.length_append, rgC_len, Int.toNat_natCast]; show V.length * 1 + 1 ≤ V.length + 1; omega⟩, ?_⟩
      refine Wk.on ?_
      exact Again.mk (v + 1 + 1, V ++ [[((v + 1 : Nat) : Int)]]) (by
        have hS : ∀ (X Y Z W U T : ABlk) (i : Nat), lk (up ((53, Y) :: (52, U) :: (51, T) :: del ((50, X) :: (40, Z) :: (hp3n g L0 L1 A B ++ rg 41 V)) 40) 51 W) i = if 51 = i then some W else if 53 = i then some Y else if 52 = i then some U else if 40 = i then none else if 50 = i then some X else lk (hp3n g L0 L1 A B ++ rg 41 V) i := fun X Y Z W U T i => by
          rw [lk_up]
          by_cases e : 51 = i
          · rw [if_pos e, if_pos e]
          · rw [if_neg e, if_neg e, lk]
            by_cases e2 : 53 = i
            · rw [if_pos e2, if_pos e2]
            · rw [if_neg e2, if_neg e2, lk]
              by_cases e4 : 52 = i
              · rw [if_pos e4, if_pos e4]
              · rw [if_neg e4, if_neg e4, lk, if_neg e, lk_del]
                by_cases e3 : 40 = i
                · rw [if_pos e3, if_pos e3]
                · rw [if_neg e3, if_neg e3, lk, lk, if_neg e3]
        have hq : ∀ i, i ≠ 40 → i ≠ 41 + V.length → rn [(40, 51), (41 + V.length, 53)] i = i := fun i h h2 => rn_ne (by simp; omega)
        have hq0 : rn [(40, 51), (41 + V.length, 53)] 40 = 51 := by simp [rn, lk]
        have hqu : rn [(40, 51), (41 + V.length, 53)] (41 + V.length) = 53 := by
          unfold rn; rw [lk, if_neg (by omega), lk, if_pos rfl]; rfl
        refine sub3 [(40, 51), (41 + V.length, 53)] (by rw [List.length_append]; show V.length + 1 ≤ 8; omega) rfl (hp3n_lt g L0 L1 A B) ⟨.inl (by omega), .inl (by omega), .inl (by omega), .inl (by omega), trivial, trivial⟩ ⟨rfl, rfl, Nat.le_of_ble_eq_true rfl⟩ (by simp; omega) ?_ rfl ⟨rfl, rfl, rfl, rfl, rfl, trivial⟩ ?_ (fun i hi => ?_) (fun j b hb => ?_) (fun i h1 h2 => ?_) (fun i j h1 h2 h3 h4 e => ?_)
        · rw [hq0, List.length_append]; rfl
        · rw [hq0]
          refine (hS _ _ _ _ _ _ 51).trans ?_
          rw [if_pos rfl, rgC_app, List.map_append, rgC_ren V 41 41 fun i h1 h2 => by rw [hq i (by omega) (by omega)]; omega]
          show some (ABlk.row 37 1 (List.set (rgC 41 V ++ [AC.nils]) _ _)) = some (ABlk.row 37 1 (rgC 41 V ++ [AC.row (rn _ (41 + V.length)) 1]))
          rw [hqu, Int.toNat_natCast, Nat.mul_one]
          have h1 := rgC_len V 41
          simp [List.set_append, h1]
        · refine (hS _ _ _ _ _ _ i).trans ?_
          unfold idOk GB at hi
          rw [if_neg (by omega), if_neg (by omega), if_neg (by omega), if_neg (by omega), if_neg (by omega), lk_append, show lk (rg 41 V) i = none from lk_none_of fun p hp e => by have := rg_mem hp; omega, Option.or_none]
        · have hb : (V ++ [[((v + 1 : Nat) : Int)]])[j]? = some b := hb
          by_cases hj : j < V.length
          · rw [List.getElem?_append_left hj] at hb
            rw [hq (41 + j) (by omega) (by omega)]
            refine (hS _ _ _ _ _ _ (41 + j)).trans ?_
            rw [if_neg (by omega), if_neg (by omega), if_neg (by omega), if_neg (by omega), if_neg (by omega), lk_append, hp3n_none (by omega) (by omega)]
            exact rg_at2 V 41 j hb
          · rw [List.getElem?_append_right (by omega)] at hb
            have e : j = V.length := by
              by_cases e : j = V.length
              · exact e
              · rw [List.getElem?_eq_none (by show 1 ≤ j - V.length; omega)] at hb; cases hb
            subst e
            rw [Nat.sub_self] at hb
            injection hb with hb; subst hb
            rw [hqu]
            refine (hS _ _ _ _ _ _ 53).trans ?_
            rw [if_neg (by omega), if_pos rfl]
            rfl
        · by_cases e : i = 41 + V.length
          · rw [e, hqu]; omega
          · by_cases e2 : i = 40
            · rw [e2, hq0]; omega
            · rw [hq i e2 e]; omega
        · by_cases e1 : i = 41 + V.length
          · by_cases e2 : j = 41 + V.length
            · omega
            · by_cases e3 : j = 40
              · rw [e1, e3, hqu, hq0] at e; omega
              · rw [e1, hqu, hq j e3 e2] at e; omega
          · by_cases e4 : i = 40
            · by_cases e2 : j = 41 + V.length
              · rw [e2, e4, hqu, hq0] at e; omega
              · by_cases e3 : j = 40
                · omega
                · rw [e4, hq0, hq j e3 e2] at e; omega
            · by_cases e2 : j = 41 + V.length
              · rw [e2, hqu, hq i e4 e1] at e; omega
              · by_cases e3 : j = 40
                · rw [e3, hq0, hq i e4 e1] at e; omega
                · rw [hq i e4 e1, hq j e3 e2] at e; exact e) ⟨by show v + 1 + 1 ≤ g.n; omega, by show (V ++ [_]).length ≤ v + 1 + 1; rw [List.length_append]; show V.length + 1 ≤ v + 1 + 1; omega, fun b hb => by
          rcases List.mem_append.1 hb with hb | hb
          · have := g3 b hb; show b.length ≤ v + 1 + 1; omega
          · simp only [List.mem_singleton] at hb; subst hb; show 1 ≤ v + 1 + 1; omega⟩ (by show g.n - (v + 1 + 1) < g.n - (v + 1); omega)
  · have hve : v + 1 = g.n := by omega
    refine Wk.on ?_
    rw [decide_eq_false (show ¬ ((v + 1 : Nat) : Int) < ((g.n : Nat) : Int) by omega)]
    refine Wk.on ?_
    refine ⟨_, ?_, hQ V (by omega) (fun a ha => by have := g3 a ha; omega)⟩
    obtain ⟨rows, r1, r2, r3⟩ := rows_rgC V 41
    have hnk := nodB_sound (show nodB ((hp3n g L0 L1 A B).map Prod.fst) = true from rfl)
    have hkk := hpLt_keys (hp3n_lt g L0 L1 A B)
    refine Under.trans (t := ⟨[(20, .c (.row 40 V.length)), (21, .c (.int .i64 (v + 1 : Nat))), (4, .c (.ptr 5 0)), (7, .c (.ptr 7 0)), (8, .c (.ptr 9 0)), (9, .c (.ptr 30 0)), (12, .c (.int .i64 r))], (40, .row 37 1 (rgC 41 V)) :: (hp3n g L0 L1 A B ++ rg 41 V), 50, 168, 4⟩) (Sub.under (l := []) (sub3 [] (by omega) rfl (hp3n_lt g L0 L1 A B) ⟨.inl (by omega), .inl (by omega), .inl (by omega), .inl (by omega), trivial, trivial⟩ ⟨rfl, rfl, Nat.le_of_ble_eq_true rfl⟩ (fun p hp => absurd hp List.not_mem_nil) rfl rfl ⟨rfl, rfl, rfl, rfl, rfl, trivial⟩ (congrArg (fun c => some (ABlk.row 37 1 c)) (rgC_ren V 41 41 fun i _ _ => by rw [rn_nil]; omega).symm) (fun i hi => ?_) (fun j a ha => ?_) (fun i h1 h2 => by rw [rn_nil]; omega) (fun i j _ _ _ _ e => by rwa [rn_nil, rn_nil] at e))) ?_
    · unfold idOk GB at hi
      show lk ((40, _) :: (hp3n g L0 L1 A B ++ rg 41 V)) i = _
      rw [lk, if_neg (by omega), lk_append, show lk (rg 41 V) i = none from lk_none_of fun p hp e => by have := rg_mem hp; omega, Option.or_none]
    · rw [rn_nil]
      show lk ((40, _) :: (hp3n g L0 L1 A B ++ rg 41 V)) (41 + j) = _
      have hj : j < V.length := by
        by_cases hj : j < V.length
        · exact hj
        · rw [List.getElem?_eq_none (by omega)] at ha; cases ha
      rw [lk, if_neg (by omega), lk_append, hp3n_none (by omega) (by omega)]
      exact rg_at2 V 41 j ha
    have hT := Under.freezeRows (s := ⟨[(20, .c (.row 40 V.length)), (21, .c (.int .i64 (v + 1 : Nat))), (4, .c (.ptr 5 0)), (7, .c (.ptr 7 0)), (8, .c (.ptr 9 0)), (9, .c (.ptr 30 0)), (12, .c (.int .i64 r))], (40, .row 37 1 (rgC 41 V)) :: (hp3n g L0 L1 A B ++ rg 41 V), 50, 168, 4⟩) (o := 40) (e := 37) rows (hp3n g L0 L1 A B) (by rw [r1]; rfl) (fun p hp => ⟨3, by
      have h1 := rg_mem (r3 p hp)
      obtain ⟨j, a, h2, h3⟩ := rg_ex V 41 _ (r3 p hp)
      injection h3 with h3 h4
      show lk ((40, _) :: (hp3n g L0 L1 A B ++ rg 41 V)) p.1 = _
      simp only at h1
      rw [lk, if_neg (by omega), lk_append, hp3n_none (by omega) (by omega), h3, h4]
      exact rg_at2 V 41 j h2⟩) (fun i b hb => by
      have h5 := hkk (i, b) (mem_lk hb)
      unfold idOk GB at h5
      simp only at h5
      refine ⟨?_, fun h => ?_, by omega⟩
      · show lk ((40, _) :: (hp3n g L0 L1 A B ++ rg 41 V)) i = _
        rw [lk, if_neg (by omega), lk_append, hb]; rfl
      · obtain ⟨p, hp, rfl⟩ := List.mem_map.1 h
        have h1 := rg_mem (r3 p hp)
        simp only at h1
        omega) (fun h => by
        obtain ⟨p, hp, e⟩ := List.mem_map.1 h
        have h1 := rg_mem (r3 p hp)
        simp only at h1
        omega)
    rw [r2] at hT
    rw [← hve]
    exact hT
end Go.Proofs.YtfphkpdobbffeaaDoor
