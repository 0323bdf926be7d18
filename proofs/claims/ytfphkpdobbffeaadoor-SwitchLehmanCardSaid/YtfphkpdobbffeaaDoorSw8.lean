/-
  Two trees on all places, or a way to divide the places that too few wires cross. (Plain.)
-/
import Derived.Test.YtfphkpdobbffeaaDoorSw7
set_option linter.unusedSimpArgs false
set_option linter.unusedVariables false
namespace Go.Wire
variable {e : Nat → Nat × Nat} {n m : Nat}

/-- Two forests without a common wire. -/
structure Pk (e : Nat → Nat × Nat) (n m : Nat) (P : Bool → List Nat) : Prop where
  fo : ∀ b, Fo e n (P b)
  lt : ∀ b, ∀ i ∈ P b, i < m
  dj : ∀ b, ∀ i ∈ P b, i ∉ P (!b)
def szP (P : Bool → List Nat) : Nat := (P true).length + (P false).length
def upd (P : Bool → List Nat) (b : Bool) (l : List Nat) : Bool → List Nat := fun c => if c = b then l else P c
theorem upd_eq (P : Bool → List Nat) (b : Bool) (l : List Nat) : upd P b l b = l := if_pos rfl
theorem upd_ne (P : Bool → List Nat) (b : Bool) (l : List Nat) : upd P b l (!b) = P (!b) := by cases b <;> rfl
theorem szP_b (P : Bool → List Nat) (b : Bool) : szP P = (P b).length + (P (!b)).length := by
  cases b
  · exact Nat.add_comm _ _
  · rfl
structure Opt (e : Nat → Nat × Nat) (n m : Nat) (P : Bool → List Nat) : Prop extends Pk e n m P where
  most : ∀ Q, Pk e n m Q → szP Q ≤ szP P
theorem most_ex {α : Type} {p : α → Prop} {f : α → Nat} {B : Nat} (h : ∀ x, p x → f x ≤ B) (x : α) (hx : p x) : ∃ y, p y ∧ ∀ z, p z → f z ≤ f y := by
  have key : ∀ k x, p x → B - f x ≤ k → ∃ y, p y ∧ ∀ z, p z → f z ≤ f y := by
    intro k
    induction k with
    | zero => exact fun x hx hk => ⟨x, hx, fun z hz => by have := h z hz; have := h x hx; omega⟩
    | succ k ih =>
      intro x hx hk
      by_cases c : ∃ z, p z ∧ f x < f z
      · obtain ⟨z, hz, hlt⟩ := c
        have := h z hz
        exact ih z hz (by omega)
      · exact ⟨x, hx, fun z hz => Nat.le_of_not_lt fun hlt => c ⟨z, hz, hlt⟩⟩
  exact key _ x hx (Nat.le_refl _)
theorem opt_ex (e : Nat → Nat × Nat) (n m : Nat) : ∃ P, Opt e n m P := by
  obtain ⟨P, h1, h2⟩ := most_ex (p := Pk e n m) (f := szP) (B := n + n) (fun P h => by
    have h1 := (h.fo true).2
    have h2 := (h.fo false).2
    unfold szP; omega) (fun _ => []) ⟨fun _ => Fo.nil n, fun _ i hi => absurd hi List.not_mem_nil, fun _ i hi => absurd hi List.not_mem_nil⟩
  exact ⟨P, ⟨h1, h2⟩⟩
theorem Pk.put {P : Bool → List Nat} {b : Bool} {l : List Nat} (h : Pk e n m P) (hl : Fo e n l) (hm : ∀ i ∈ l, i < m) (hd : ∀ i ∈ l, i ∉ P (!b)) : Pk e n m (upd P b l) := by
  refine ⟨fun c => ?_, fun c i hi => ?_, fun c i hi => ?_⟩
  · by_cases k : c = b
    · subst k; rw [upd_eq]; exact hl
    · have k : c = !b := by revert k; cases c <;> cases b <;> simp
      subst k; rw [upd_ne]; exact h.fo _
  · by_cases k : c = b
    · subst k; rw [upd_eq] at hi; exact hm i hi
    · have k : c = !b := by revert k; cases c <;> cases b <;> simp
      subst k; rw [upd_ne] at hi; exact h.lt _ i hi
  · by_cases k : c = b
    · subst k; rw [upd_eq] at hi; rw [upd_ne]; exact hd i hi
    · have k : c = !b := by revert k; cases c <;> cases b <;> simp
      subst k; rw [upd_ne] at hi; rw [Bool.not_not, upd_eq]; exact fun hi2 => hd i hi2 hi
/-- One wire that is not used in another one's place. -/
def turnP (P : Bool → List Nat) (b : Bool) (i f : Nat) : Bool → List Nat := upd P b (i :: (P b).erase f)
inductive Rc (e : Nat → Nat × Nat) (n m : Nat) (P : Bool → List Nat) : (Bool → List Nat) → Prop
  | base : Rc e n m P P
  | turn {Q : Bool → List Nat} {b : Bool} {i f : Nat} : Rc e n m P Q → i < m → (∀ c, i ∉ Q c) → f ∈ Q b → Fo e n (i :: (Q b).erase f) → Rc e n m P (turnP Q b i f)
/-- The wires' ends are places. -/
def Ends (e : Nat → Nat × Nat) (n m : Nat) : Prop := ∀ i, i < m → (e i).1 < n ∧ (e i).2 < n
theorem Opt.turn {Q : Bool → List Nat} {b : Bool} {i f : Nat} (h : Opt e n m Q) (hi : i < m) (hn : ∀ c, i ∉ Q c) (hf : f ∈ Q b) (hfo : Fo e n (i :: (Q b).erase f)) : Opt e n m (turnP Q b i f) ∧ ∀ c, f ∉ turnP Q b i f c := by
  have hfi : f ≠ i := fun k => hn b (k ▸ hf)
  have hnd := (h.fo b).nodup
  refine ⟨⟨h.put hfo (fun j hj => ?_) (fun j hj => ?_), fun Z hZ => ?_⟩, fun c => ?_⟩
  · rcases List.mem_cons.1 hj with rfl | hj
    · exact hi
    · exact h.lt b j (List.mem_of_mem_erase hj)
  · rcases List.mem_cons.1 hj with rfl | hj
    · exact hn _
    · exact h.dj b j (List.mem_of_mem_erase hj)
  · refine Nat.le_trans (h.most Z hZ) ?_
    rw [szP_b Q b, szP_b (turnP Q b i f) b]
    unfold turnP
    rw [upd_eq, upd_ne, List.length_cons, List.length_erase_of_mem hf]
    have := List.length_pos_of_mem hf
    omega
  · unfold turnP
    by_cases k : c = b
    · subst k
      rw [upd_eq]
      intro hc
      rcases List.mem_cons.1 hc with hc | hc
      · exact hfi hc
      · exact (List.Nodup.not_mem_erase hnd) hc
    · have k : c = !b := by revert k; cases c <;> cases b <;> simp
      subst k; rw [upd_ne]; exact h.dj b f hf
theorem Rc.opt {P Q : Bool → List Nat} (hP : Opt e n m P) (h : Rc e n m P Q) : Opt e n m Q := by
  induction h with
  | base => exact hP
  | turn _ hi hn hf hfo ih => exact (ih.turn hi hn hf hfo).1
/-- A wire that some pair does not use. -/
def Lo (e : Nat → Nat × Nat) (n m : Nat) (P : Bool → List Nat) (i : Nat) : Prop := ∃ Q, Rc e n m P Q ∧ i < m ∧ ∀ c, i ∉ Q c
theorem Opt.joined {Q : Bool → List Nat} (he : Ends e n m) (h : Opt e n m Q) {i : Nat} (hi : i < m) (hn : ∀ c, i ∉ Q c) (b : Bool) : Jn e (Q b) (e i).1 (e i).2 := by
  apply Classical.byContradiction
  intro k
  have hfo := (fo_cons (he i hi)).2 ⟨h.fo b, k⟩
  have h2 := h.most _ (h.toPk.put (b := b) hfo (fun j hj => by
    rcases List.mem_cons.1 hj with rfl | hj
    · exact hi
    · exact h.lt b j hj) (fun j hj => by
    rcases List.mem_cons.1 hj with rfl | hj
    · exact hn _
    · exact h.dj b j hj))
  rw [szP_b Q b, szP_b (upd Q b (i :: Q b)) b, upd_eq, upd_ne, List.length_cons] at h2
  omega
/-- A way of wires that some pair does not use. -/
theorem loose_way {P Q : Bool → List Nat} (he : Ends e n m) (hP : Opt e n m P) (hQ : Rc e n m P Q) {i : Nat} (hi : i < m) (hn : ∀ c, i ∉ Q c) (b : Bool) : ∃ M : List Nat, (∀ f ∈ M, f ∈ Q b ∧ Lo e n m P f) ∧ Jn e M (e i).1 (e i).2 := by
  have hO := hQ.opt hP
  obtain ⟨M, h1, h2, h3⟩ := least_join _ (Q b) (Nat.le_refl _) (hO.joined he hi hn b)
  refine ⟨M, fun f hf => ⟨h1.subset hf, ?_⟩, h2⟩
  have hfo := (hO.fo b).turn (he i hi) (h1.subset hf) ((hO.fo b).spare h1 hf h2 (h3 f hf))
  exact ⟨_, .turn hQ hi hn (h1.subset hf) hfo, hO.lt b f (h1.subset hf), (hO.turn hi hn (h1.subset hf) hfo).2⟩
/-- Joined by such wires of a forest. -/
def Jl (e : Nat → Nat × Nat) (n m : Nat) (P Q : Bool → List Nat) (b : Bool) (u v : Nat) : Prop := ∃ M : List Nat, (∀ f ∈ M, f ∈ Q b ∧ Lo e n m P f) ∧ Jn e M u v
theorem Jl.eqv (e : Nat → Nat × Nat) (n m : Nat) (P Q : Bool → List Nat) (b : Bool) : Eqv (Jl e n m P Q b) where
  refl u := ⟨[], fun f hf => absurd hf List.not_mem_nil, rfl⟩
  symm := fun ⟨M, h1, h2⟩ => ⟨M, h1, h2.symm⟩
  trans := fun ⟨M, h1, h2⟩ ⟨N, k1, k2⟩ => ⟨M ++ N, fun f hf => (List.mem_append.1 hf).elim (h1 f) (k1 f), (jn_mono (fun _ hj => List.mem_append_left _ hj) h2).trans (jn_mono (fun _ hj => List.mem_append_right _ hj) k2)⟩
theorem Jl.one {P Q : Bool → List Nat} {b : Bool} {f : Nat} (h1 : f ∈ Q b) (h2 : Lo e n m P f) : Jl e n m P Q b (e f).1 (e f).2 := ⟨[f], fun g hg => by rw [List.mem_singleton.1 hg]; exact ⟨h1, h2⟩, jn_mem (List.mem_singleton.2 rfl)⟩
theorem Jl.turn {P Q : Bool → List Nat} {b : Bool} {i f : Nat} (he : Ends e n m) (hP : Opt e n m P) (hQ : Rc e n m P Q) (hi : i < m) (hn : ∀ c, i ∉ Q c) (hf : f ∈ Q b) (hfo : Fo e n (i :: (Q b).erase f)) (c : Bool) (u v : Nat) : Jl e n m P (turnP Q b i f) c u v ↔ Jl e n m P Q c u v := by
  have hO := hQ.opt hP
  have hR : Rc e n m P (turnP Q b i f) := .turn hQ hi hn hf hfo
  have hfn := (hO.turn hi hn hf hfo).2
  have hfm := hO.lt b f hf
  have hLi : Lo e n m P i := ⟨Q, hQ, hi, hn⟩
  by_cases k : c = b
  · subst k
    constructor
    · rintro ⟨M, h1, h2⟩
      refine jn_least (Jl.eqv e n m P Q c) (fun j hj => ?_) h2
      obtain ⟨h3, h4⟩ := h1 j hj
      unfold turnP at h3
      rw [upd_eq] at h3
      rcases List.mem_cons.1 h3 with rfl | h3
      · exact loose_way he hP hQ hi hn c
      · exact Jl.one (List.mem_of_mem_erase h3) h4
    · rintro ⟨M, h1, h2⟩
      refine jn_least (Jl.eqv e n m P (turnP Q c i f) c) (fun j hj => ?_) h2
      obtain ⟨h3, h4⟩ := h1 j hj
      by_cases hjf : j = f
      · subst hjf
        exact loose_way he hP hR hfm hfn c
      · refine Jl.one ?_ h4
        unfold turnP
        rw [upd_eq]
        exact List.mem_cons_of_mem _ ((List.mem_erase_of_ne hjf).2 h3)
  · have k : c = !b := by revert k; cases c <;> cases b <;> simp
    subst k
    unfold Jl turnP
    rw [upd_ne]
theorem Jl.same {P Q : Bool → List Nat} (he : Ends e n m) (hP : Opt e n m P) (hQ : Rc e n m P Q) : ∀ (c : Bool) (u v : Nat), Jl e n m P Q c u v ↔ Jl e n m P P c u v := by
  induction hQ with
  | base => exact fun c u v => Iff.rfl
  | turn hQ hi hn hf hfo ih => exact fun c u v => (Jl.turn he hP hQ hi hn hf hfo c u v).trans (ih c u v)
theorem Jl.lo {P : Bool → List Nat} (he : Ends e n m) (hP : Opt e n m P) {i : Nat} (h : Lo e n m P i) (c : Bool) : Jl e n m P P c (e i).1 (e i).2 := by
  obtain ⟨Q, hQ, hi, hn⟩ := h
  exact (Jl.same he hP hQ c _ _).1 (loose_way he hP hQ hi hn c)
/-- The wires of a forest that some pair does not use, and what they join. -/
theorem loose_list {P : Bool → List Nat} (he : Ends e n m) (hP : Opt e n m P) : ∃ K : Bool → List Nat, (∀ b, (K b).Sublist (P b)) ∧ (∀ b, ∀ i ∈ K b, Lo e n m P i) ∧ (∀ i, Lo e n m P i → ∀ b, Jn e (K b) (e i).1 (e i).2) ∧ ∀ u v, Jn e (K true) u v ↔ Jn e (K false) u v := by
  obtain ⟨d, hd⟩ : ∃ d : Nat → Bool, ∀ i, d i = true ↔ Lo e n m P i := ⟨fun i => @decide _ (Classical.propDecidable (Lo e n m P i)), fun i => by simp⟩
  refine ⟨fun b => (P b).filter d, fun b => List.filter_sublist, fun b i hi => (hd i).1 (List.mem_filter.1 hi).2, ?_, ?_⟩
  · intro i hi b
    obtain ⟨M, h1, h2⟩ := Jl.lo he hP hi b
    exact jn_mono (fun j hj => List.mem_filter.2 ⟨(h1 j hj).1, (hd j).2 (h1 j hj).2⟩) h2
  · have key : ∀ b c : Bool, ∀ u v, Jn e ((P b).filter d) u v → Jn e ((P c).filter d) u v := fun b c u v h => by
      refine jn_least (Jn.eqv _) (fun i hi => ?_) h
      obtain ⟨M, h1, h2⟩ := Jl.lo he hP ((hd i).1 (List.mem_filter.1 hi).2) c
      exact jn_mono (fun j hj => List.mem_filter.2 ⟨(h1 j hj).1, (hd j).2 (h1 j hj).2⟩) h2
    exact fun u v => ⟨key true false u v, key false true u v⟩
/-- A tree on all places. -/
def Tree (e : Nat → Nat × Nat) (n : Nat) (l : List Nat) : Prop := Fo e n l ∧ cp e n l = 1
/-- How many wires join places with different numbers. -/
def crs (e : Nat → Nat × Nat) (m : Nat) (q : Nat → Nat) : Nat := (List.range m).countP fun i => decide (q (e i).1 ≠ q (e i).2)
theorem cross_part {K l : List Nat} {q : Nat → Nat} (hl : Fo e n l) (hs : ∀ i ∈ K, i ∈ l) (hq : ∀ u v, Jn e K u v ↔ q u = q v) : (l.filter fun i => decide (q (e i).1 ≠ q (e i).2)).length + n ≤ l.length + cp e n K := by
  have h1 : (l.filter fun i => decide (q (e i).1 ≠ q (e i).2)).length + (l.filter fun i => decide (q (e i).1 = q (e i).2)).length = l.length := by
    have := List.length_eq_countP_add_countP (l := l) (fun i => decide (q (e i).1 ≠ q (e i).2))
    rw [List.countP_eq_length_filter, List.countP_eq_length_filter] at this
    rw [this]
    congr 2
    refine List.filter_congr fun i _ => ?_
    simp
  have h2 := cp_ge (n := n) (hl.1.sub (l' := l.filter fun i => decide (q (e i).1 = q (e i).2)) fun i hi => (List.mem_filter.1 hi).1)
  have h3 : cp e n (l.filter fun i => decide (q (e i).1 = q (e i).2)) = cp e n K := by
    refine cp_congr fun u v => ⟨fun h => ?_, fun h => ?_⟩
    · refine jn_least (Jn.eqv K) (fun i hi => ?_) h
      exact (hq _ _).2 (of_decide_eq_true (List.mem_filter.1 hi).2)
    · refine jn_mono (fun i hi => List.mem_filter.2 ⟨hs i hi, decide_eq_true ?_⟩) h
      exact (hq _ _).1 (jn_mem hi)
  omega
/-- Two trees, or a barrier. -/
theorem trees_or (he : Ends e n m) (hn : 0 < n) : (∃ P, Pk e n m P ∧ ∀ b, cp e n (P b) = 1) ∨ ∃ K : List Nat, (∀ i ∈ K, i < m) ∧ crs e m (lb e K) + 2 < 2 * cp e n K := by
  obtain ⟨P, hP⟩ := opt_ex e n m
  by_cases c : ∀ b, cp e n (P b) = 1
  · exact .inl ⟨P, hP.toPk, c⟩
  · refine .inr ?_
    obtain ⟨K, k1, k2, k3, k4⟩ := loose_list he hP
    refine ⟨K true, fun i hi => hP.lt true i ((k1 true).subset hi), ?_⟩
    have hq : ∀ b u v, Jn e (K b) u v ↔ lb e (K true) u = lb e (K true) v := fun b u v => by
      cases b
      · exact (k4 u v).symm
      · exact Iff.rfl
    have c1 := cross_part (hP.fo true) (fun i hi => (k1 true).subset hi) (hq true)
    have c2 := cross_part (hP.fo false) (fun i hi => (k1 false).subset hi) (hq false)
    have c3 : cp e n (K false) = cp e n (K true) := cp_congr fun u v => (k4 u v).symm
    have hle : crs e m (lb e (K true)) ≤ ((P true).filter fun i => decide (lb e (K true) (e i).1 ≠ lb e (K true) (e i).2)).length + ((P false).filter fun i => decide (lb e (K true) (e i).1 ≠ lb e (K true) (e i).2)).length := by
      rw [crs, List.countP_eq_length_filter, ← List.length_append]
      refine len_le_of_sub (List.Nodup.sublist List.filter_sublist List.nodup_range) fun i hi => ?_
      obtain ⟨h1, h2⟩ := List.mem_filter.1 hi
      have h1 := List.mem_range.1 h1
      have hnot : ¬ ∀ b, i ∉ P b := fun hno => of_decide_eq_true h2 (k3 i ⟨P, .base, h1, hno⟩ true)
      by_cases d : i ∈ P true
      · exact List.mem_append_left _ (List.mem_filter.2 ⟨d, h2⟩)
      · refine List.mem_append_right _ (List.mem_filter.2 ⟨?_, h2⟩)
        apply Classical.byContradiction
        intro d2
        exact hnot fun b => by cases b <;> assumption
    have f1 := (hP.fo true).2
    have f2 := (hP.fo false).2
    have p1 := cp_pos (e := e) hn (P true)
    have p2 := cp_pos (e := e) hn (P false)
    have hs : cp e n (P true) + cp e n (P false) ≠ 2 := fun hs => c fun b => by cases b <;> omega
    omega
/-- A tree crosses every division. -/
theorem tree_cross {l : List Nat} {q : Nat → Nat} {k : Nat} (hl : Fo e n l) (hc : cp e n l = 1) (hk : ∀ x, x < k → ∃ u, u < n ∧ q u = x) : k ≤ (l.filter fun i => decide (q (e i).1 ≠ q (e i).2)).length + 1 := by
  obtain ⟨N, hN⟩ : ∃ N, N = l.filter fun i => decide (q (e i).1 = q (e i).2) := ⟨_, rfl⟩
  obtain ⟨X, hX⟩ : ∃ X, X = l.filter fun i => decide (q (e i).1 ≠ q (e i).2) := ⟨_, rfl⟩
  have hlen : X.length + N.length = l.length := by
    have := List.length_eq_countP_add_countP (l := l) (fun i => decide (q (e i).1 ≠ q (e i).2))
    rw [List.countP_eq_length_filter, List.countP_eq_length_filter] at this
    rw [this, hX, hN]
    congr 2
    refine List.filter_congr fun i _ => ?_
    simp
  have hNf : Fo e n N := hl.sub (hN ▸ List.filter_sublist)
  have hNq : ∀ u v, Jn e N u v → q u = q v := fun u v h => jn_least (R := fun u v => q u = q v) ⟨fun _ => rfl, Eq.symm, Eq.trans⟩ (fun i hi => by
    rw [hN] at hi
    exact of_decide_eq_true (List.mem_filter.1 hi).2) h
  have hcp : k ≤ cp e n N := by
    have h1 : (List.range k).length ≤ (((List.range n).filter fun u => decide (lb e N u = u)).map q).length := len_le_of_sub List.nodup_range fun x hx => by
      obtain ⟨u, hu, rfl⟩ := hk x (List.mem_range.1 hx)
      refine List.mem_map.2 ⟨lb e N u, List.mem_filter.2 ⟨List.mem_range.2 (Nat.lt_of_le_of_lt (lb_le N u) hu), decide_eq_true (lb_lb N u)⟩, (hNq _ _ (lb_lb N u))⟩
    rw [List.length_range, List.length_map, ← List.countP_eq_length_filter] at h1
    exact h1
  have h1 := hNf.2
  have h2 := hl.2
  rw [← hX]
  omega
theorem no_barrier {P : Bool → List Nat} (hP : Pk e n m P) (hc : ∀ b, cp e n (P b) = 1) {q : Nat → Nat} {k : Nat} (hk : ∀ x, x < k → ∃ u, u < n ∧ q u = x) : 2 * k ≤ crs e m q + 2 := by
  have h1 := tree_cross (hP.fo true) (hc true) hk
  have h2 := tree_cross (hP.fo false) (hc false) hk
  have h3 : ((P true).filter fun i => decide (q (e i).1 ≠ q (e i).2)).length + ((P false).filter fun i => decide (q (e i).1 ≠ q (e i).2)).length ≤ crs e m q := by
    rw [crs, List.countP_eq_length_filter, ← List.length_append]
    refine len_le_of_sub (List.nodup_append.2 ⟨List.Nodup.sublist List.filter_sublist (hP.fo true).nodup, List.Nodup.sublist List.filter_sublist (hP.fo false).nodup, fun i hi j hj hij => ?_⟩) fun i hi => ?_
    · subst hij
      exact hP.dj true i (List.mem_filter.1 hi).1 (List.mem_filter.1 hj).1
    · rcases List.mem_append.1 hi with hi | hi
      · have := List.mem_filter.1 hi
        exact List.mem_filter.2 ⟨List.mem_range.2 (hP.lt true i this.1), this.2⟩
      · have := List.mem_filter.1 hi
        exact List.mem_filter.2 ⟨List.mem_range.2 (hP.lt false i this.1), this.2⟩
  omega
end Go.Wire

/-
  The switching game: more never harms; two trees win; who wins moving second has two trees. (Plain.)
-/
namespace Go.Wire
variable {e : Nat → Nat × Nat} {n m s t : Nat}

/-- Whether Short wins, with F free and K kept. -/
def Sw (e : Nat → Nat × Nat) (s t : Nat) : Nat → List Nat → List Nat → Bool → Prop
  | 0, _, K, _ => Jn e K s t
  | n + 1, F, K, true => ∀ i ∈ F, Sw e s t n (F.erase i) K false
  | n + 1, F, K, false => ∃ i ∈ F, Sw e s t n (F.erase i) (i :: K) true
theorem Sw.kept : ∀ {n : Nat} {F K K' : List Nat} {c : Bool}, (∀ i ∈ K, i ∈ K') → Sw e s t n F K c → Sw e s t n F K' c
  | 0, F, K, K', c, hs, h => jn_mono hs h
  | n + 1, F, K, K', true, hs, h => fun i hi => Sw.kept hs (h i hi)
  | n + 1, F, K, K', false, hs, ⟨i, hi, h⟩ => ⟨i, hi, Sw.kept (fun j hj => by
      rcases List.mem_cons.1 hj with rfl | hj
      · exact List.mem_cons_self ..
      · exact List.mem_cons_of_mem _ (hs j hj)) h⟩
theorem Sw.swap {n : Nat} {F K : List Nat} {i j : Nat} {c : Bool} (h : Sw e s t n F (i :: j :: K) c) : Sw e s t n F (j :: i :: K) c := Sw.kept (fun x hx => by
  simp only [List.mem_cons] at hx ⊢
  rcases hx with h | h | h
  · exact .inr (.inl h)
  · exact .inl h
  · exact .inr (.inr h)) h
structure More (e : Nat → Nat × Nat) (s t n : Nat) : Prop where
  to : ∀ {F K : List Nat}, F.length = n → Sw e s t n F K true → Sw e s t n F K false
  keep : ∀ {F K : List Nat} {w : Nat} {c : Bool}, F.length = n + 1 → w ∈ F → Sw e s t (n + 1) F K c → Sw e s t n (F.erase w) (w :: K) c
  cut : ∀ {F K : List Nat} {w : Nat} {c : Bool}, F.length = n + 1 → w ∈ F → Sw e s t n (F.erase w) K c → Sw e s t (n + 1) F K c
theorem one_mem {F : List Nat} {w i : Nat} (h : F.length = 1) (hw : w ∈ F) (hi : i ∈ F) : i = w := by
  obtain ⟨x, rfl⟩ := List.length_eq_one_iff.1 h
  rw [List.mem_singleton.1 hw, List.mem_singleton.1 hi]
theorem erase_in {F : List Nat} {w i : Nat} (hw : w ∈ F) (hi : i ∈ F.erase w) : w ∈ F.erase i := by
  by_cases h : w = i
  · subst h; exact hi
  · exact (List.mem_erase_of_ne h).2 hw
theorem Sw.more (e : Nat → Nat × Nat) (s t : Nat) : ∀ n, More e s t n
  | 0 => by
    have to : ∀ {F K : List Nat}, F.length = 0 → Sw e s t 0 F K true → Sw e s t 0 F K false := fun _ h => h
    refine ⟨to, fun {F K w c} hl hw h => ?_, fun {F K w c} hl hw h => ?_⟩
    · cases c
      · obtain ⟨i, hi, h⟩ := h
        obtain rfl := one_mem hl hw hi
        exact h
      · exact jn_mono (fun j hj => List.mem_cons_of_mem _ hj) (h w hw)
    · cases c
      · exact ⟨w, hw, jn_mono (fun j hj => List.mem_cons_of_mem _ hj) h⟩
      · intro i hi
        exact h
  | n + 1 => by
    have ih := Sw.more e s t n
    have to : ∀ {F K : List Nat}, F.length = n + 1 → Sw e s t (n + 1) F K true → Sw e s t (n + 1) F K false := fun {F K} hl h => by
      cases F with
      | nil => cases hl
      | cons i F => exact ⟨i, List.mem_cons_self .., ih.keep hl (List.mem_cons_self ..) h⟩
    refine ⟨to, fun {F K w c} hl hw h => ?_, fun {F K w c} hl hw h => ?_⟩
    · have hle : (F.erase w).length = n + 1 := by rw [List.length_erase_of_mem hw, hl]; rfl
      cases c
      · obtain ⟨i, hi, h⟩ := h
        by_cases k : i = w
        · subst k; exact to hle h
        · have hiw : i ∈ F.erase w := (List.mem_erase_of_ne k).2 hi
          have hle2 : (F.erase i).length = n + 1 := by rw [List.length_erase_of_mem hi, hl]; rfl
          refine ⟨i, hiw, ?_⟩
          rw [List.erase_comm]
          exact Sw.swap (ih.keep hle2 (erase_in hw hiw) h)
      · intro i hi
        have hiF := List.mem_of_mem_erase hi
        have hle2 : (F.erase i).length = n + 1 := by rw [List.length_erase_of_mem hiF, hl]; rfl
        rw [List.erase_comm]
        exact ih.keep hle2 (erase_in hw hi) (h i hiF)
    · have hle : (F.erase w).length = n + 1 := by rw [List.length_erase_of_mem hw, hl]; rfl
      cases c
      · obtain ⟨i, hi, h⟩ := h
        have hiF := List.mem_of_mem_erase hi
        have hle2 : (F.erase i).length = n + 1 := by rw [List.length_erase_of_mem hiF, hl]; rfl
        refine ⟨i, hiF, ?_⟩
        rw [List.erase_comm] at h
        exact ih.cut hle2 (erase_in hw hi) h
      · intro i hi
        have hle2 : (F.erase i).length = n + 1 := by rw [List.length_erase_of_mem hi, hl]; rfl
        by_cases k : i = w
        · subst k; exact to hle h
        · have hiw : i ∈ F.erase w := (List.mem_erase_of_ne k).2 hi
          have h := h i hiw
          rw [List.erase_comm] at h
          exact ih.cut hle2 (erase_in hw hiw) h
theorem exch {f b : Nat} {l : List Nat} (h : Jn e (f :: l) (e b).1 (e b).2) (hn : ¬ Jn e l (e b).1 (e b).2) : Jn e (b :: l) (e f).1 (e f).2 := by
  have up : ∀ {x y}, Jn e l x y → Jn e (b :: l) x y := fun h => jn_mono (fun j hj => List.mem_cons_of_mem _ hj) h
  have hb : Jn e (b :: l) (e b).1 (e b).2 := jn_mem (List.mem_cons_self ..)
  rcases jn_cons.1 h with h | ⟨h1, h2⟩ | ⟨h1, h2⟩
  · exact absurd h hn
  · exact (up h1).symm.trans (hb.trans (up h2).symm)
  · exact (up h2).trans (hb.symm.trans (up h1))
/-- Two ways to join some places, with no free wire in common. -/
structure SI (e : Nat → Nat × Nat) (X : Nat → Prop) (F K A B : List Nat) : Prop where
  a : ∀ i ∈ A, i ∈ F
  b : ∀ i ∈ B, i ∈ F
  dj : ∀ i ∈ A, i ∉ B
  ae : ∀ i ∈ A, X (e i).1 ∧ X (e i).2
  be : ∀ i ∈ B, X (e i).1 ∧ X (e i).2
  aj : ∀ {u v}, X u → X v → Jn e (K ++ A) u v
  bj : ∀ {u v}, X u → X v → Jn e (K ++ B) u v
theorem SI.swap {X : Nat → Prop} {F K A B : List Nat} (h : SI e X F K A B) : SI e X F K B A := ⟨h.b, h.a, fun i hb ha => h.dj i ha hb, h.be, h.ae, h.bj, h.aj⟩
theorem SI.pass {X : Nat → Prop} {F K A B : List Nat} (h : SI e X F K A B) {b : Nat} : SI e X (F.erase b) (b :: K) (A.filter fun j => decide (j ≠ b)) (B.filter fun j => decide (j ≠ b)) := by
  have key : ∀ {C : List Nat} {u v : Nat}, Jn e (K ++ C) u v → Jn e ((b :: K) ++ C.filter fun j => decide (j ≠ b)) u v := fun {C u v} hj => jn_mono (fun j hj => by
    by_cases k : j = b
    · subst k; exact List.mem_append_left _ (List.mem_cons_self ..)
    · rcases List.mem_append.1 hj with hj | hj
      · exact List.mem_append_left _ (List.mem_cons_of_mem _ hj)
      · exact List.mem_append_right _ (List.mem_filter.2 ⟨hj, decide_eq_true k⟩)) hj
  exact ⟨fun i hi => (List.mem_erase_of_ne (of_decide_eq_true (List.mem_filter.1 hi).2)).2 (h.a i (List.mem_filter.1 hi).1), fun i hi => (List.mem_erase_of_ne (of_decide_eq_true (List.mem_filter.1 hi).2)).2 (h.b i (List.mem_filter.1 hi).1), fun i hi hb => h.dj i (List.mem_filter.1 hi).1 (List.mem_filter.1 hb).1, fun i hi => h.ae i (List.mem_filter.1 hi).1, fun i hi => h.be i (List.mem_filter.1 hi).1, fun hu hv => key (h.aj hu hv), fun hu hv => key (h.bj hu hv)⟩
/-- The reply to a cut wire. -/
theorem SI.reply {X : Nat → Prop} {F K A B : List Nat} (h : SI e X F K A B) {c : Nat} (hc : c ∈ A) (hn : ¬ Jn e (K ++ A.filter fun j => decide (j ≠ c)) (e c).1 (e c).2) : ∃ b ∈ B, b ≠ c ∧ SI e X ((F.erase c).erase b) (b :: K) (A.filter fun j => decide (j ≠ c)) (B.filter fun j => decide (j ≠ b)) := by
  obtain ⟨xc1, xc2⟩ := h.ae c hc
  obtain ⟨A', hA'⟩ : ∃ A', A' = A.filter fun j => decide (j ≠ c) := ⟨_, rfl⟩
  rw [← hA'] at hn ⊢
  have hex : ∃ b ∈ B, ¬ Jn e (K ++ A') (e b).1 (e b).2 := by
    apply Classical.byContradiction
    intro hno
    refine hn (jn_least (Jn.eqv _) (fun i hi => ?_) (h.bj xc1 xc2))
    rcases List.mem_append.1 hi with hi | hi
    · exact jn_mem (List.mem_append_left _ hi)
    · exact Classical.byContradiction fun k => hno ⟨i, hi, k⟩
  obtain ⟨b, hb, hbn⟩ := hex
  have hbc : b ≠ c := fun k => h.dj c hc (k ▸ hb)
  have hcA : ∀ {u v}, Jn e (K ++ A) u v → Jn e (c :: (K ++ A')) u v := fun hj => jn_mono (fun j hj => by
    by_cases k : j = c
    · exact k ▸ List.mem_cons_self ..
    · refine List.mem_cons_of_mem _ ?_
      rcases List.mem_append.1 hj with hj | hj
      · exact List.mem_append_left _ hj
      · exact List.mem_append_right _ (hA' ▸ List.mem_filter.2 ⟨hj, decide_eq_true k⟩)) hj
  obtain ⟨xb1, xb2⟩ := h.be b hb
  have hx := exch (hcA (h.aj xb1 xb2)) hbn
  refine ⟨b, hb, hbc, fun i hi => ?_, fun i hi => ?_, fun i hi hi2 => ?_, fun i hi => ?_, fun i hi => h.be i (List.mem_filter.1 hi).1, fun hu hv => ?_, fun hu hv => ?_⟩
  · rw [hA'] at hi
    obtain ⟨h1, h2⟩ := List.mem_filter.1 hi
    exact (List.mem_erase_of_ne (fun k : i = b => h.dj i h1 (k ▸ hb))).2 ((List.mem_erase_of_ne (of_decide_eq_true h2)).2 (h.a i h1))
  · obtain ⟨h1, h2⟩ := List.mem_filter.1 hi
    exact (List.mem_erase_of_ne (of_decide_eq_true h2)).2 ((List.mem_erase_of_ne (fun k : i = c => h.dj c hc (k ▸ h1))).2 (h.b i h1))
  · rw [hA'] at hi
    exact h.dj i (List.mem_filter.1 hi).1 (List.mem_filter.1 hi2).1
  · rw [hA'] at hi
    exact h.ae i (List.mem_filter.1 hi).1
  · refine jn_least (Jn.eqv _) (fun i hi => ?_) (hcA (h.aj hu hv))
    rcases List.mem_cons.1 hi with rfl | hi
    · exact jn_mono (fun j hj => hj) hx
    · exact jn_mem (List.mem_cons_of_mem _ hi)
  · refine jn_mono (fun j hj => ?_) (h.bj hu hv)
    by_cases k : j = b
    · exact k ▸ List.mem_append_left _ (List.mem_cons_self ..)
    · rcases List.mem_append.1 hj with hj | hj
      · exact List.mem_append_left _ (List.mem_cons_of_mem _ hj)
      · exact List.mem_append_right _ (List.mem_filter.2 ⟨hj, decide_eq_true k⟩)
theorem SI.cutA {X : Nat → Prop} {F K A B : List Nat} (h : SI e X F K A B) {c : Nat} (hc : c ∈ A) (hj : Jn e (K ++ A.filter fun j => decide (j ≠ c)) (e c).1 (e c).2) : SI e X (F.erase c) K (A.filter fun j => decide (j ≠ c)) B := by
  refine ⟨fun i hi => ?_, fun i hi => (List.mem_erase_of_ne (fun k : i = c => h.dj c hc (k ▸ hi))).2 (h.b i hi), fun i hi => h.dj i (List.mem_filter.1 hi).1, fun i hi => h.ae i (List.mem_filter.1 hi).1, h.be, fun hu hv => ?_, h.bj⟩
  · obtain ⟨h1, h2⟩ := List.mem_filter.1 hi
    exact (List.mem_erase_of_ne (of_decide_eq_true h2)).2 (h.a i h1)
  · refine jn_least (Jn.eqv _) (fun i hi => ?_) (h.aj hu hv)
    by_cases k : i = c
    · exact k ▸ hj
    · rcases List.mem_append.1 hi with hi | hi
      · exact jn_mem (List.mem_append_left _ hi)
      · exact jn_mem (List.mem_append_right _ (List.mem_filter.2 ⟨hi, decide_eq_true k⟩))
theorem SI.cutN {X : Nat → Prop} {F K A B : List Nat} (h : SI e X F K A B) {c : Nat} (ha : c ∉ A) (hb : c ∉ B) : SI e X (F.erase c) K A B :=
  ⟨fun i hi => (List.mem_erase_of_ne (fun k : i = c => ha (k ▸ hi))).2 (h.a i hi), fun i hi => (List.mem_erase_of_ne (fun k : i = c => hb (k ▸ hi))).2 (h.b i hi), h.dj, h.ae, h.be, h.aj, h.bj⟩
theorem SI.joined {X : Nat → Prop} {K A B : List Nat} (h : SI e X [] K A B) {u v : Nat} (hu : X u) (hv : X v) : Jn e K u v :=
  jn_mono (fun i hi => by
    rcases List.mem_append.1 hi with hi | hi
    · exact hi
    · exact absurd (h.a i hi) List.not_mem_nil) (h.aj hu hv)
/-- Two trees win. -/
theorem SI.wins {X : Nat → Prop} (hs : X s) (ht : X t) : ∀ (k n : Nat) {F K A B : List Nat}, n ≤ k → F.length = n → SI e X F K A B → Sw e s t n F K true
  | k, 0, F, K, A, B, _, hl, h => by
    obtain rfl := List.length_eq_zero_iff.1 hl
    exact h.joined hs ht
  | 0, n + 1, F, K, A, B, hk, hl, h => by omega
  | k + 1, n + 1, F, K, A, B, hk, hl, h => by
    intro c hc
    have hlc : (F.erase c).length = n := by rw [List.length_erase_of_mem hc, hl]; rfl
    cases n with
    | zero =>
      show Jn e K s t
      have h0 : F = [c] := by
        obtain ⟨x, rfl⟩ := List.length_eq_one_iff.1 hl
        rw [List.mem_singleton.1 hc]
      subst h0
      by_cases hca : c ∈ A
      · refine jn_mono (fun i hi => ?_) (h.bj hs ht)
        rcases List.mem_append.1 hi with hi | hi
        · exact hi
        · have := List.mem_singleton.1 (h.b i hi)
          exact absurd (this ▸ hi) (h.dj c hca)
      · refine jn_mono (fun i hi => ?_) (h.aj hs ht)
        rcases List.mem_append.1 hi with hi | hi
        · exact hi
        · have := List.mem_singleton.1 (h.a i hi)
          exact absurd (this ▸ hi) hca
    | succ n =>
      have go : ∀ {A B : List Nat}, SI e X (F.erase c) K A B → Sw e s t (n + 1) (F.erase c) K false := fun {A B} h2 => by
        cases hF : F.erase c with
        | nil => rw [hF] at hlc; cases hlc
        | cons b G =>
          rw [hF] at h2
          refine ⟨b, List.mem_cons_self .., SI.wins hs ht k n (by omega) ?_ (h2.pass (b := b))⟩
          rw [List.length_erase_of_mem (List.mem_cons_self ..), ← hF, hlc]; rfl
      have two : ∀ {A B : List Nat}, SI e X F K A B → c ∈ A → Sw e s t (n + 1) (F.erase c) K false := fun {A B} h2 hca => by
        by_cases hj : Jn e (K ++ A.filter fun j => decide (j ≠ c)) (e c).1 (e c).2
        · exact go (h2.cutA hca hj)
        · obtain ⟨b, hb, hbc, h3⟩ := h2.reply hca hj
          have hbF : b ∈ F.erase c := (List.mem_erase_of_ne hbc).2 (h2.b b hb)
          exact ⟨b, hbF, SI.wins hs ht k n (by omega) (by rw [List.length_erase_of_mem hbF, hlc]; rfl) h3⟩
      by_cases hca : c ∈ A
      · exact two h hca
      · by_cases hcb : c ∈ B
        · exact two h.swap hcb
        · exact go (h.cutN hca hcb)
end Go.Wire

/-
  Lehman's theorem: who wins moving second has two trees. (Plain.)
-/
namespace Go.Wire
variable {e : Nat → Nat × Nat} {n m s t z : Nat}

/-- A wire of a ring can be spared, if it is not one of those that must stay. -/
theorem spare_one {B L : List Nat} {x y : Nat} (h : Fo e n (B ++ L)) (hj : Jn e (B ++ L) x y) (hn : ¬ Jn e L x y) : ∃ b ∈ B, ¬ Jn e (B.erase b ++ L) x y := by
  obtain ⟨M, h1, h2, h3⟩ := least_join _ (B ++ L) (Nat.le_refl _) hj
  have : ∃ b ∈ M, b ∉ L := by
    apply Classical.byContradiction
    intro hno
    refine hn (jn_mono (fun b hb => ?_) h2)
    exact Classical.byContradiction fun k => hno ⟨b, hb, k⟩
  obtain ⟨b, hb, hbL⟩ := this
  have hbB : b ∈ B := (List.mem_append.1 (h1.subset hb)).resolve_right hbL
  have := h.spare h1 hb h2 (h3 b hb)
  rw [List.erase_append_left _ hbB] at this
  exact ⟨b, hbB, this⟩
/-- Cut wins, with the other one to move: what is free is two forests with the wire between the ends (z), and wires that join nothing more. -/
structure CS (e : Nat → Nat × Nat) (n z : Nat) (F K A B L : List Nat) : Prop where
  k : ∀ i ∈ K, Jn e L (e i).1 (e i).2
  f : ∀ i ∈ F, i ∈ A ∨ i ∈ B ∨ Jn e L (e i).1 (e i).2
  a : Fo e n (z :: (A ++ L))
  b : Fo e n (z :: (B ++ L))
/-- Cut to move: one wire may be too much. -/
structure CC (e : Nat → Nat × Nat) (n z : Nat) (F K A B L : List Nat) : Prop where
  k : ∀ i ∈ K, Jn e L (e i).1 (e i).2
  f : ∀ i ∈ F, i ∈ A ∨ i ∈ B ∨ Jn e L (e i).1 (e i).2
  a : Fo e n (z :: (A ++ L))
  b : Fo e n (z :: (B ++ L)) ∨ ∃ b ∈ B, Fo e n (z :: (B.erase b ++ L))
theorem CS.swap {F K A B L : List Nat} (h : CS e n z F K A B L) : CS e n z F K B A L := ⟨h.k, fun i hi => by
  rcases h.f i hi with h | h | h
  · exact .inr (.inl h)
  · exact .inl h
  · exact .inr (.inr h), h.b, h.a⟩
theorem mem_erase_or {F : List Nat} {i f : Nat} (hn : F.Nodup) (hi : i ∈ F.erase f) : i ∈ F ∧ i ≠ f := ⟨List.mem_of_mem_erase hi, fun k => by
  subst k
  exact List.Nodup.not_mem_erase hn hi⟩
theorem CS.keepA {F K A B L : List Nat} (hF : F.Nodup) (h : CS e n z F K A B L) {f : Nat} (hf : f ∈ A) : CC e n z (F.erase f) (f :: K) (A.erase f) B (f :: L) := by
  have up : ∀ {x y}, Jn e L x y → Jn e (f :: L) x y := fun h => jn_mono (fun j hj => List.mem_cons_of_mem _ hj) h
  have p1 : (z :: (A ++ L)).Perm (z :: (A.erase f ++ f :: L)) := List.Perm.cons _ (((List.perm_cons_erase hf).append_right L).trans List.perm_middle.symm)
  have p2 : (z :: (A ++ L)).Perm (f :: (z :: (A.erase f ++ L))) := p1.trans ((List.Perm.cons _ List.perm_middle).trans (List.Perm.swap ..))
  have hfo := h.a.perm p2
  have hnj : ¬ Jn e (z :: L) (e f).1 (e f).2 := fun k => hfo.head (jn_mono (fun j hj => by
    rcases List.mem_cons.1 hj with rfl | hj
    · exact List.mem_cons_self ..
    · exact List.mem_cons_of_mem _ (List.mem_append_right _ hj)) k)
  have hfe := h.a.1 f (p2.mem_iff.2 (List.mem_cons_self ..))
  refine ⟨fun i hi => ?_, fun i hi => ?_, h.a.perm p1, ?_⟩
  · rcases List.mem_cons.1 hi with rfl | hi
    · exact jn_mem (List.mem_cons_self ..)
    · exact up (h.k i hi)
  · obtain ⟨h1, h2⟩ := mem_erase_or hF hi
    rcases h.f i h1 with h3 | h3 | h3
    · exact .inl ((List.mem_erase_of_ne h2).2 h3)
    · exact .inr (.inl h3)
    · exact .inr (.inr (up h3))
  · by_cases c : Jn e (z :: (B ++ L)) (e f).1 (e f).2
    · have hp : (z :: (B ++ L)).Perm (B ++ z :: L) := List.perm_middle.symm
      obtain ⟨b, hb, hbn⟩ := spare_one (h.b.perm hp) ((jn_perm hp).1 c) hnj
      refine .inr ⟨b, hb, ?_⟩
      have h1 : Fo e n (f :: (B.erase b ++ z :: L)) := (fo_cons hfe).2 ⟨(h.b.perm hp).sub ((List.erase_sublist).append (List.Sublist.refl _)), hbn⟩
      refine h1.perm ?_
      refine (List.Perm.cons _ List.perm_middle).trans ((List.Perm.swap ..).trans (List.Perm.cons _ List.perm_middle.symm))
    · refine .inl (((fo_cons hfe).2 ⟨h.b, c⟩).perm ?_)
      exact (List.Perm.swap ..).trans (List.Perm.cons _ List.perm_middle.symm)
theorem cut_wins (hz : e z = (s, t)) : ∀ k {F K A B L : List Nat}, F.length = k → F.Nodup → (CS e n z F K A B L → ¬ Sw e s t k F K false) ∧ (CC e n z F K A B L → ¬ Sw e s t k F K true)
  | 0, F, K, A, B, L, hl, hF => by
    have key : ∀ {A L : List Nat}, Fo e n (z :: (A ++ L)) → (∀ i ∈ K, Jn e L (e i).1 (e i).2) → ¬ Jn e K s t := fun {A L} h hk hj => by
      refine h.head ?_
      rw [hz]
      exact jn_mono (fun j hj => List.mem_append_right _ hj) (jn_least (Jn.eqv L) hk hj)
    exact ⟨fun h => key h.a h.k, fun h => key h.a h.k⟩
  | k + 1, F, K, A, B, L, hl, hF => by
    constructor
    · rintro h ⟨f, hf, hw⟩
      have hle : (F.erase f).length = k := by rw [List.length_erase_of_mem hf, hl]; rfl
      have hFe : (F.erase f).Nodup := hF.sublist List.erase_sublist
      rcases h.f f hf with c | c | c
      · exact (cut_wins hz k hle hFe).2 (h.keepA hF c) hw
      · exact (cut_wins hz k hle hFe).2 (h.swap.keepA hF c) hw
      · refine (cut_wins hz k hle hFe).2 (⟨fun i hi => ?_, fun i hi => h.f i (List.mem_of_mem_erase hi), h.a, .inl h.b⟩ : CC e n z (F.erase f) (f :: K) A B L) hw
        rcases List.mem_cons.1 hi with rfl | hi
        · exact c
        · exact h.k i hi
    · intro h hw
      have any : ∀ {B : List Nat}, CS e n z F K A B L → False := fun {B} h2 => by
        cases F with
        | nil => cases hl
        | cons i G =>
          have hle : ((i :: G).erase i).length = k := by rw [List.length_erase_of_mem (List.mem_cons_self ..), hl]; rfl
          exact (cut_wins hz k hle (hF.sublist List.erase_sublist)).1 (⟨h2.k, fun j hj => h2.f j (List.mem_of_mem_erase hj), h2.a, h2.b⟩ : CS e n z _ K A B L) (hw i (List.mem_cons_self ..))
      rcases h.b with hb | ⟨b, hb, hfo⟩
      · exact any ⟨h.k, h.f, h.a, hb⟩
      · by_cases hbF : b ∈ F
        · have hle : (F.erase b).length = k := by rw [List.length_erase_of_mem hbF, hl]; rfl
          refine (cut_wins hz k hle (hF.sublist List.erase_sublist)).1 (⟨h.k, fun i hi => ?_, h.a, hfo⟩ : CS e n z (F.erase b) K A (B.erase b) L) (hw b hbF)
          obtain ⟨h1, h2⟩ := mem_erase_or hF hi
          rcases h.f i h1 with h3 | h3 | h3
          · exact .inl h3
          · exact .inr (.inl ((List.mem_erase_of_ne h2).2 h3))
          · exact .inr (.inr h3)
        · refine any (⟨h.k, fun i hi => ?_, h.a, hfo⟩ : CS e n z F K A (B.erase b) L)
          rcases h.f i hi with h3 | h3 | h3
          · exact .inl h3
          · exact .inr (.inl ((List.mem_erase_of_ne (fun k : i = b => hbF (k ▸ hi))).2 h3))
          · exact .inr (.inr h3)
/-- Two lists without a common wire, forests, that join the same places, the ends among them. -/
structure Pair (e : Nat → Nat × Nat) (n m s t : Nat) (A B : List Nat) : Prop where
  fa : Fo e n A
  fb : Fo e n B
  la : ∀ i ∈ A, i < m
  lb : ∀ i ∈ B, i < m
  dj : ∀ i ∈ A, i ∉ B
  same : ∀ u v, Jn e A u v ↔ Jn e B u v
  st : Jn e A s t
theorem Fo.same {A B C : List Nat} (hA : Fo e n (C ++ A)) (hB : Fo e n B) (h : ∀ u v, Jn e A u v ↔ Jn e B u v) : Fo e n (C ++ B) := by
  have hin : In e n (C ++ B) := fun i hi => by
    rcases List.mem_append.1 hi with hi | hi
    · exact hA.1 i (List.mem_append_left _ hi)
    · exact hB.1 i hi
  have hA0 : Fo e n A := hA.sub (List.sublist_append_right ..)
  have key : ∀ {A B : List Nat}, (∀ u v, Jn e A u v ↔ Jn e B u v) → ∀ {u v}, Jn e (C ++ A) u v → Jn e (C ++ B) u v := fun {A B} h {u v} hj => jn_least (Jn.eqv _) (fun i hi => by
    rcases List.mem_append.1 hi with hi | hi
    · exact jn_mem (List.mem_append_left _ hi)
    · exact jn_mono (fun j hj => List.mem_append_right _ hj) ((h _ _).1 (jn_mem hi))) hj
  have h1 : cp e n (C ++ A) = cp e n (C ++ B) := cp_congr fun u v => ⟨key h, key fun u v => (h u v).symm⟩
  have h2 : cp e n A = cp e n B := cp_congr h
  have h3 := hA.2
  have h4 := hA0.2
  have h5 := hB.2
  rw [List.length_append] at h3
  exact ⟨hin, by rw [← h1, List.length_append]; omega⟩
theorem lehman (he : Ends e n m) (hz : e m = (s, t)) (hs : s < n) (ht : t < n) (hw : Sw e s t m (List.range m) [] true) : ∃ A B, Pair e n m s t A B := by
  have he1 : Ends e n (m + 1) := fun i hi => by
    by_cases c : i < m
    · exact he i c
    · obtain rfl : i = m := by omega
      rw [hz]; exact ⟨hs, ht⟩
  by_cases c : ∃ P, Opt e n (m + 1) P ∧ ∀ b, m ∉ P b
  · obtain ⟨P, hP, hm⟩ := c
    obtain ⟨K, k1, k2, k3, k4⟩ := loose_list he1 hP
    have hlt : ∀ b, ∀ i ∈ K b, i < m := fun b i hi => by
      have h1 := (k1 b).subset hi
      have := hP.lt b i h1
      have : i ≠ m := fun k => hm b (k ▸ h1)
      omega
    refine ⟨K true, K false, (hP.fo true).sub (k1 true), (hP.fo false).sub (k1 false), hlt true, hlt false, fun i hi hi2 => hP.dj true i ((k1 true).subset hi) ((k1 false).subset hi2), k4, ?_⟩
    have := k3 m ⟨P, .base, by omega, hm⟩ true
    rw [hz] at this
    exact this
  · exfalso
    obtain ⟨P, hP⟩ := opt_ex e n (m + 1)
    obtain ⟨K, k1, k2, k3, k4⟩ := loose_list he1 hP
    have hlo : ¬ Lo e n (m + 1) P m := fun ⟨Q, hQ, _, hn⟩ => c ⟨Q, hQ.opt hP, hn⟩
    have hcov : ∃ b, m ∈ P b := Classical.byContradiction fun k => c ⟨P, hP, fun b hb => k ⟨b, hb⟩⟩
    obtain ⟨b, hb⟩ := hcov
    have hsame : ∀ u v, Jn e (K (!b)) u v ↔ Jn e (K b) u v := fun u v => by
      cases b
      · exact k4 u v
      · exact (k4 u v).symm
    obtain ⟨d, hd⟩ : ∃ d : Nat → Bool, ∀ i, d i = true ↔ i ∈ K true ∨ i ∈ K false := ⟨fun i => decide (i ∈ K true ∨ i ∈ K false), fun i => by simp⟩
    have hdK : ∀ b i, i ∈ P b → (d i = true ↔ i ∈ K b) := fun b i hi => by
      rw [hd]
      cases b
      · exact ⟨fun h => h.resolve_left fun k => hP.dj false i hi ((k1 true).subset k), .inr⟩
      · exact ⟨fun h => h.resolve_right fun k => hP.dj true i hi ((k1 false).subset k), .inl⟩
    have part : ∀ b, (P b).Perm ((P b).filter (fun i => !d i) ++ K b) := fun b => by
      have hnd := (hP.fo b).nodup
      refine (List.perm_ext_iff_of_nodup hnd (List.nodup_append.2 ⟨hnd.sublist List.filter_sublist, hnd.sublist (k1 b), fun i hi j hj hij => ?_⟩)).2 fun i => ?_
      · subst hij
        have h1 := List.mem_filter.1 hi
        rw [(hdK b i h1.1).2 hj] at h1
        cases h1.2
      · rw [List.mem_append, List.mem_filter]
        constructor
        · intro hi
          by_cases c : d i = true
          · exact .inr ((hdK b i hi).1 c)
          · exact .inl ⟨hi, by simp [c]⟩
        · rintro (h | h)
          · exact h.1
          · exact (k1 b).subset h
    obtain ⟨A0, hA0⟩ : ∃ A0, A0 = (P b).filter (fun i => !d i) := ⟨_, rfl⟩
    obtain ⟨B, hB⟩ : ∃ B, B = (P (!b)).filter (fun i => !d i) := ⟨_, rfl⟩
    have hmd : d m = false := by
      cases h : d m
      · rfl
      · exact absurd (k2 b m ((hdK b m hb).1 h)) hlo
    have hmA : m ∈ A0 := by rw [hA0]; exact List.mem_filter.2 ⟨hb, by rw [hmd]; rfl⟩
    have fA0 : Fo e n (A0 ++ K b) := by rw [hA0]; exact (hP.fo b).perm (part b)
    have fB0 : Fo e n (B ++ K (!b)) := by rw [hB]; exact (hP.fo (!b)).perm (part (!b))
    have fKb : Fo e n (K b) := (hP.fo b).sub (k1 b)
    have fB : Fo e n (B ++ K b) := Fo.same fB0 fKb hsame
    have fA : Fo e n (m :: (A0.erase m ++ K b)) := fA0.perm ((List.perm_cons_erase hmA).append_right _)
    have hme := he1 m (by omega)
    have hnL : ¬ Jn e (K b) (e m).1 (e m).2 := fun k => fA.head (jn_mono (fun j hj => List.mem_append_right _ hj) k)
    refine (cut_wins (n := n) hz m (List.length_range) List.nodup_range).2 (⟨fun i hi => absurd hi List.not_mem_nil, fun i hi => ?_, fA, ?_⟩ : CC e n m (List.range m) [] (A0.erase m) B (K b)) hw
    · have hi := List.mem_range.1 hi
      by_cases c : Lo e n (m + 1) P i
      · exact .inr (.inr (k3 i c b))
      · have hcov : ∃ b', i ∈ P b' := Classical.byContradiction fun k => c ⟨P, .base, by omega, fun b' hb' => k ⟨b', hb'⟩⟩
        obtain ⟨b', hb'⟩ := hcov
        have hdi : d i = false := by
          cases h : d i
          · rfl
          · exact absurd (k2 b' i ((hdK b' i hb').1 h)) c
        by_cases k : b' = b
        · subst k
          refine .inl ((List.mem_erase_of_ne (by omega)).2 ?_)
          rw [hA0]; exact List.mem_filter.2 ⟨hb', by rw [hdi]; rfl⟩
        · have k : b' = !b := by revert k; cases b' <;> cases b <;> simp
          subst k
          refine .inr (.inl ?_)
          rw [hB]; exact List.mem_filter.2 ⟨hb', by rw [hdi]; rfl⟩
    · by_cases c : Jn e (B ++ K b) (e m).1 (e m).2
      · obtain ⟨b', hb', hn'⟩ := spare_one fB c hnL
        exact .inr ⟨b', hb', (fo_cons hme).2 ⟨fB.sub ((List.erase_sublist).append (List.Sublist.refl _)), hn'⟩⟩
      · exact .inl ((fo_cons hme).2 ⟨fB, c⟩)
end Go.Wire

/-
  Wires as pairs of places: a wire made short; trees with and without a wire; two trees as lists of wires. (Plain.)
-/
namespace Go.Wire

abbrev Wr := Nat × Nat
theorem one_tst (t : Nat) : (1 : Nat).testBit t = decide (t = 0) := by
  cases t with
  | zero => rfl
  | succ t =>
    rw [Nat.testBit_lt_two_pow (show 1 < 2 ^ (t + 1) by have := Nat.two_pow_pos t; omega)]
    simp
theorem lb_map {α : Type} (e : α → Nat × Nat) : ∀ (l : List α) (u : Nat), lb (id : Wr → Wr) (l.map e) u = lb e l u
  | [], _ => rfl
  | i :: l, u => by
    have h1 := lb_map e l u
    have h2 := lb_map e l (e i).1
    have h3 := lb_map e l (e i).2
    show (if lb id (l.map e) u = max (lb id (l.map e) (e i).1) (lb id (l.map e) (e i).2) then min (lb id (l.map e) (e i).1) (lb id (l.map e) (e i).2) else lb id (l.map e) u) = _
    rw [h1, h2, h3]; rfl
theorem jn_map {α : Type} (e : α → Nat × Nat) {l : List α} {u v : Nat} : Jn (id : Wr → Wr) (l.map e) u v ↔ Jn e l u v := by
  unfold Jn; rw [lb_map, lb_map]
theorem fo_map {α : Type} (e : α → Nat × Nat) {n : Nat} {l : List α} : Fo (id : Wr → Wr) n (l.map e) ↔ Fo e n l := by
  unfold Fo
  refine and_congr ⟨fun h i hi => h (e i) (List.mem_map.2 ⟨i, hi, rfl⟩), fun h w hw => ?_⟩ ?_
  · obtain ⟨i, hi, rfl⟩ := List.mem_map.1 hw
    exact h i hi
  · rw [List.length_map]
    have : cp (id : Wr → Wr) n (l.map e) = cp e n l := List.countP_congr fun u _ => by rw [lb_map]
    rw [this]

/-- What a place becomes when b becomes a. -/
def plc (a b x : Nat) : Nat := if x = b then a else if b < x then x - 1 else x
def cw (a b : Nat) (w : Wr) : Wr := (min (plc a b w.1) (plc a b w.2), max (plc a b w.1) (plc a b w.2))
theorem plc_eq {a b u v : Nat} (hab : a < b) : plc a b u = plc a b v ↔ u = v ∨ (u = a ∧ v = b) ∨ (u = b ∧ v = a) := by
  unfold plc
  split <;> split <;> (try split) <;> (try split) <;> omega
theorem plc_sur {a b : Nat} (hab : a < b) (y : Nat) : ∃ u, plc a b u = y := by
  by_cases h : y < b
  · exact ⟨y, by unfold plc; rw [if_neg (by omega), if_neg (by omega)]⟩
  · exact ⟨y + 1, by unfold plc; rw [if_neg (by omega), if_pos (by omega)]; omega⟩
theorem plc_lt {a b n x : Nat} (hab : a < b) (hb : b < n) (hx : x < n) : plc a b x < n - 1 := by
  unfold plc
  split
  · omega
  · split <;> omega
theorem cw_lt {a b n : Nat} {w : Wr} (hab : a < b) (hb : b < n) (h : w.1 < n ∧ w.2 < n) : (cw a b w).1 < n - 1 ∧ (cw a b w).2 < n - 1 := by
  have h1 := plc_lt hab hb h.1
  have h2 := plc_lt hab hb h.2
  unfold cw
  exact ⟨by show min _ _ < _; omega, by show max _ _ < _; omega⟩
theorem jn_ends {l : List Wr} {a b : Nat} (w : Wr) : Jn id l (cw a b w).1 (cw a b w).2 ↔ Jn id l (plc a b w.1) (plc a b w.2) := by
  show Jn id l (min (plc a b w.1) (plc a b w.2)) (max (plc a b w.1) (plc a b w.2)) ↔ _
  rcases Nat.le_total (plc a b w.1) (plc a b w.2) with h | h
  · rw [Nat.min_eq_left h, Nat.max_eq_right h]
  · rw [Nat.min_eq_right h, Nat.max_eq_left h]
    exact ⟨Jn.symm, Jn.symm⟩
theorem jn_short {a b : Nat} (hab : a < b) {L : List Wr} {u v : Nat} : Jn id (L.map (cw a b)) (plc a b u) (plc a b v) ↔ Jn id (L ++ [(a, b)]) u v := by
  have hw : Jn (id : Wr → Wr) (L ++ [(a, b)]) a b := jn_mem (e := (id : Wr → Wr)) (i := (a, b)) (by simp)
  have hsame : ∀ {u v}, plc a b u = plc a b v → Jn (id : Wr → Wr) (L ++ [(a, b)]) u v := fun {u v} h => by
    rcases (plc_eq hab).1 h with rfl | ⟨rfl, rfl⟩ | ⟨rfl, rfl⟩
    · exact Jn.refl _ _
    · exact hw
    · exact hw.symm
  constructor
  · intro h
    refine jn_least (R := fun x y => ∀ u v, plc a b u = x → plc a b v = y → Jn (id : Wr → Wr) (L ++ [(a, b)]) u v) ⟨fun x u v hu hv => hsame (hu.trans hv.symm), fun h u v hu hv => (h v u hv hu).symm, fun {x y z} h1 h2 u v hu hv => ?_⟩ (fun w hw => ?_) h u v rfl rfl
    · obtain ⟨q, hq⟩ := plc_sur hab y
      exact (h1 u q hu hq).trans (h2 q v hq hv)
    · obtain ⟨x, hx, rfl⟩ := List.mem_map.1 hw
      have hj : Jn (id : Wr → Wr) (L ++ [(a, b)]) x.1 x.2 := jn_mem (e := (id : Wr → Wr)) (List.mem_append_left _ hx)
      show ∀ u v, plc a b u = min (plc a b x.1) (plc a b x.2) → plc a b v = max (plc a b x.1) (plc a b x.2) → _
      intro u v hu hv
      rcases Nat.le_total (plc a b x.1) (plc a b x.2) with h | h
      · rw [Nat.min_eq_left h] at hu
        rw [Nat.max_eq_right h] at hv
        exact (hsame hu).trans (hj.trans (hsame hv).symm)
      · rw [Nat.min_eq_right h] at hu
        rw [Nat.max_eq_left h] at hv
        exact (hsame hu).trans (hj.symm.trans (hsame hv).symm)
  · refine jn_least (R := fun u v => Jn id (L.map (cw a b)) (plc a b u) (plc a b v)) ⟨fun _ => rfl, Eq.symm, Eq.trans⟩ (fun w hw => ?_)
    rcases List.mem_append.1 hw with hw | hw
    · exact (jn_ends w).1 (jn_mem (e := (id : Wr → Wr)) (List.mem_map.2 ⟨w, hw, rfl⟩))
    · rw [List.mem_singleton.1 hw]
      show Jn id _ (plc a b a) (plc a b b)
      rw [(plc_eq hab).2 (.inr (.inl ⟨rfl, rfl⟩))]; rfl
theorem fo_short {a b n : Nat} (hab : a < b) (hb : b < n) : ∀ {L : List Wr}, In (id : Wr → Wr) n L → (Fo id (n - 1) (L.map (cw a b)) ↔ Fo id n (L ++ [(a, b)]))
  | [], _ => by
    refine ⟨fun _ => (fo_cons (e := (id : Wr → Wr)) (i := (a, b)) ⟨by show a < n; omega, hb⟩).2 ⟨Fo.nil n, fun h => ?_⟩, fun _ => Fo.nil _⟩
    have : a = b := h
    omega
  | w :: L, h => by
    have ih := fo_short hab hb h.tail
    have hw := h w (List.mem_cons_self ..)
    show Fo id (n - 1) (cw a b w :: L.map (cw a b)) ↔ Fo id n (w :: (L ++ [(a, b)]))
    refine (fo_cons (e := (id : Wr → Wr)) (i := cw a b w) (cw_lt hab hb hw)).trans (Iff.trans ?_ (fo_cons (e := (id : Wr → Wr)) hw).symm)
    refine and_congr ih (not_congr ?_)
    exact (jn_ends w).trans (jn_short hab)
/-- The wires that are left when one is made short. -/
def shW (a b : Nat) (W : List Wr) : List Wr := (W.filter fun w => decide (plc a b w.1 ≠ plc a b w.2)).map (cw a b)

/-- A tree on all places. -/
def treeB (n : Nat) (L : List Wr) : Bool := decide (cp id n L + L.length = n) && decide (L.length + 1 = n)
theorem treeB_iff {n : Nat} {L : List Wr} (h : In (id : Wr → Wr) n L) : treeB n L = true ↔ Fo id n L ∧ L.length + 1 = n := by
  rw [treeB, Bool.and_eq_true, decide_eq_true_eq, decide_eq_true_eq]
  exact ⟨fun k => ⟨⟨h, k.1⟩, k.2⟩, fun k => ⟨k.1.2, k.2⟩⟩
/-- How many choices of wires there are, with some chosen before. -/
def cS (P : List Wr → Bool) : List Wr → List Wr → Nat
  | [], L => if P L then 1 else 0
  | w :: W, L => cS P W L + cS P W (w :: L)
theorem cS_chosen {P : List Wr → Bool} (hP : ∀ {L L' : List Wr}, L.Perm L' → P L = P L') : ∀ (W : List Wr) {L L' : List Wr}, L.Perm L' → cS P W L = cS P W L'
  | [], L, L', h => by rw [cS, cS, hP h]
  | w :: W, L, L', h => by rw [cS, cS, cS_chosen hP W h, cS_chosen hP W (h.cons w)]
theorem cS_perm {P : List Wr → Bool} (hP : ∀ {L L' : List Wr}, L.Perm L' → P L = P L') {W W' : List Wr} (h : W.Perm W') : ∀ L, cS P W L = cS P W' L := by
  induction h with
  | nil => exact fun _ => rfl
  | cons x _ ih => exact fun L => by rw [cS, cS, ih, ih]
  | swap x y l =>
    intro L
    simp only [cS]
    rw [cS_chosen hP l (List.Perm.swap x y L)]
    omega
  | trans _ _ ih1 ih2 => exact fun L => (ih1 L).trans (ih2 L)
theorem treeB_perm {n : Nat} {L L' : List Wr} (h : L.Perm L') : treeB n L = treeB n L' := by
  rw [treeB, treeB, cp_congr (fun u v => jn_perm h), h.length_eq]
theorem cS_none {n : Nat} : ∀ {W L : List Wr}, In (id : Wr → Wr) n (W ++ L) → ¬ Fo id n L → cS (treeB n) W L = 0
  | [], L, h, hn => by
    rw [cS, if_neg]
    exact fun k => hn ((treeB_iff h).1 k).1
  | w :: W, L, h, hn => by
    rw [cS, cS_none h.tail hn, cS_none (L := w :: L) (fun x hx => h x (by
      rcases List.mem_append.1 hx with hx | hx
      · exact List.mem_cons_of_mem _ (List.mem_append_left _ hx)
      · rcases List.mem_cons.1 hx with rfl | hx
        · exact List.mem_cons_self ..
        · exact List.mem_cons_of_mem _ (List.mem_append_right _ hx))) (fun k => hn k.tail)]
theorem cS_short {a b n : Nat} (hab : a < b) (hb : b < n) : ∀ {W L : List Wr}, In (id : Wr → Wr) n (W ++ L) → cS (treeB n) W (L ++ [(a, b)]) = cS (treeB (n - 1)) (shW a b W) (L.map (cw a b))
  | [], L, h => by
    have hL : In (id : Wr → Wr) n L := h
    have h1 : In (id : Wr → Wr) n (L ++ [(a, b)]) := fun w hw => by
      rcases List.mem_append.1 hw with hw | hw
      · exact hL w hw
      · rw [List.mem_singleton.1 hw]; exact ⟨by show a < n; omega, hb⟩
    have h2 : In (id : Wr → Wr) (n - 1) (L.map (cw a b)) := fun w hw => by
      obtain ⟨x, hx, rfl⟩ := List.mem_map.1 hw
      exact cw_lt hab hb (hL x hx)
    have : treeB n (L ++ [(a, b)]) = treeB (n - 1) (L.map (cw a b)) := by
      rw [Bool.eq_iff_iff, treeB_iff h1, treeB_iff h2, fo_short hab hb hL, List.length_append, List.length_map]
      refine and_congr Iff.rfl ?_
      show L.length + 1 + 1 = n ↔ _
      omega
    rw [cS, this]; rfl
  | w :: W, L, h => by
    have hw := h w (List.mem_cons_self ..)
    have h2 : In (id : Wr → Wr) n (W ++ w :: L) := fun x hx => h x (by
      rcases List.mem_append.1 hx with hx | hx
      · exact List.mem_cons_of_mem _ (List.mem_append_left _ hx)
      · rcases List.mem_cons.1 hx with rfl | hx
        · exact List.mem_cons_self ..
        · exact List.mem_cons_of_mem _ (List.mem_append_right _ hx))
    have e1 := cS_short hab hb (W := W) (L := L) h.tail
    have e2 := cS_short hab hb (W := W) (L := w :: L) h2
    by_cases c : plc a b w.1 = plc a b w.2
    · have hs : shW a b (w :: W) = shW a b W := by
        unfold shW
        rw [List.filter_cons_of_neg (by simp [c])]
      rw [cS, hs, e1]
      have : cS (treeB n) W (w :: (L ++ [(a, b)])) = 0 := cS_none (fun x hx => by
        rcases List.mem_append.1 hx with hx | hx
        · exact h2 x (List.mem_append_left _ hx)
        · rcases List.mem_cons.1 hx with rfl | hx
          · exact hw
          · rcases List.mem_append.1 hx with hx | hx
            · exact h2 x (List.mem_append_right _ (List.mem_cons_of_mem _ hx))
            · rw [List.mem_singleton.1 hx]; exact ⟨by show a < n; omega, hb⟩) (fun k => by
        refine k.head ((jn_short (L := L) hab).1 ?_)
        show Jn id _ (plc a b w.1) (plc a b w.2)
        rw [c]; rfl)
      rw [this]; rfl
    · have hs : shW a b (w :: W) = cw a b w :: shW a b W := by
        unfold shW
        rw [List.filter_cons_of_pos (by simp [c])]; rfl
      rw [cS, hs, cS, e1]
      show _ + cS (treeB n) W ((w :: L) ++ [(a, b)]) = _
      rw [e2]; rfl
/-- The number of trees: without a wire, and with it made short. -/
theorem deletes {a b n : Nat} (hab : a < b) (hb : b < n) {W W' : List Wr} (hp : W.Perm ((a, b) :: W')) (hW : In (id : Wr → Wr) n W') : cS (treeB n) W [] = cS (treeB n) W' [] + cS (treeB (n - 1)) (shW a b W') [] := by
  rw [cS_perm (P := treeB n) (fun h => treeB_perm h) hp, cS]
  exact congrArg (cS (treeB n) W' [] + ·) (cS_short hab hb (W := W') (L := []) (fun w hw => hW w (by simpa using hw)))

/-- Two trees, as lists of wires. -/
structure PairL (n s t : Nat) (W A B C : List Wr) : Prop where
  sub : (A ++ (B ++ C)).Perm W
  fa : Fo (id : Wr → Wr) n A
  fb : Fo (id : Wr → Wr) n B
  same : ∀ u v, Jn (id : Wr → Wr) A u v ↔ Jn (id : Wr → Wr) B u v
  st : Jn (id : Wr → Wr) A s t
theorem rest_of_sub {l l' : List Nat} (hn : l.Nodup) (hs : ∀ i ∈ l, i ∈ l') (hn' : l'.Nodup) : (l ++ l'.filter fun i => decide (i ∉ l)).Perm l' := by
  refine (List.perm_ext_iff_of_nodup (List.nodup_append.2 ⟨hn, hn'.sublist List.filter_sublist, fun i hi j hj hij => ?_⟩) hn').2 fun i => ?_
  · subst hij
    exact of_decide_eq_true (List.mem_filter.1 hj).2 hi
  · rw [List.mem_append, List.mem_filter]
    constructor
    · rintro (h | h)
      · exact hs i h
      · exact h.1
    · intro h
      by_cases c : i ∈ l
      · exact .inl c
      · exact .inr ⟨h, decide_eq_true c⟩
theorem Pair.toL {e : Nat → Nat × Nat} {n m s t : Nat} {A B : List Nat} (h : Pair e n m s t A B) : ∃ C, PairL n s t ((List.range m).map e) (A.map e) (B.map e) C := by
  have hnd : (A ++ B).Nodup := List.nodup_append.2 ⟨h.fa.nodup, h.fb.nodup, fun i hi j hj hij => h.dj i hi (hij ▸ hj)⟩
  have hr := rest_of_sub hnd (l' := List.range m) (fun i hi => by
    rcases List.mem_append.1 hi with hi | hi
    · exact List.mem_range.2 (h.la i hi)
    · exact List.mem_range.2 (h.lb i hi)) List.nodup_range
  refine ⟨((List.range m).filter fun i => decide (i ∉ A ++ B)).map e, ?_, (fo_map e).2 h.fa, (fo_map e).2 h.fb, fun u v => (jn_map e).trans ((h.same u v).trans (jn_map e).symm), (jn_map e).2 h.st⟩
  rw [← List.append_assoc, ← List.map_append, ← List.map_append]
  exact hr.map e
theorem perm_lift {α β : Type} {f : α → β} {L K : List β} (h : L.Perm K) : ∀ I : List α, K = I.map f → ∃ J : List α, J.Perm I ∧ J.map f = L := by
  induction h with
  | nil => intro I hI; exact ⟨[], by rw [List.map_eq_nil_iff.1 hI.symm], rfl⟩
  | cons x _ ih =>
    intro I hI
    cases I with
    | nil => cases hI
    | cons i I =>
      rw [List.map_cons] at hI
      injection hI with h1 h2
      obtain ⟨J, h3, h4⟩ := ih I h2
      exact ⟨i :: J, h3.cons i, by rw [List.map_cons, h4, h1]⟩
  | swap x y l =>
    intro I hI
    cases I with
    | nil => cases hI
    | cons i I =>
      rw [List.map_cons] at hI
      injection hI with h1 h2
      cases I with
      | nil => cases h2
      | cons j I =>
        rw [List.map_cons] at h2
        injection h2 with h2 h3
        exact ⟨j :: i :: I, List.Perm.swap .., by rw [List.map_cons, List.map_cons, ← h1, ← h2, ← h3]⟩
  | trans _ _ ih1 ih2 =>
    intro I hI
    obtain ⟨J, h1, h2⟩ := ih2 I hI
    obtain ⟨M, h3, h4⟩ := ih1 J h2.symm
    exact ⟨M, h3.trans h1, h4⟩
theorem PairL.toI {e : Nat → Nat × Nat} {n m s t : Nat} {A B C : List Wr} (h : PairL n s t ((List.range m).map e) A B C) : ∃ A' B', Pair e n m s t A' B' ∧ A'.map e = A ∧ B'.map e = B := by
  obtain ⟨J, h1, h2⟩ := perm_lift h.sub _ rfl
  have h3 := List.map_eq_append_iff.1 h2
  obtain ⟨A', J2, rfl, rfl, h4⟩ := h3
  obtain ⟨B', C', rfl, rfl, rfl⟩ := List.map_eq_append_iff.1 h4
  have hnd := (h1.nodup_iff).2 List.nodup_range
  have hlt : ∀ i ∈ A' ++ (B' ++ C'), i < m := fun i hi => List.mem_range.1 (h1.mem_iff.1 hi)
  refine ⟨A', B', ⟨(fo_map e).1 h.fa, (fo_map e).1 h.fb, fun i hi => hlt i (List.mem_append_left _ hi), fun i hi => hlt i (List.mem_append_right _ (List.mem_append_left _ hi)), fun i hi hi2 => ?_, fun u v => (jn_map e).symm.trans ((h.same u v).trans (jn_map e)), (jn_map e).1 h.st⟩, rfl, rfl⟩
  exact (List.nodup_append.1 hnd).2.2 i hi i (List.mem_append_left _ hi2) rfl
theorem PairL.perm {n s t : Nat} {W W' A B C : List Wr} (h : PairL n s t W A B C) (hp : W.Perm W') : PairL n s t W' A B C := ⟨h.sub.trans hp, h.fa, h.fb, h.same, h.st⟩
/-- A wire of one tree is cut, and one of the other tree is made short. -/
theorem PairL.short {n s t a b : Nat} {W A B C : List Wr} (hab : a < b) (hb : b < n) (hn : In (id : Wr → Wr) n C) (sub : (A ++ (B ++ C)).Perm W) (fa : Fo (id : Wr → Wr) n (A ++ [(a, b)])) (fb : Fo (id : Wr → Wr) n (B ++ [(a, b)])) (same : ∀ u v, Jn (id : Wr → Wr) (A ++ [(a, b)]) u v ↔ Jn (id : Wr → Wr) (B ++ [(a, b)]) u v) (st : Jn (id : Wr → Wr) (A ++ [(a, b)]) s t) : PairL (n - 1) (plc a b s) (plc a b t) (shW a b W) (A.map (cw a b)) (B.map (cw a b)) (shW a b C) := by
  have key : ∀ {A : List Wr}, Fo (id : Wr → Wr) n (A ++ [(a, b)]) → A.filter (fun w => decide (plc a b w.1 ≠ plc a b w.2)) = A := fun {A} h => by
    refine List.filter_eq_self.2 fun w hw => decide_eq_true fun k => ?_
    have hp : (A ++ [(a, b)]).Perm (w :: (A.erase w ++ [(a, b)])) := (List.perm_cons_erase hw).append_right _
    refine (h.perm hp).head ((jn_short (L := A.erase w) hab).1 ?_)
    show Jn id _ (plc a b w.1) (plc a b w.2)
    rw [k]; rfl
  refine ⟨?_, (fo_short hab hb (fun w hw => fa.1 w (List.mem_append_left _ hw))).2 fa, (fo_short hab hb (fun w hw => fb.1 w (List.mem_append_left _ hw))).2 fb, fun x y => ?_, (jn_short hab).2 st⟩
  · have := (sub.filter fun w => decide (plc a b w.1 ≠ plc a b w.2)).map (cw a b)
    rw [List.filter_append, List.filter_append, key fa, key fb, List.map_append, List.map_append] at this
    exact this
  · obtain ⟨u, rfl⟩ := plc_sur hab x
    obtain ⟨v, rfl⟩ := plc_sur hab y
    rw [jn_short hab, jn_short hab]
    exact same u v
end Go.Wire

/-
  Plain: the games' wires as wires that join places; the number of trees as choices; two trees; who wins.
-/
namespace Go.Proofs.YtfphkpdobbffeaaDoor
open Go Go.AH Go.Wire
set_option maxRecDepth 100000
set_option maxHeartbeats 1000000

def eg (g : Gm) (i : Nat) : Nat × Nat := g.ws.getD i (0, 0)
theorem eg_ends {g : Gm} (hg : g.ok) : Wire.Ends (eg g) g.n g.ws.length := fun i hi => by
  have := hg.ends i hi
  exact ⟨by show (g.ws.getD i (0, 0)).1 < _; omega, this.2⟩
theorem eg_map (g : Gm) : (List.range g.ws.length).map (eg g) = g.ws := by
  refine List.ext_getElem (by simp) fun i h1 h2 => ?_
  rw [List.getElem_map, List.getElem_range, eg, List.getD_eq_getElem?_getD, List.getElem?_eq_getElem h2]; rfl
theorem root_fold {g : Gm} (hg : g.ok) : ∀ (l : List Nat), (∀ i ∈ l, i < g.ws.length) → ∀ u, u < 8 → root (((l.reverse).map Int.ofNat).foldl (joinF g) (aloneSt 8)) u = Wire.lb (eg g) l u
  | [], _, u, hu => alone_root hu
  | i :: l, h, u, hu => by
    have he := hg.ends i (h i (List.mem_cons_self ..))
    have h8 := hg.n8
    have ih := root_fold hg l fun j hj => h j (List.mem_cons_of_mem _ hj)
    have hG : Grp (((l.reverse).map Int.ofNat).foldl (joinF g) (aloneSt 8)) := Grp.fold hg _ _ Grp.alone fun y hy => by
      obtain ⟨j, hj, rfl⟩ := List.mem_map.1 hy
      exact h j (List.mem_cons_of_mem _ (List.mem_reverse.1 hj))
    rw [List.reverse_cons, List.map_append, List.foldl_append]
    show root (joinL _ (g.ws.getD i (0, 0)).1 (g.ws.getD i (0, 0)).2) u = _
    rw [root_joinL hG (by omega) (by omega) u hu, ih u hu, ih _ (show (g.ws.getD i (0, 0)).1 < 8 by omega), ih _ (show (g.ws.getD i (0, 0)).2 < 8 by omega)]
    rfl
theorem memN_lt {k n : Nat} (hk : k ≤ 10) (hn : n < 2 ^ k) {i : Nat} (hi : i ∈ memN n) : i < k := lt_len hn (List.mem_filter.1 hi).2
theorem memN_mem {n i : Nat} (hn : n < 1024) : i ∈ memN n ↔ n.testBit i = true := by
  rw [memN, List.mem_filter, List.mem_range]
  exact ⟨fun h => h.2, fun h => ⟨lt_len (k := 10) hn h, h⟩⟩
theorem memN_nodup (n : Nat) : (memN n).Nodup := List.Nodup.sublist List.filter_sublist List.nodup_range
theorem ws1024 {g : Gm} (hg : g.ok) : 2 ^ g.ws.length ≤ 1024 := Nat.pow_le_pow_right (by omega) hg.len
theorem root_lb {g : Gm} (hg : g.ok) {a : Nat} (ha : a < 2 ^ g.ws.length) {u : Nat} (hu : u < 8) : root (keptL g a) u = Wire.lb (eg g) (memN a).reverse u := by
  rw [← root_fold hg (memN a).reverse (fun i hi => memN_lt hg.len ha (List.mem_reverse.1 hi)) u hu, List.reverse_reverse]; rfl
theorem root_jn {g : Gm} (hg : g.ok) {a : Nat} (ha : a < 2 ^ g.ws.length) {u v : Nat} (hu : u < 8) (hv : v < 8) : root (keptL g a) u = root (keptL g a) v ↔ Wire.Jn (eg g) (memN a) u v := by
  rw [root_lb hg ha hu, root_lb hg ha hv]
  exact jn_perm (List.reverse_perm _)
theorem comps_cp {g : Gm} (hg : g.ok) {a : Nat} (ha : a < 2 ^ g.ws.length) : comps (keptL g a) g.n = cp (eg g) g.n (memN a) := by
  rw [← cp_congr (l := (memN a).reverse) (fun u v => jn_perm (List.reverse_perm _))]
  have h8 := hg.n8
  refine List.countP_congr fun u hu => ?_
  have := List.mem_range.1 hu
  rw [root_lb hg ha (by omega)]
theorem eg_in {g : Gm} (hg : g.ok) {a : Nat} (ha : a < 2 ^ g.ws.length) : In (eg g) g.n (memN a) := fun i hi => eg_ends hg i (memN_lt hg.len ha hi)
theorem acy_fo {g : Gm} (hg : g.ok) {a : Nat} (ha : a < 2 ^ g.ws.length) : acyF g (aloneSt 8) (mem a) = true ↔ Fo (eg g) g.n (memN a) := by
  have h := (acy_comps hg (mem a) (aloneSt 8) Grp.alone fun y hy => (mem_lt hg.len ha hy).2).2
  rw [show (mem a).foldl (joinF g) (aloneSt 8) = keptL g a from rfl, comps_alone hg.n8, comps_cp hg ha, show (mem a).length = (memN a).length by simp [mem]] at h
  rw [h]
  exact ⟨fun k => ⟨eg_in hg ha, k⟩, fun k => k.2⟩
theorem tree_full {g : Gm} (hg : g.ok) {a : Nat} (ha : a < 2 ^ g.ws.length) : isTreeB g a (2 ^ g.n - 1) = true ↔ Fo (eg g) g.n (memN a) ∧ (memN a).length + 1 = g.n := by
  have h2 := hg.n2
  have hpf := pop_full g.n hg.n8
  have hG : Grp (keptL g a) := Grp.fold hg (mem a) _ Grp.alone fun y hy => (mem_lt hg.len ha hy).2
  have hco := comps_one hG (n := g.n) (by omega) hg.n8
  rw [isTreeB, Bool.and_eq_true, Bool.and_eq_true, decide_eq_true_eq, decide_eq_true_eq, acy_fo hg ha, hpf]
  constructor
  · rintro ⟨⟨h3, h4⟩, h5⟩
    exact ⟨h5, by show pop a + 1 = _; omega⟩
  · rintro ⟨h5, h6⟩
    have h7 : pop a + 1 = g.n := h6
    have h8 := h5.2
    refine ⟨⟨places_all hg ha (hco.1 ?_), by omega⟩, h5⟩
    rw [comps_cp hg ha]; omega
/-- The number of trees, as choices of wires. -/
theorem memN_add {k a : Nat} (hk : k < 10) (ha : a < 2 ^ k) : memN (2 ^ k + a) = memN a ++ [k] := by
  have hb : ∀ i, (2 ^ k + a).testBit i = (decide (i = k) || a.testBit i) := fun i => by
    have h := Nat.testBit_two_pow_mul_add 1 ha i
    rw [Nat.mul_one] at h
    rw [h]
    by_cases h1 : i < k
    · rw [if_pos h1, decide_eq_false (by omega)]; rfl
    · rw [if_neg h1]
      have : a.testBit i = false := Nat.testBit_lt_two_pow (Nat.lt_of_lt_of_le ha (Nat.pow_le_pow_right (by omega) (by omega)))
      rw [this, Bool.or_false, Wire.one_tst]
      exact decide_eq_decide.2 (by omega)
  have hs : (List.range 10).filter (2 ^ k + a).testBit = (List.range (k + 1)).filter (2 ^ k + a).testBit := range_filter _ 10 (by omega) fun i hi => by
    rw [hb, decide_eq_false (by omega), Bool.false_or]
    exact Nat.testBit_lt_two_pow (Nat.lt_of_lt_of_le ha (Nat.pow_le_pow_right (by omega) (by omega)))
  have hs2 : (List.range 10).filter a.testBit = (List.range k).filter a.testBit := range_filter _ 10 (by omega) fun i hi => Nat.testBit_lt_two_pow (Nat.lt_of_lt_of_le ha (Nat.pow_le_pow_right (by omega) hi))
  rw [memN, memN, hs, hs2, List.range_succ, List.filter_append]
  congr 1
  · refine List.filter_congr fun i hi => ?_
    have := List.mem_range.1 hi
    rw [hb, decide_eq_false (by omega), Bool.false_or]
  · rw [List.filter_cons_of_pos (by rw [hb, decide_eq_true rfl]; rfl)]; rfl
theorem cnt_choices (e : Nat → Nat × Nat) (P : List Wr → Bool) : ∀ k, k ≤ 10 → ∀ L, (List.range (2 ^ k)).countP (fun a => P ((memN a).map e ++ L)) = cS P (((List.range k).reverse).map e) L
  | 0, _, L => by
    show [0].countP (fun a => P ((memN a).map e ++ L)) = if P L then 1 else 0
    rw [List.countP_cons, List.countP_nil, memN_zero]
    simp
  | k + 1, hk, L => by
    have ih := cnt_choices e P k (by omega)
    rw [show 2 ^ (k + 1) = 2 ^ k + 2 ^ k by rw [Nat.pow_succ]; omega, List.range_add, List.countP_append, List.countP_map, ih L, List.range_succ, List.reverse_append]
    show _ = cS P (((List.range k).reverse).map e) L + cS P (((List.range k).reverse).map e) (e k :: L)
    rw [← ih (e k :: L)]
    congr 1
    refine List.countP_congr fun a ha => ?_
    have := List.mem_range.1 ha
    show P ((memN (2 ^ k + a)).map e ++ L) = true ↔ _
    rw [memN_add (by omega) this, List.map_append, List.append_assoc]; rfl
theorem cnt_tau {g : Gm} (hg : g.ok) : cntT g (2 ^ g.ws.length) = cS (treeB g.n) g.ws [] := by
  have h1 := cnt_choices (eg g) (treeB g.n) g.ws.length hg.len []
  have h2 : cS (treeB g.n) (((List.range g.ws.length).reverse).map (eg g)) [] = cS (treeB g.n) g.ws [] := cS_perm (fun h => treeB_perm h) (by
    have := (List.reverse_perm (List.range g.ws.length)).map (eg g)
    rw [eg_map] at this
    exact this) []
  rw [← h2, ← h1]
  refine List.countP_congr fun a ha => ?_
  have ha := List.mem_range.1 ha
  have hin : In (id : Wr → Wr) g.n ((memN a).map (eg g) ++ []) := fun w hw => by
    rw [List.append_nil] at hw
    obtain ⟨i, hi, rfl⟩ := List.mem_map.1 hw
    exact eg_in hg ha i hi
  rw [tree_full hg ha, treeB_iff hin, List.append_nil, fo_map, List.length_map]
/-- Who wins, as a game with wires. -/
theorem memN_off {f i : Nat} (hf : f < 1024) (hi : i < 10) : memN (offN f i) = (memN f).erase i := by
  rw [List.Nodup.erase_eq_filter (memN_nodup f), memN, memN, List.filter_filter]
  refine List.filter_congr fun j _ => ?_
  rw [offN_bit hf hi, Bool.and_comm]
  congr 1
  by_cases h : j = i <;> simp [h]
theorem joined_jn {g : Gm} (hg : g.ok) {k : Nat} (hk : k < 2 ^ g.ws.length) : joinedB g k = true ↔ Wire.Jn (eg g) (memN k) g.s g.t := by
  have h8 := hg.n8
  have h1 := hg.s
  have h2 := hg.t
  rw [joinedB, decide_eq_true_eq]
  exact root_jn hg hk (by omega) (by omega)
theorem WR_Sw {g : Gm} (hg : g.ok) : ∀ n f k c, pop f = n → f < 2 ^ g.ws.length → k < 2 ^ g.ws.length → (WR g n f k c = true ↔ Sw (eg g) g.s g.t n (memN f) (memN k) c) := by
  have hp := ws1024 hg
  intro n
  induction n with
  | zero => exact fun f k c _ _ hk => joined_jn hg hk
  | succ n ih =>
    intro f k c hn hf hk
    have h0 : f ≠ 0 := fun h => by
      subst h
      have h0 : pop 0 = 0 := by decide
      omega
    have hoff : ∀ i ∈ memN f, pop (offN f i) = n ∧ offN f i < 2 ^ g.ws.length ∧ k ||| 2 ^ i < 2 ^ g.ws.length := fun i hi => by
      have h1 := off_ok f (by omega) i hi
      have h2 := memN_lt hg.len hf hi
      exact ⟨by omega, by omega, or_lt hk ((Nat.pow_lt_pow_iff_right (by omega)).2 h2)⟩
    rw [WR, if_neg h0]
    cases c
    · rw [Bool.bne_false, List.any_eq_true]
      show _ ↔ ∃ i ∈ memN f, Sw (eg g) g.s g.t n ((memN f).erase i) (i :: memN k) true
      constructor
      · rintro ⟨w, hw, h⟩
        obtain ⟨i, hi, rfl⟩ := List.mem_map.1 hw
        obtain ⟨h1, h2, h3⟩ := hoff i hi
        have h : WR g n (offN f i) (k ||| 2 ^ i) true = true := by simpa using h
        refine ⟨i, hi, ?_⟩
        rw [ih _ _ _ h1 h2 h3, memN_off (by omega) (by have := memN_lt hg.len hf hi; have := hg.len; omega)] at h
        refine Sw.kept (fun j hj => ?_) h
        rw [memN_mem (by omega), or_bit] at hj
        rw [List.mem_cons, memN_mem (by omega)]
        simp only [Bool.or_eq_true, decide_eq_true_eq] at hj
        exact hj.symm
      · rintro ⟨i, hi, h⟩
        obtain ⟨h1, h2, h3⟩ := hoff i hi
        refine ⟨(i : Int), List.mem_map.2 ⟨i, hi, rfl⟩, ?_⟩
        show (WR g n (offN f i) (k ||| 2 ^ i) true != false) = true
        rw [Bool.bne_false, ih _ _ _ h1 h2 h3, memN_off (by omega) (by have := memN_lt hg.len hf hi; have := hg.len; omega)]
        refine Sw.kept (fun j hj => ?_) h
        rw [memN_mem (by omega), or_bit]
        rw [List.mem_cons, memN_mem (by omega)] at hj
        simp only [Bool.or_eq_true, decide_eq_true_eq]
        exact hj.symm
    · rw [Bool.bne_true, Bool.not_eq_true', List.any_eq_false]
      show _ ↔ ∀ i ∈ memN f, Sw (eg g) g.s g.t n ((memN f).erase i) (memN k) false
      constructor
      · intro h i hi
        obtain ⟨h1, h2, h3⟩ := hoff i hi
        have h4 := h (i : Int) (List.mem_map.2 ⟨i, hi, rfl⟩)
        have h4 : WR g n (offN f i) k false = true := by simpa using h4
        rw [ih _ _ _ h1 h2 hk, memN_off (by omega) (by have := memN_lt hg.len hf hi; have := hg.len; omega)] at h4
        exact h4
      · intro h w hw
        obtain ⟨i, hi, rfl⟩ := List.mem_map.1 hw
        obtain ⟨h1, h2, h3⟩ := hoff i hi
        have h4 := h i hi
        rw [← memN_off (by omega) (by have := memN_lt hg.len hf hi; have := hg.len; omega), ← ih _ _ _ h1 h2 hk] at h4
        show ¬ (WR g n (offN f i) k false != true) = true
        rw [h4]; simp
theorem W_Sw {g : Gm} (hg : g.ok) {f k : Nat} (c : Bool) (hf : f < 2 ^ g.ws.length) (hk : k < 2 ^ g.ws.length) : W g f k c = true ↔ Sw (eg g) g.s g.t (memN f).length (memN f) (memN k) c := by
  rw [W_WR hg (pop f) f k c (Nat.le_refl _) hf hk, WR_Sw hg (pop f) f k c rfl hf hk]; rfl
/-! Two trees. -/
theorem lone_lb {e : Nat → Nat × Nat} {l : List Nat} {u v : Nat} (h : ∀ i ∈ l, (e i).1 ≠ u ∧ (e i).2 ≠ u) (hj : Wire.Jn e l v u) : v = u := by
  have := jn_least (R := fun x y => x = y ∨ (x ≠ u ∧ y ≠ u)) ⟨fun _ => .inl rfl, fun h => by omega, fun h k => by omega⟩ (fun i hi => .inr (h i hi)) hj
  omega
theorem dec_jn {e : Nat → Nat × Nat} {A : List Nat} {x s : Nat} (h : decide (Wire.lb e A x = Wire.lb e A s) = true) : Wire.Jn e A x s := by
  show Wire.lb e A x = Wire.lb e A s
  exact of_decide_eq_true h
/-- The wires that join what is joined to s. -/
theorem at_s {e : Nat → Nat × Nat} {A : List Nat} {s u : Nat} (h : Wire.Jn e A u s) : Wire.Jn e (A.filter fun i => decide (Wire.lb e A (e i).1 = Wire.lb e A s)) u s := by
  have := jn_least (R := fun x y => (Wire.Jn e A x s ∧ Wire.Jn e A y s ∧ Wire.Jn e (A.filter fun i => decide (Wire.lb e A (e i).1 = Wire.lb e A s)) x y) ∨ (¬ Wire.Jn e A x s ∧ ¬ Wire.Jn e A y s)) ⟨fun x => by
      by_cases c : Wire.Jn e A x s
      · exact .inl ⟨c, c, rfl⟩
      · exact .inr ⟨c, c⟩, fun h => by
      rcases h with ⟨h1, h2, h3⟩ | ⟨h1, h2⟩
      · exact .inl ⟨h2, h1, h3.symm⟩
      · exact .inr ⟨h2, h1⟩, fun h k => by
      rcases h with ⟨h1, h2, h3⟩ | ⟨h1, h2⟩
      · rcases k with ⟨k1, k2, k3⟩ | ⟨k1, k2⟩
        · exact .inl ⟨h1, k2, h3.trans k3⟩
        · exact absurd h2 k1
      · rcases k with ⟨k1, k2, k3⟩ | ⟨k1, k2⟩
        · exact absurd k1 h2
        · exact .inr ⟨h1, k2⟩⟩ (l := A) (fun i hi => by
      have hij : Wire.Jn e A (e i).1 (e i).2 := jn_mem hi
      by_cases c : Wire.Jn e A (e i).1 s
      · exact .inl ⟨c, hij.symm.trans c, jn_mem (List.mem_filter.2 ⟨hi, decide_eq_true c⟩)⟩
      · exact .inr ⟨c, fun k => c (hij.trans k)⟩) h
  rcases this with ⟨_, _, h3⟩ | ⟨h1, _⟩
  · exact h3
  · exact absurd h h1
def bm : List Nat → Nat
  | [] => 0
  | i :: l => bm l ||| 2 ^ i
theorem bm_bit (j : Nat) : ∀ l : List Nat, (bm l).testBit j = decide (j ∈ l)
  | [] => by simp [bm]
  | i :: l => by
    rw [bm, or_bit, bm_bit j l, Bool.eq_iff_iff]
    simp only [Bool.or_eq_true, decide_eq_true_eq, List.mem_cons]
    exact Or.comm
theorem bm_lt {m : Nat} : ∀ {l : List Nat}, (∀ i ∈ l, i < m) → bm l < 2 ^ m
  | [], _ => Nat.pow_pos (by omega)
  | i :: l, h => or_lt (bm_lt fun j hj => h j (List.mem_cons_of_mem _ hj)) ((Nat.pow_lt_pow_iff_right (by omega)).2 (h i (List.mem_cons_self ..)))
theorem bm_perm {l : List Nat} (hn : l.Nodup) (h : ∀ i ∈ l, i < 10) : (memN (bm l)).Perm l := by
  refine (List.perm_ext_iff_of_nodup (memN_nodup _) hn).2 fun i => ?_
  rw [memN_mem (bm_lt (m := 10) h), bm_bit, decide_eq_true_eq]
theorem end_iff {g : Gm} {a u : Nat} (ha : a < 1024) : (placesN g a).testBit u = true ↔ ∃ i ∈ memN a, (eg g i).1 = u ∨ (eg g i).2 = u := by
  rw [places_any, List.any_eq_true]
  constructor
  · rintro ⟨y, hy, h⟩
    obtain ⟨i, hi, rfl⟩ := List.mem_map.1 hy
    refine ⟨i, hi, ?_⟩
    simpa [endOf, eg] using h
  · rintro ⟨i, hi, h⟩
    exact ⟨(i : Int), List.mem_map.2 ⟨i, hi, rfl⟩, by simpa [endOf, eg] using h⟩
/-- A forest on one group of places is a tree on them. -/
theorem tree_group {g : Gm} (hg : g.ok) {a : Nat} (ha : a < 2 ^ g.ws.length) (hfo : Fo (eg g) g.n (memN a)) {s : Nat} (hsp : (placesN g a).testBit s = true) (hall : ∀ u, (placesN g a).testBit u = true → Wire.Jn (eg g) (memN a) u s) : isTreeB g a (placesN g a) = true := by
  have hp := ws1024 hg
  have h8 := hg.n8
  have hpl := places_ltn hg ha
  have hc : cp (eg g) g.n (memN a) + pop (placesN g a) = g.n + 1 := by
    have h1 := countP_split (fun u => decide (Wire.lb (eg g) (memN a) u = u)) (placesN g a).testBit (List.range g.n)
    have h2 : (List.range g.n).countP (fun u => decide (Wire.lb (eg g) (memN a) u = u) && (placesN g a).testBit u) = 1 := by
      rw [← show (if Wire.lb (eg g) (memN a) s < g.n then 1 else 0) = 1 from if_pos (Nat.lt_of_le_of_lt (lb_le _ _) (lt_len hpl hsp)), ← cnt_is (Wire.lb (eg g) (memN a) s) g.n]
      refine List.countP_congr fun u hu => ?_
      simp only [Bool.and_eq_true, decide_eq_true_eq]
      constructor
      · rintro ⟨k1, k2⟩
        have k3 : Wire.lb (eg g) (memN a) u = Wire.lb (eg g) (memN a) s := hall u k2
        omega
      · intro k
        subst k
        refine ⟨lb_lb _ _, ?_⟩
        cases hb : (placesN g a).testBit (Wire.lb (eg g) (memN a) s) with
        | true => rfl
        | false =>
          have hl : s = Wire.lb (eg g) (memN a) s := lone_lb (e := eg g) (l := memN a) (fun i hi => by
            constructor
            · intro h; rw [(end_iff (by omega)).2 ⟨i, hi, .inl h⟩] at hb; cases hb
            · intro h; rw [(end_iff (by omega)).2 ⟨i, hi, .inr h⟩] at hb; cases hb) (lb_lb (e := eg g) (memN a) s).symm
          rw [← hl, hsp] at hb; cases hb
    have h3 : (List.range g.n).countP (fun u => decide (Wire.lb (eg g) (memN a) u = u) && !(placesN g a).testBit u) = (List.range g.n).countP (fun u => !(placesN g a).testBit u) := by
      refine List.countP_congr fun u hu => ?_
      simp only [Bool.and_eq_true, decide_eq_true_eq, Bool.not_eq_true']
      refine ⟨fun k => k.2, fun k => ⟨?_, k⟩⟩
      exact (lone_lb (e := eg g) (l := memN a) (fun i hi => by
        constructor
        · intro h; rw [(end_iff (by omega)).2 ⟨i, hi, .inl h⟩] at k; cases k
        · intro h; rw [(end_iff (by omega)).2 ⟨i, hi, .inr h⟩] at k; cases k) (lb_lb (e := eg g) (memN a) u))
    have h4 := List.length_eq_countP_add_countP (l := List.range g.n) (placesN g a).testBit
    rw [pop_cnt (by omega) hpl, List.length_range] at h4
    have h5 : (List.range g.n).countP (fun u => decide ¬ (placesN g a).testBit u = true) = (List.range g.n).countP (fun u => !(placesN g a).testBit u) := List.countP_congr fun u _ => by simp
    rw [h5] at h4
    rw [cp, h1, h2, h3]; omega
  have h6 := hfo.2
  have h7 : (memN a).length = pop a := rfl
  rw [isTreeB, (acy_fo hg ha).2 hfo, decide_eq_true rfl, decide_eq_true (by omega)]; rfl
theorem pair_trees {g : Gm} (hg : g.ok) (hst : g.s ≠ g.t) {A B : List Nat} (h : Pair (eg g) g.n g.ws.length g.s g.t A B) : treesF g (alT g) ≠ none := by
  have hp := ws1024 hg
  have h10 := hg.len
  have key : ∀ {A : List Nat}, Fo (eg g) g.n A → (∀ i ∈ A, i < g.ws.length) → Wire.Jn (eg g) A g.s g.t → ∃ a, a < 2 ^ g.ws.length ∧ (∀ i, a.testBit i = true → i ∈ A) ∧ (∀ u, (placesN g a).testBit u = true ↔ Wire.Jn (eg g) A u g.s) ∧ isTreeB g a (placesN g a) = true := fun {A} fa la st => by
    obtain ⟨A1, hA1⟩ : ∃ A1, A1 = A.filter fun i => decide (Wire.lb (eg g) A (eg g i).1 = Wire.lb (eg g) A g.s) := ⟨_, rfl⟩
    have f1 : Fo (eg g) g.n A1 := fa.sub (hA1 ▸ List.filter_sublist)
    have l1 : ∀ i ∈ A1, i ∈ A ∧ Wire.Jn (eg g) A (eg g i).1 g.s := fun i hi => by
      rw [hA1] at hi
      exact ⟨(List.mem_filter.1 hi).1, dec_jn (List.mem_filter.1 hi).2⟩
    have ha : bm A1 < 2 ^ g.ws.length := bm_lt fun i hi => la i (l1 i hi).1
    have hpm := bm_perm f1.nodup (fun i hi => by have := la i (l1 i hi).1; omega)
    have f2 : Fo (eg g) g.n (memN (bm A1)) := f1.perm hpm.symm
    have hj : ∀ u, Wire.Jn (eg g) A u g.s → Wire.Jn (eg g) (memN (bm A1)) u g.s := fun u hu => (jn_perm hpm).2 (hA1 ▸ at_s hu)
    have hpl : ∀ u, (placesN g (bm A1)).testBit u = true ↔ Wire.Jn (eg g) A u g.s := fun u => by
      rw [end_iff (by omega)]
      constructor
      · rintro ⟨i, hi, h⟩
        obtain ⟨h1, h2⟩ := l1 i (hpm.mem_iff.1 hi)
        rcases h with rfl | rfl
        · exact h2
        · exact (jn_mem (e := eg g) h1).symm.trans h2
      · intro hu
        apply Classical.byContradiction
        intro hno
        have hl : ∀ i ∈ memN (bm A1), (eg g i).1 ≠ u ∧ (eg g i).2 ≠ u := fun i hi => ⟨fun k => hno ⟨i, hi, .inl k⟩, fun k => hno ⟨i, hi, .inr k⟩⟩
        have e1 := lone_lb hl (hj u hu).symm
        have e2 := lone_lb hl ((hj g.t st.symm).trans (hj u hu).symm)
        omega
    refine ⟨bm A1, ha, fun i hi => ?_, hpl, tree_group hg ha f2 ((hpl _).2 rfl) fun u hu => hj u ((hpl u).1 hu)⟩
    rw [bm_bit, decide_eq_true_eq] at hi
    exact (l1 i hi).1
  obtain ⟨a, a1, a2, a3, a4⟩ := key h.fa h.la h.st
  obtain ⟨b, b1, b2, b3, b4⟩ := key h.fb h.lb ((h.same _ _).1 h.st)
  have hpe : placesN g a = placesN g b := Nat.eq_of_testBit_eq fun u => by
    rw [Bool.eq_iff_iff, a3, b3]; exact h.same _ _
  have hab : a &&& b = 0 := Nat.eq_of_testBit_eq fun i => by
    rw [Nat.testBit_and, Nat.zero_testBit]
    cases h1 : a.testBit i
    · rfl
    · cases h2 : b.testBit i
      · rfl
      · exact absurd (b2 i h2) (h.dj i (a2 i h1))
  have ne0 : ∀ {a : Nat}, (placesN g a).testBit g.s = true → a ≠ 0 := fun {a} h k => by
    subst k
    rw [end_iff (by omega), memN_zero] at h
    obtain ⟨i, hi, _⟩ := h
    exact absurd hi List.not_mem_nil
  have hal : alT g (placesN g a) = true := by
    rw [alT, decide_eq_true_eq, endsN, ends_iff]
    exact ⟨(a3 _).2 rfl, (a3 _).2 h.st.symm⟩
  have hsa := (a3 g.s).2 rfl
  have go : ∀ {a b : Nat}, a < b → b < 2 ^ g.ws.length → alT g (placesN g a) = true → a ≠ 0 → isTreeB g a (placesN g a) = true → a &&& b = 0 → isTreeB g b (placesN g a) = true → treesF g (alT g) ≠ none := fun {a b} hlt hb hal h0 ht hab htb hn => by
    have h1 := firstFrom_none hn a (Nat.zero_le _) (by omega)
    rw [okA, if_neg (by rw [hal, ht]; simp [h0])] at h1
    have h2 := firstFrom_none h1 b hlt (by omega)
    rw [okB, if_pos ⟨hab, htb⟩] at h2
    cases h2
  rcases Nat.lt_trichotomy a b with k | k | k
  · exact go k b1 hal (ne0 hsa) a4 hab (hpe ▸ b4)
  · subst k
    rw [Nat.and_self] at hab
    exact absurd hab (ne0 hsa)
  · exact go k a1 (hpe ▸ hal) (ne0 (hpe ▸ hsa)) b4 (by rw [Nat.and_comm]; exact hab) (hpe ▸ a4)
theorem trees_pair {g : Gm} (hg : g.ok) (hst : g.s ≠ g.t) {a b : Nat} (h : treesF g (alT g) = some (a, b)) : Pair (eg g) g.n g.ws.length g.s g.t (memN a) (memN b) := by
  have hp := ws1024 hg
  have h8 := hg.n8
  obtain ⟨h1, h2, h3, h4, h5, h6, h7⟩ := treesF_lt hg.len h
  have ha : a < 2 ^ g.ws.length := by omega
  rw [alT, decide_eq_true_eq, endsN, ends_iff] at h4
  have hpl := places_ltn hg ha
  have hpop : 2 ≤ pop (placesN g a) := pop_two (by have := Nat.pow_le_pow_right (show 0 < 2 by omega) h8; omega) hst h4.1 h4.2
  have hfo : ∀ {c : Nat}, c < 2 ^ g.ws.length → isTreeB g c (placesN g a) = true → Fo (eg g) g.n (memN c) ∧ placesN g c = placesN g a ∧ oneG (keptL g c) (placesN g a) := fun {c} hc h => by
    have k := h
    rw [isTreeB, Bool.and_eq_true, Bool.and_eq_true, decide_eq_true_eq, acy_fo hg hc] at k
    rw [tree_pl hg hc hpl hpop, treeR_iff hg hc hpl] at h
    exact ⟨k.2, k.1.1, h.2.1⟩
  obtain ⟨fa, _, oa⟩ := hfo ha h5
  obtain ⟨fb, pb, ob⟩ := hfo h3 h7
  have jn : ∀ {c d : Nat}, c < 2 ^ g.ws.length → d < 2 ^ g.ws.length → placesN g c = placesN g a → oneG (keptL g d) (placesN g a) → ∀ u v, Wire.Jn (eg g) (memN c) u v → Wire.Jn (eg g) (memN d) u v := fun {c d} hc hd hpc hod u v hj => by
    refine jn_least (Jn.eqv _) (fun i hi => ?_) hj
    have e1 : (placesN g a).testBit (eg g i).1 = true := by rw [← hpc]; exact (end_iff (by omega)).2 ⟨i, hi, .inl rfl⟩
    have e2 : (placesN g a).testBit (eg g i).2 = true := by rw [← hpc]; exact (end_iff (by omega)).2 ⟨i, hi, .inr rfl⟩
    have l1 := lt_len hpl e1
    have l2 := lt_len hpl e2
    exact (root_jn hg hd (by omega) (by omega)).1 (hod _ _ e1 e2)
  have ls := lt_len hpl h4.1
  have lt := lt_len hpl h4.2
  refine ⟨fa, fb, fun i hi => memN_lt hg.len ha hi, fun i hi => memN_lt hg.len h3 hi, fun i hi hi2 => ?_, fun u v => ⟨jn ha h3 rfl ob u v, jn h3 ha pb oa u v⟩, (root_jn hg ha (by omega) (by omega)).1 (oa _ _ h4.1 h4.2)⟩
  rw [memN_mem (by omega)] at hi hi2
  have := congrArg (fun x => x.testBit i) h6
  simp [hi, hi2] at this
/-! Lehman. -/
theorem full_mem {m : Nat} (hm : m ≤ 10) : memN (2 ^ m - 1) = List.range m := by
  rw [memN, range_filter _ 10 hm fun i hi => by rw [Nat.testBit_two_pow_sub_one]; exact decide_eq_false (by omega)]
  refine List.filter_eq_self.2 fun i hi => ?_
  rw [Nat.testBit_two_pow_sub_one]
  exact decide_eq_true (List.mem_range.1 hi)
/-- One wire more, between the ends. -/
def ez (g : Gm) (i : Nat) : Nat × Nat := if i = g.ws.length then (g.s, g.t) else eg g i
theorem ez_eq {g : Gm} {i : Nat} (h : i < g.ws.length) : ez g i = eg g i := if_neg (by omega)
theorem lehman_all {g : Gm} (hg : g.ok) (hst : g.s ≠ g.t) : W g (2 ^ g.ws.length - 1) 0 true = true ↔ treesF g (alT g) ≠ none := by
  have hpos := pow_pos2 g.ws.length
  rw [W_Sw hg true (by omega) hpos, full_mem hg.len, memN_zero, List.length_range]
  constructor
  · intro h
    have he : Wire.Ends (ez g) g.n g.ws.length := fun i hi => by
      rw [ez_eq hi]; exact eg_ends hg i hi
    have hsame : ∀ {l : List Nat}, (∀ i ∈ l, i < g.ws.length) → ∀ u, Wire.lb (ez g) l u = Wire.lb (eg g) l u := fun {l} => by
      induction l with
      | nil => exact fun _ _ => rfl
      | cons i l ih =>
        intro hl u
        have ih := ih fun j hj => hl j (List.mem_cons_of_mem _ hj)
        have hi := hl i (List.mem_cons_self ..)
        simp only [Wire.lb, ih, ez_eq hi]
    have hsw : ∀ n {F K : List Nat} {c : Bool}, (∀ i ∈ F, i < g.ws.length) → (∀ i ∈ K, i < g.ws.length) → Sw (eg g) g.s g.t n F K c → Sw (ez g) g.s g.t n F K c := fun n => by
      induction n with
      | zero =>
        intro F K c _ hK h
        show Wire.lb _ K _ = Wire.lb _ K _
        rw [hsame hK, hsame hK]; exact h
      | succ n ih =>
        intro F K c hF hK h
        cases c
        · obtain ⟨i, hi, h⟩ := h
          exact ⟨i, hi, ih (fun j hj => hF j (List.mem_of_mem_erase hj)) (fun j hj => by
            rcases List.mem_cons.1 hj with rfl | hj
            · exact hF _ hi
            · exact hK j hj) h⟩
        · exact fun i hi => ih (fun j hj => hF j (List.mem_of_mem_erase hj)) hK (h i hi)
    obtain ⟨A, B, hAB⟩ := lehman he (if_pos rfl) hg.s hg.t (hsw g.ws.length (fun i hi => List.mem_range.1 hi) (fun i hi => absurd hi List.not_mem_nil) h)
    refine pair_trees hg hst (A := A) (B := B) ⟨?_, ?_, hAB.la, hAB.lb, hAB.dj, fun u v => ?_, ?_⟩
    · have hcp : cp (ez g) g.n A = cp (eg g) g.n A := List.countP_congr fun u _ => by rw [hsame hAB.la]
      exact ⟨fun i hi => eg_ends hg i (hAB.la i hi), by rw [← hcp]; exact hAB.fa.2⟩
    · have hcp : cp (ez g) g.n B = cp (eg g) g.n B := List.countP_congr fun u _ => by rw [hsame hAB.lb]
      exact ⟨fun i hi => eg_ends hg i (hAB.lb i hi), by rw [← hcp]; exact hAB.fb.2⟩
    · have := hAB.same u v
      unfold Wire.Jn at this ⊢
      rw [hsame hAB.la, hsame hAB.la, hsame hAB.lb, hsame hAB.lb] at this
      exact this
    · have := hAB.st
      unfold Wire.Jn at this ⊢
      rw [hsame hAB.la, hsame hAB.la] at this
      exact this
  · intro h
    cases ht : treesF g (alT g) with
    | none => exact absurd ht h
    | some p =>
      obtain ⟨a, b⟩ := p
      have hP := trees_pair hg hst ht
      have key : ∀ {A : List Nat}, ∀ i ∈ A.filter (fun i => decide (Wire.lb (eg g) A (eg g i).1 = Wire.lb (eg g) A g.s)), i ∈ A ∧ Wire.Jn (eg g) A (eg g i).1 g.s := fun {A} i hi => ⟨(List.mem_filter.1 hi).1, dec_jn (List.mem_filter.1 hi).2⟩
      refine SI.wins (X := fun u => Wire.Jn (eg g) (memN a) u g.s) rfl hP.st.symm g.ws.length g.ws.length (Nat.le_refl _) List.length_range (A := (memN a).filter (fun i => decide (Wire.lb (eg g) (memN a) (eg g i).1 = Wire.lb (eg g) (memN a) g.s))) (B := (memN b).filter (fun i => decide (Wire.lb (eg g) (memN b) (eg g i).1 = Wire.lb (eg g) (memN b) g.s))) ⟨fun i hi => ?_, fun i hi => ?_, fun i hi hi2 => ?_, fun i hi => ?_, fun i hi => ?_, fun hu hv => ?_, fun hu hv => ?_⟩
      · exact List.mem_range.2 (hP.la i (key i hi).1)
      · exact List.mem_range.2 (hP.lb i (key i hi).1)
      · exact hP.dj i (key i hi).1 (key i hi2).1
      · exact ⟨(key i hi).2, (jn_mem (key i hi).1).symm.trans (key i hi).2⟩
      · exact ⟨(hP.same _ _).2 (key i hi).2, (hP.same _ _).2 ((jn_mem (key i hi).1).symm.trans (key i hi).2)⟩
      · exact (at_s hu).trans (at_s hv).symm
      · exact (at_s ((hP.same _ _).1 hu)).trans (at_s ((hP.same _ _).1 hv)).symm
/-- Moving first is no worse. -/
theorem W_first {g : Gm} (hg : g.ok) {f k : Nat} (hf : f < 2 ^ g.ws.length) (hk : k < 2 ^ g.ws.length) (h : W g f k true = true) : W g f k false = true := by
  rw [W_Sw hg _ hf hk] at h ⊢
  exact (Sw.more _ _ _ _).to rfl h
end Go.Proofs.YtfphkpdobbffeaaDoor
