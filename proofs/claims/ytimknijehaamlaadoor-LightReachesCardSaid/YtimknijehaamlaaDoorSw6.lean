/-
  How many targets are effects; which one is the hardest. (Plain.)
-/
import Derived.Test.YtimknijehaamlaaDoorSw1
import Derived.Test.YtimknijehaamlaaDoorSwE5
set_option linter.unusedSimpArgs false
set_option linter.unusedVariables false
namespace Go.Lin

def spanL : List Nat → List Nat
  | [] => [0]
  | b :: L => spanL L ++ (spanL L).map (b ^^^ ·)
theorem spanL_len : ∀ L : List Nat, (spanL L).length = 2 ^ L.length
  | [] => rfl
  | b :: L => by
    rw [spanL, List.length_append, List.length_map, spanL_len L, List.length_cons, Nat.pow_succ]; omega
theorem mem_spanL : ∀ {L : List Nat} {x : Nat}, x ∈ spanL L ↔ Span L x
  | [], x => by simp [spanL, Span]
  | b :: L, x => by
    rw [spanL, List.mem_append, mem_spanL (L := L), List.mem_map]
    constructor
    · rintro (h | ⟨y, hy, rfl⟩)
      · exact .inl h
      · exact .inr (by rw [Nat.xor_comm, ← Nat.xor_assoc, Nat.xor_self, Nat.zero_xor]; exact mem_spanL.1 hy)
    · rintro (h | h)
      · exact .inl h
      · exact .inr ⟨x ^^^ b, mem_spanL.2 h, by rw [Nat.xor_comm x, ← Nat.xor_assoc, Nat.xor_self, Nat.zero_xor]⟩
theorem spanL_nodup : ∀ {L : List Nat}, Ech L → (spanL L).Nodup
  | [], _ => by simp [spanL]
  | b :: L, h => by
    have ih := spanL_nodup h.2.2
    have low : ∀ y ∈ spanL L, y.testBit b.log2 = false := fun y hy =>
      Span.least (p := fun y => y.testBit b.log2 = false) (by simp) (fun _ _ h1 h2 => by rw [Nat.testBit_xor, h1, h2]; rfl) (fun c hc => log2_hi (h.2.1 c hc)) (mem_spanL.1 hy)
    have hb := Nat.testBit_log2 h.1
    rw [spanL, List.nodup_append]
    refine ⟨ih, ?_, ?_⟩
    · exact List.Pairwise.map (b ^^^ ·) (fun x y hne e => hne (by
        have := congrArg (b ^^^ ·) e
        simpa [← Nat.xor_assoc] using this)) ih
    · intro x hx y hy e
      obtain ⟨z, hz, rfl⟩ := List.mem_map.1 hy
      have h1 := low x hx
      rw [e, Nat.testBit_xor, hb, low z hz] at h1
      cases h1
theorem span_count {L : List Nat} {n : Nat} (hE : Ech L) (hL : ∀ x ∈ L, x < 2 ^ n) (p : Nat → Bool) (hp : ∀ t, t < 2 ^ n → (p t = true ↔ Span L t)) : ((List.range (2 ^ n)).filter p).length = 2 ^ L.length := by
  rw [← spanL_len]
  refine List.Perm.length_eq ((List.perm_ext_iff_of_nodup (List.Pairwise.filter _ List.nodup_range) (spanL_nodup hE)).2 fun t => ?_)
  rw [List.mem_filter, List.mem_range, mem_spanL]
  constructor
  · rintro ⟨h1, h2⟩; exact (hp t h1).1 h2
  · intro h
    have := Span.lt hL h
    exact ⟨this, (hp t this).2 h⟩
/-- The first of the greatest. -/
def amax (g : Nat → Nat) (k : Nat) : Nat := (List.range k).foldl (fun b t => if g b < g t then t else b) 0
theorem amax_succ (g : Nat → Nat) (k : Nat) : amax g (k + 1) = if g (amax g k) < g k then k else amax g k := by
  rw [amax, List.range_succ, List.foldl_append]; rfl
theorem amax_spec (g : Nat → Nat) : ∀ k, (amax g k < k ∨ amax g k = 0) ∧ (∀ t, t < k → g t ≤ g (amax g k)) ∧ ∀ t, t < amax g k → g t < g (amax g k)
  | 0 => ⟨.inr rfl, fun t h => by omega, fun t h => by simp [amax] at h⟩
  | k + 1 => by
    obtain ⟨h0, h1, h2⟩ := amax_spec g k
    rw [amax_succ]
    split
    · rename_i c
      refine ⟨.inl (by omega), fun t ht => ?_, fun t ht => ?_⟩
      · by_cases e : t = k
        · rw [e]; exact Nat.le_refl _
        · have := h1 t (by omega); omega
      · have := h1 t ht; omega
    · rename_i c
      refine ⟨by omega, fun t ht => ?_, h2⟩
      by_cases e : t = k
      · rw [e]; omega
      · exact h1 t (by omega)
end Go.Lin
