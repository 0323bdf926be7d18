/-
  A table of types, held against the program by the kernel; lemmas for reckoning.
-/
import Derived.Test.YtfphkpdobbffeaaDoorAh11
set_option linter.unusedSimpArgs false
set_option linter.unusedVariables false
namespace Go.AH
open Go.RowKit

def acB : AC → Value → Bool
  | .int k n, .int k' n' => k == k' && n == n'
  | .bool b, .bool b' => b == b'
  | .str s, .string s' => s.data.toList == s'.data.toList
  | .nilp, .pointer none => true
  | .nils, .slice none 0 0 => true
  | .nilfn, .nilFunc => true
  | .nilm, .map none => true
  | _, _ => false
def acsB : List AC → List Value → Bool
  | [], [] => true
  | x :: r, v :: q => acB x v && acsB r q
  | _, _ => false
def zeroB (i : TI) (z : Value) : Bool := match z with
  | .agg vs => i.agg && acsB i.zero vs.toList
  | z => !i.agg && acsB i.zero [z]
def tdB (P : Program) (t : TypeId) (d : TD) : Bool := match d, P.underlying t with
  | .int k, some (.int k') => k == k'
  | .bool, some .bool => true
  | .str, some .string => true
  | .ptr, some (.pointer _) => true
  | .slice e, some (.slice e') => e == e'
  | .arr n e, some (.array n' e') => n == n' && e == e'
  | .struct fs, some (.struct fields) => (fields.toList.map fun f => (f.offset, f.type)) == fs && fs.all fun p => (P.info? p.2).isSome
  | .map k e, some (.map k' e') => k == k' && e == e'
  | .func, some (.func _ _ _) => true
  | _, _ => false
def tiB (P : Program) (t : TypeId) (i : TI) : Bool := match P.info? t with
  | some x => x.size == i.size && x.bytes == i.bytes && (match x.zero with | some z => zeroB i z | none => false) && tdB P t i.d
  | none => false

theorem acB_sound {x : AC} {v : Value} (h : acB x v = true) (R : Ren) : conC R x v ∧ x.lt 0 := by
  unfold acB at h
  split at h <;> first | (cases h; done) | skip
  · simp only [Bool.and_eq_true, beq_iff_eq] at h; obtain ⟨rfl, rfl⟩ := h; exact ⟨rfl, trivial⟩
  · simp only [beq_iff_eq] at h; subst h; exact ⟨rfl, trivial⟩
  · rename_i s s'
    simp only [beq_iff_eq] at h
    have : s = s' := by
      obtain ⟨⟨l⟩⟩ := s; obtain ⟨⟨l'⟩⟩ := s'
      simp at h; rw [h]
    subst this; exact ⟨rfl, trivial⟩
  · exact ⟨rfl, trivial⟩
  · exact ⟨rfl, trivial⟩
  · exact ⟨rfl, trivial⟩
  · exact ⟨rfl, trivial⟩
theorem acsB_sound : ∀ {xs : List AC} {vs : List Value}, acsB xs vs = true → vs.length = xs.length ∧ (∀ R, conL R xs vs.toArray 0) ∧ ∀ x ∈ xs, x.lt 0
  | [], [], _ => ⟨rfl, fun R i x hi => by simp at hi, fun x hx => (List.not_mem_nil hx).elim⟩
  | x :: r, v :: q, h => by
    simp only [acsB, Bool.and_eq_true] at h
    obtain ⟨h1, h2, h3⟩ := acsB_sound h.2
    refine ⟨by simp [h1], fun R i y hi => ?_, fun y hy => ?_⟩
    · cases i with
      | zero => simp at hi; subst hi; exact ⟨v, rfl, (acB_sound h.1 R).1⟩
      | succ i =>
        simp at hi
        obtain ⟨u, hu, hc⟩ := h2 R i y hi
        refine ⟨u, ?_, hc⟩
        rw [Nat.zero_add] at hu ⊢
        simpa using hu
    · rcases List.mem_cons.1 hy with e | e
      · exact e ▸ (acB_sound h.1 ⟨id, id, id⟩).2
      · exact h3 y e
  | [], _ :: _, h => by cases h
  | _ :: _, [], h => by cases h

theorem tiok_of {P : Program} {t : TypeId} {i : TI} (h : tiB P t i = true) (he : (!i.cmp || keyB P t i.zero) = true := by rfl) : TIok P t i := by
  unfold tiB at h
  split at h <;> first | (cases h; done) | skip
  rename_i x hx
  simp only [Bool.and_eq_true, beq_iff_eq] at h
  obtain ⟨⟨⟨h1, h2⟩, h3⟩, h4⟩ := h
  split at h3 <;> first | (cases h3; done) | skip
  rename_i z hz
  refine ⟨?_, fun hc => eqLaw_of (by rw [hc] at he; simpa using he), fun hna x' z' hx' hz' => ?_, x, z, hx, h1, h2, hz, ?_⟩
  · unfold tdB at h4
    split at h4 <;> first | (cases h4; done) | skip
    · rename_i e1 e2; simp only [beq_iff_eq] at h4; subst h4; rw [e1]; exact e2
    · rename_i e1 e2; rw [e1]; exact e2
    · rename_i e1 e2; rw [e1]; exact e2
    · rename_i e1 e2; rw [e1]; exact ⟨_, e2⟩
    · rename_i e1 e2; simp only [beq_iff_eq] at h4; subst h4; rw [e1]; exact e2
    · rename_i e1 e2; simp only [beq_iff_eq, Bool.and_eq_true] at h4; obtain ⟨rfl, rfl⟩ := h4; rw [e1]; exact e2
    · rename_i e1 e2; simp only [beq_iff_eq, Bool.and_eq_true, List.all_eq_true] at h4; rw [e1]; exact ⟨_, e2, h4.1, h4.2⟩
    · rename_i e1 e2; simp only [beq_iff_eq, Bool.and_eq_true] at h4; obtain ⟨rfl, rfl⟩ := h4; rw [e1]; exact e2
    · rename_i e1 e2; rw [e1]; exact ⟨_, _, _, e2⟩
  · rw [hx] at hx'; injection hx' with hx'; subst hx'
    rw [hz] at hz'; injection hz' with hz'; subst hz'
    unfold zeroB at h3
    split at h3
    · simp only [hna, Bool.false_and] at h3; cases h3
    · rename_i hnag
      cases z <;> first | rfl | exact absurd rfl (hnag _)
  · unfold zeroB at h3
    split at h3
    · rename_i vs
      simp only [Bool.and_eq_true] at h3
      obtain ⟨g1, g2, g3⟩ := acsB_sound h3.2
      exact ⟨by simpa [Value.cells] using g1, fun R => by simpa [Value.cells] using g2 R, fun _ => rfl, g3⟩
    · rename_i hna
      simp only [Bool.and_eq_true, Bool.not_eq_true'] at h3
      obtain ⟨g1, g2, g3⟩ := acsB_sound h3.2
      have : z.cells = #[z] := by cases z <;> first | rfl | exact absurd rfl (hna _)
      rw [this]
      refine ⟨g1, g2, fun e => ?_, g3⟩
      rw [h3.1] at e; cases e

end Go.AH
