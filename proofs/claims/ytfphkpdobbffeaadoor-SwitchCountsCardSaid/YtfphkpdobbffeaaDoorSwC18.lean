/-
  The game: who wins, in plain Lean.
-/
import Derived.Test.YtfphkpdobbffeaaDoorSwC17
set_option linter.unusedSimpArgs false
set_option linter.unusedVariables false
namespace Go.Proofs.YtfphkpdobbffeaaDoor
open Go Go.AH
set_option maxRecDepth 100000
set_option maxHeartbeats 1000000

def winF (g : Gm) : Nat → Nat → Nat → Bool → Bool
  | 0, _, k, _ => joinedB g k
  | n + 1, f, k, c => if joinedB g k || decide (f = 0) || !joinedB g (k ||| f) then joinedB g k else
      ((mem f).any fun w => winF g n (offN f w.toNat) (if c then k else k ||| 2 ^ w.toNat) (!c) != c) != c
/-- Whether Short wins: f free, k kept, c: Cut moves. -/
def W (g : Gm) (f k : Nat) (c : Bool) : Bool := winF g (pop f) f k c
theorem pop_pos : ∀ n, n < 1024 → 0 < n → 0 < pop n := by decide +kernel
theorem off_ok : ∀ n, n < 1024 → ∀ w ∈ memN n, pop (offN n w) = pop n - 1 ∧ offN n w < n := by decide +kernel
theorem off_mem {n : Nat} (hn : n < 1024) {w : Int} (hw : w ∈ mem n) : pop (offN n w.toNat) = pop n - 1 ∧ offN n w.toNat < n := by
  obtain ⟨i, hi, rfl⟩ := List.mem_map.1 hw
  exact off_ok n hn i hi
theorem any_congr {α : Type} {l : List α} {p q : α → Bool} (h : ∀ x ∈ l, p x = q x) : l.any p = l.any q := by
  rw [Bool.eq_iff_iff]
  simp only [List.any_eq_true]
  exact ⟨fun ⟨x, hx, hp⟩ => ⟨x, hx, by rw [← h x hx]; exact hp⟩, fun ⟨x, hx, hp⟩ => ⟨x, hx, by rw [h x hx]; exact hp⟩⟩
/-- A wire by which the one who moves comes to a position that it wins. -/
def goodW (g : Gm) (f k : Nat) (c : Bool) (w : Int) : Bool := W g (offN f w.toNat) (if c then k else k ||| 2 ^ w.toNat) (!c) != c
theorem W_step (g : Gm) {f : Nat} (hf : f < 1024) (k : Nat) (c : Bool) : W g f k c = if joinedB g k || decide (f = 0) || !joinedB g (k ||| f) then joinedB g k else ((mem f).any (goodW g f k c)) != c := by
  by_cases h0 : f = 0
  · subst h0
    have : pop 0 = 0 := by decide
    simp [W, this, winF]
  · have hp := pop_pos f hf (by omega)
    obtain ⟨m, hm⟩ : ∃ m, pop f = m + 1 := ⟨pop f - 1, by omega⟩
    rw [W, hm, winF]
    have : ((mem f).any fun w => winF g m (offN f w.toNat) (if c then k else k ||| 2 ^ w.toNat) (!c) != c) = (mem f).any (goodW g f k c) := by
      refine any_congr fun w hw => ?_
      have := (off_mem hf hw).1
      simp only [goodW, W]
      rw [this, hm]; rfl
    rw [this]
def goodO (g : Gm) (f k : Nat) (c : Bool) : Option Int := (mem f).find? (goodW g f k c)
theorem goodO_some (g : Gm) (f k : Nat) (c : Bool) : (goodO g f k c).isSome = (mem f).any (goodW g f k c) := by
  rw [Bool.eq_iff_iff]; simp [goodO, List.find?_isSome]

/-- What is known of positions. -/
def MI (g : Gm) (m : List (List AC × AC)) : Prop := ∀ p ∈ m, ∃ f k c, f < 1024 ∧ k < 1024 ∧ p = (tC f k c, .bool (W g f k c))
theorem tC_ok {f k : Nat} {c : Bool} (hf : f < 1024) (hk : k < 1024) : okL (tC f k c) [.int .i64 0, .int .i64 0, .bool false] := ⟨ok1 (by omega) (by omega), ok1 (by omega) (by omega), trivial, trivial⟩
theorem tC_inj {f k f' k' : Nat} {c c' : Bool} (h : eqL (tC f k c) (tC f' k' c') = some true) : f = f' ∧ k = k' ∧ c = c' := by
  simp [tC, eqL, eqC] at h
  exact ⟨by omega, by omega, h.2.2⟩
theorem MI.ok {g : Gm} {m : List (List AC × AC)} (h : MI g m) {f k : Nat} {c : Bool} (hf : f < 1024) (hk : k < 1024) : mOk m (tC f k c) [.int .i64 0, .int .i64 0, .bool false] :=
  ⟨tC_ok hf hk, fun p hp => by obtain ⟨f', k', c', h1, h2, rfl⟩ := h p hp; exact tC_ok h1 h2⟩
theorem MI.get {g : Gm} {f k : Nat} {c : Bool} {v : AC} : ∀ {m : List (List AC × AC)}, MI g m → mget m (tC f k c) = some v → v = .bool (W g f k c)
  | [], _, h => by cases h
  | (ks, u) :: m, hm, h => by
    simp only [mget] at h
    split at h
    · rename_i he
      injection h with h
      obtain ⟨f', k', c', _, _, e⟩ := hm (ks, u) (by simp)
      injection e with e1 e2
      subst e1
      obtain ⟨rfl, rfl, rfl⟩ := tC_inj he
      rw [← h, e2]
    · exact MI.get (fun p hp => hm p (by simp [hp])) h
theorem MI.set {g : Gm} {f k : Nat} {c : Bool} (hf : f < 1024) (hk : k < 1024) : ∀ {m : List (List AC × AC)}, MI g m → MI g (mset m (tC f k c) (.bool (W g f k c)))
  | [], _ => fun p hp => by simp [mset] at hp; exact ⟨f, k, c, hf, hk, hp⟩
  | (ks, u) :: m, hm => by
    intro p hp
    simp only [mset] at hp
    split at hp
    · rename_i he
      rcases List.mem_cons.1 hp with e | e
      · obtain ⟨f', k', c', _, _, e'⟩ := hm (ks, u) (by simp)
        injection e' with e1 e2
        subst e1
        obtain ⟨rfl, rfl, rfl⟩ := tC_inj he
        exact ⟨f, k, c, hf, hk, e⟩
      · exact hm p (by simp [e])
    · rcases List.mem_cons.1 hp with e | e
      · exact e ▸ hm (ks, u) (by simp)
      · exact MI.set hf hk (fun p hp => hm p (by simp [hp])) p e
theorem MI.nil (g : Gm) : MI g [] ∧ primM [] := ⟨fun p hp => (List.not_mem_nil hp).elim, fun p hp => (List.not_mem_nil hp).elim⟩
end Go.Proofs.YtfphkpdobbffeaaDoor
