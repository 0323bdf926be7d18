/-
  Plain law: who wins, without shortcuts.
-/
import Derived.Test.YtfphkpdobbffeaaDoorSw5
import Derived.Test.YtfphkpdobbffeaaDoorAh5
set_option linter.unusedSimpArgs false
set_option linter.unusedVariables false
namespace Go.Proofs.YtfphkpdobbffeaaDoor
open Go Go.AH
set_option maxRecDepth 100000
set_option maxHeartbeats 1000000

theorem fold_root {g : Gm} (hg : g.ok) (ρ : Nat → Nat) : ∀ (l : List Int) (xs : List Int), Grp xs → (∀ y ∈ l, y.toNat < g.ws.length) → (∀ y ∈ l, ρ (g.ws.getD y.toNat (0, 0)).1 = ρ (g.ws.getD y.toNat (0, 0)).2) →
    (∀ u v, u < 8 → v < 8 → root xs u = root xs v → ρ u = ρ v) → ∀ u v, u < 8 → v < 8 → root (l.foldl (joinF g) xs) u = root (l.foldl (joinF g) xs) v → ρ u = ρ v
  | [], xs, _, _, _, h => h
  | i :: l, xs, hG, hl, hρ, h => by
    have he := hg.ends _ (hl i (by simp))
    have h8 := hg.n8
    have ha : (g.ws.getD i.toNat (0, 0)).1 < 8 := by omega
    have hb : (g.ws.getD i.toNat (0, 0)).2 < 8 := by omega
    refine fold_root hg ρ l (joinF g xs i) (hG.join ha hb) (fun y hy => hl y (by simp [hy])) (fun y hy => hρ y (by simp [hy])) fun u v hu hv huv => ?_
    have hr := root_joinL hG ha hb
    rw [show joinL xs (g.ws.getD i.toNat (0, 0)).1 (g.ws.getD i.toNat (0, 0)).2 = joinF g xs i from rfl] at hr
    rw [hr u hu, hr v hv] at huv
    have hab := hρ i (by simp)
    have hA := fun u hu => h u _ hu ha
    have hB := fun u hu => h u _ hu hb
    have hra := root_le hG ha
    have hrb := root_le hG hb
    generalize root xs (g.ws.getD i.toNat (0, 0)).1 = ra at *
    generalize root xs (g.ws.getD i.toNat (0, 0)).2 = rb at *
    generalize (g.ws.getD i.toNat (0, 0)).1 = a at *
    generalize (g.ws.getD i.toNat (0, 0)).2 = b at *
    have key : ∀ u, u < 8 → (root xs u = ra ∨ root xs u = rb) → ρ u = ρ a := fun u hu h => by
      rcases h with h | h
      · exact hA u hu h
      · rw [hB u hu h, hab]
    by_cases e1 : root xs u = max ra rb
    · rw [if_pos e1] at huv
      by_cases e2 : root xs v = max ra rb
      · exact h u v hu hv (by omega)
      · rw [if_neg e2] at huv
        rw [key u hu (by omega), key v hv (by omega)]
    · rw [if_neg e1] at huv
      by_cases e2 : root xs v = max ra rb
      · rw [if_pos e2] at huv
        rw [key u hu (by omega), key v hv (by omega)]
      · rw [if_neg e2] at huv
        exact h u v hu hv huv
theorem fold_keep {g : Gm} (hg : g.ok) : ∀ (l : List Int) (xs : List Int), Grp xs → (∀ y ∈ l, y.toNat < g.ws.length) → ∀ u v, u < 8 → v < 8 → root xs u = root xs v → root (l.foldl (joinF g) xs) u = root (l.foldl (joinF g) xs) v
  | [], xs, _, _, u, v, _, _, h => h
  | i :: l, xs, hG, hl, u, v, hu, hv, h => by
    have he := hg.ends _ (hl i (by simp))
    have h8 := hg.n8
    refine fold_keep hg l (joinF g xs i) (hG.join (by omega) (by omega)) (fun y hy => hl y (by simp [hy])) u v hu hv ?_
    have hr := root_joinL hG (show (g.ws.getD i.toNat (0, 0)).1 < 8 by omega) (show (g.ws.getD i.toNat (0, 0)).2 < 8 by omega)
    rw [show joinL xs (g.ws.getD i.toNat (0, 0)).1 (g.ws.getD i.toNat (0, 0)).2 = joinF g xs i from rfl] at hr
    rw [hr u hu, hr v hv, h]
theorem fold_ends {g : Gm} (hg : g.ok) : ∀ (l : List Int) (xs : List Int), Grp xs → (∀ y ∈ l, y.toNat < g.ws.length) → ∀ i ∈ l, root (l.foldl (joinF g) xs) (g.ws.getD i.toNat (0, 0)).1 = root (l.foldl (joinF g) xs) (g.ws.getD i.toNat (0, 0)).2
  | [], _, _, _, i, hi => by simp at hi
  | j :: l, xs, hG, hl, i, hi => by
    have he := hg.ends _ (hl j (by simp))
    have h8 := hg.n8
    have ha : (g.ws.getD j.toNat (0, 0)).1 < 8 := by omega
    have hb : (g.ws.getD j.toNat (0, 0)).2 < 8 := by omega
    rcases List.mem_cons.1 hi with e | hi
    · subst e
      refine fold_keep hg l (joinF g xs i) (hG.join ha hb) (fun y hy => hl y (by simp [hy])) _ _ ha hb ?_
      have hr := root_joinL hG ha hb
      rw [show joinL xs (g.ws.getD i.toNat (0, 0)).1 (g.ws.getD i.toNat (0, 0)).2 = joinF g xs i from rfl] at hr
      rw [hr _ ha, hr _ hb]
      split <;> split <;> omega
    · exact fold_ends hg l (joinF g xs j) (hG.join ha hb) (fun y hy => hl y (by simp [hy])) i hi
theorem mem_iff {n : Nat} (hn : n < 1024) {y : Int} : y ∈ mem n ↔ ∃ i : Nat, y = (i : Int) ∧ n.testBit i = true := by
  constructor
  · intro h
    obtain ⟨i, hi, rfl⟩ := List.mem_map.1 h
    exact ⟨i, rfl, (List.mem_filter.1 hi).2⟩
  · rintro ⟨i, rfl, hi⟩
    exact List.mem_map.2 ⟨i, List.mem_filter.2 ⟨List.mem_range.2 (lt_len (k := 10) (by omega) hi), hi⟩, rfl⟩
/-- More wires kept join no less. -/
theorem joined_mono {g : Gm} (hg : g.ok) {n m : Nat} (hn : n < 2 ^ g.ws.length) (hm : m < 2 ^ g.ws.length) (h : ∀ i, n.testBit i = true → m.testBit i = true) (hj : joinedB g n = true) : joinedB g m = true := by
  have hp : 2 ^ g.ws.length ≤ 1024 := Nat.pow_le_pow_right (by omega) hg.len
  have h8 := hg.n8
  have hs := hg.s
  have ht := hg.t
  have hl : ∀ k, k < 2 ^ g.ws.length → ∀ y ∈ mem k, y.toNat < g.ws.length := fun k hk y hy => (mem_lt hg.len hk hy).2
  unfold joinedB at hj ⊢
  rw [decide_eq_true_eq] at hj ⊢
  refine fold_root hg (root (keptL g m)) (mem n) (aloneSt 8) Grp.alone (hl n hn) (fun y hy => ?_) (fun u v hu hv huv => ?_) g.s g.t (by omega) (by omega) hj
  · obtain ⟨i, rfl, hi⟩ := (mem_iff (by omega)).1 hy
    exact fold_ends hg (mem m) (aloneSt 8) Grp.alone (hl m hm) i ((mem_iff (by omega)).2 ⟨i, rfl, h i hi⟩)
  · rw [alone_root hu, alone_root hv] at huv
    rw [huv]

/-- Who wins, by playing to the end. -/
def WR (g : Gm) : Nat → Nat → Nat → Bool → Bool
  | 0, _, k, _ => joinedB g k
  | n + 1, f, k, c => if f = 0 then joinedB g k else ((mem f).any fun w => WR g n (offN f w.toNat) (if c then k else k ||| 2 ^ w.toNat) (!c) != c) != c
theorem offN_bit {f w i : Nat} (hf : f < 1024) (hw : w < 10) : (offN f w).testBit i = (f.testBit i && decide (i ≠ w)) := by
  have : ∀ f, f < 1024 → ∀ w, w < 10 → ∀ i, i < 10 → (offN f w).testBit i = (f.testBit i && decide (i ≠ w)) := by decide +kernel
  have hlt : ∀ f, f < 1024 → ∀ w, w < 10 → offN f w < 1024 := by decide +kernel
  by_cases hi : i < 10
  · exact this f hf w hw i hi
  · have a : f.testBit i = false := by
      cases h : f.testBit i with
      | false => rfl
      | true => have := lt_len (k := 10) (by omega) h; omega
    have b : (offN f w).testBit i = false := by
      cases h : (offN f w).testBit i with
      | false => rfl
      | true => have := lt_len (k := 10) (hlt f hf w hw) h; omega
    rw [a, b]; rfl
theorem any_const {l : List Int} {p : Int → Bool} {b : Bool} (h0 : l ≠ []) (h : ∀ x ∈ l, p x = b) : l.any p = b := by
  cases b with
  | false => rw [List.any_eq_false]; exact fun x hx => by rw [h x hx]; simp
  | true =>
    cases l with
    | nil => exact absurd rfl h0
    | cons x l => rw [List.any_cons, h x (by simp)]; rfl
theorem W_WR {g : Gm} (hg : g.ok) : ∀ n f k c, pop f ≤ n → f < 2 ^ g.ws.length → k < 2 ^ g.ws.length → W g f k c = WR g n f k c := by
  have hp : 2 ^ g.ws.length ≤ 1024 := Nat.pow_le_pow_right (by omega) hg.len
  intro n
  induction n with
  | zero =>
    intro f k c h hf hk
    have h0 : f = 0 := by
      by_cases e : f = 0
      · exact e
      · have := pop_pos f (by omega) (by omega); omega
    rw [W_step g (by omega), h0]
    simp [WR]
  | succ n ih =>
    intro f k c h hf hk
    rw [W_step g (by omega), WR]
    by_cases h0 : f = 0
    · rw [h0]; simp
    rw [if_neg h0]
    have hne : mem f ≠ [] := by
      intro e
      have := pop_pos f (by omega) (by omega)
      have h2 : (mem f).length = pop f := by simp [mem, pop]
      rw [e] at h2; simp at h2; omega
    have hsub : ∀ w ∈ mem f, offN f w.toNat < 2 ^ g.ws.length ∧ (if c then k else k ||| 2 ^ w.toNat) < 2 ^ g.ws.length ∧ (∀ i, k.testBit i = true → (if c then k else k ||| 2 ^ w.toNat).testBit i = true) ∧ ∀ i, ((if c then k else k ||| 2 ^ w.toNat) ||| offN f w.toNat).testBit i = true → (k ||| f).testBit i = true := fun w hw => by
      obtain ⟨_, hlw⟩ := mem_lt hg.len hf hw
      have hoff := off_mem (n := f) (by omega) hw
      obtain ⟨j, rfl, hj⟩ := (mem_iff (by omega)).1 hw
      rw [Int.toNat_natCast] at hlw hoff ⊢
      refine ⟨by omega, ?_, ?_, ?_⟩
      · split
        · exact hk
        · exact or_lt hk ((Nat.pow_lt_pow_iff_right (by omega)).2 hlw)
      · intro i hi
        split
        · exact hi
        · simp [Nat.testBit_or, hi]
      · intro i hi
        have hl := hg.len
        rw [Nat.testBit_or, offN_bit (by omega) (by omega)] at hi
        rw [Nat.testBit_or]
        split at hi
        · simp only [Bool.or_eq_true, Bool.and_eq_true] at hi ⊢
          rcases hi with hi | hi
          · exact .inl hi
          · exact .inr hi.1
        · simp only [Nat.testBit_or, Nat.testBit_two_pow, Bool.or_eq_true, Bool.and_eq_true, decide_eq_true_eq] at hi ⊢
          rcases hi with (hi | hi) | hi
          · exact .inl hi
          · exact .inr (hi ▸ hj)
          · exact .inr hi.1
    have hstep : ∀ w ∈ mem f, W g (offN f w.toNat) (if c then k else k ||| 2 ^ w.toNat) (!c) = WR g n (offN f w.toNat) (if c then k else k ||| 2 ^ w.toNat) (!c) := fun w hw => by
      have hoff := off_mem (n := f) (by omega) hw
      have h3 := hsub w hw
      exact ih _ _ _ (by omega) h3.1 h3.2.1
    have hany : ((mem f).any fun w => WR g n (offN f w.toNat) (if c then k else k ||| 2 ^ w.toNat) (!c) != c) = (mem f).any (goodW g f k c) :=
      any_congr fun w hw => by rw [goodW, hstep w hw]
    rw [hany]
    have hkf : k ||| f < 2 ^ g.ws.length := or_lt hk hf
    by_cases hj : joinedB g k = true
    · rw [if_pos (by simp [hj]), hj]
      have : (mem f).any (goodW g f k c) = !c := any_const hne fun w hw => by
        obtain ⟨a1, a2, a3, _⟩ := hsub w hw
        have hj2 := joined_mono hg hk a2 a3 hj
        rw [goodW, W_step g (by omega), hj2]
        cases c <;> simp
      rw [this]; cases c <;> rfl
    · have hj : joinedB g k = false := by simpa using hj
      by_cases hj2 : joinedB g (k ||| f) = true
      · rw [if_neg (by simp [hj, hj2, h0])]
      · have hj2 : joinedB g (k ||| f) = false := by simpa using hj2
        rw [if_pos (by simp [hj2]), hj]
        have : (mem f).any (goodW g f k c) = c := any_const hne fun w hw => by
          obtain ⟨a1, a2, a3, a4⟩ := hsub w hw
          have e1 : joinedB g ((if c then k else k ||| 2 ^ w.toNat) ||| offN f w.toNat) = false := by
            cases hh : joinedB g ((if c then k else k ||| 2 ^ w.toNat) ||| offN f w.toNat) with
            | false => rfl
            | true => rw [joined_mono hg (or_lt a2 a1) hkf a4 hh] at hj2; cases hj2
          have e2 : joinedB g (if c then k else k ||| 2 ^ w.toNat) = false := by
            cases hh : joinedB g (if c then k else k ||| 2 ^ w.toNat) with
            | false => rfl
            | true =>
              rw [joined_mono hg a2 (or_lt a2 a1) (fun i hi => by simp [Nat.testBit_or, hi]) hh] at e1; cases e1
          rw [goodW, W_step g (by omega), e1, e2]
          cases c <;> simp
        rw [this]; cases c <;> rfl
end Go.Proofs.YtfphkpdobbffeaaDoor

/-
  Contracts: positions as strings, for the reference.
-/
namespace Go.Proofs.YtfphkpdobbffeaaDoor
open Go Go.AH
set_option maxRecDepth 100000
set_option maxHeartbeats 1000000

def posL (n f k : Nat) : List UInt8 := (List.range n).map fun i => if f.testBit i then 46 else if k.testBit i then 43 else 45
def posB (n f k : Nat) : ByteArray := ⟨(posL n f k).toArray⟩
theorem posL_len (n f k : Nat) : (posL n f k).length = n := by simp [posL]
theorem posB_size (n f k : Nat) : (posB n f k).size = n := by
  show (posL n f k).toArray.size = n
  simp [posL]
theorem posL_succ (n f k : Nat) : posL (n + 1) f k = posL n f k ++ [if f.testBit n then 46 else if k.testBit n then 43 else 45] := by simp [posL, List.range_succ]
theorem posL_getD {n f k i : Nat} (h : i < n) : (posL n f k).getD i 0 = if f.testBit i then 46 else if k.testBit i then 43 else 45 := by
  simp [posL, List.getD_eq_getElem?_getD, h]
def dots (i : Nat) : ByteArray := ⟨(List.replicate i (46 : UInt8)).toArray⟩
theorem dots_succ (i : Nat) : dots i ++ ⟨#[46]⟩ = dots (i + 1) := by
  apply ByteArray.ext
  apply Array.ext'
  simp only [dots, ByteArray.data_append, Array.toList_append, List.replicate_succ']
theorem dots_size (i : Nat) : (dots i).size = i := by
  show (List.replicate i (46 : UInt8)).toArray.size = i
  simp
theorem dots_pos {n : Nat} : dots n = posB n (2 ^ n - 1) 0 := by
  have : posL n (2 ^ n - 1) 0 = List.replicate n 46 := by
    apply List.ext_getElem (by simp [posL])
    intro i h1 h2
    have h3 : i < n := by simpa using h2
    simp [posL, Nat.testBit_two_pow_sub_one, h3]
  rw [posB, this, dots]
theorem begin_spec {g : Gm} (hg : g.ok) : FDet Tryd.prog 39 [.g (gC g 0)] [(0, wB g)] 1 (.c (.str (posB g.ws.length (2 ^ g.ws.length - 1) 0))) [] 1 := by
  have hl := hg.len
  refine FSpec.of_body tok true Tryd.func39 rfl (by kernel_rfl) (by decide) (by simp [tupA, hpLt, tmLt, AV.lt, AE.lt, AC.lt, LL_cons, LL_nil, idOk, ABlk.lt, ints_LL, GB, tab64_LL, gC, wB, giC, noneB, gst, tC, pC]) (by simp [tupA, hpLt, tmLt, AV.lt, AE.lt, AC.lt, LL_cons, LL_nil, idOk, ABlk.lt, ints_LL, GB, tab64_LL, gC, wB, giC, noneB, gst, tC, pC]) (by show 1 ≤ _; decide) ?_
  refine Wk.on ?_
  refine Tr.loop (md := true) (X := Nat) (st := fun i => ⟨[(1, .c (.ptr 1 0)), (3, .c (.str (dots i))), (4, .c (.int .i64 i))], [(1, .own (gC g 0)), (0, wB g)], 2, 15, 1⟩) (inv := fun i => i ≤ g.ws.length) (μ := fun i => g.ws.length - i) (x0 := 0) (l := []) tok (by omega) ?_ ?_
  · exact Sub.nil ⟨rfl, rfl, (by simp [tab64_LL, gC, wB, giC, noneB, gst, tC, pC]), rfl, (by simp [tupA, hpLt, tmLt, AV.lt, AE.lt, AC.lt, LL_cons, LL_nil, idOk, ABlk.lt, ints_LL, GB, tab64_LL, gC, wB, giC, noneB, gst, tC, pC]), (by simp [tupA, hpLt, tmLt, AV.lt, AE.lt, AC.lt, LL_cons, LL_nil, idOk, ABlk.lt, ints_LL, GB, tab64_LL, gC, wB, giC, noneB, gst, tC, pC])⟩ (by (repeat (first | exact trivial | refine ⟨trivial, ?_⟩ | refine ⟨rfl, ?_⟩))) (by (repeat (first | exact trivial | refine ⟨trivial, ?_⟩ | refine ⟨rfl, ?_⟩)))
  · intro i hi
    have hs := dots_size i
    refine Wk.on ?_
    refine ⟨fun hc => ?_, fun hc => ?_⟩ <;> (try simp only [decide_eq_true_eq, decide_eq_false_iff_not, Decidable.not_not, Bool.not_true, Bool.not_false, ne_eq, cond_true, cond_false, Bool.not_eq_true', Bool.not_eq_false'] at hc)
    · refine Wk.on ?_
      refine ⟨by rw [hs]; show ((i + 1 : Nat) : Int) ≤ _; omega, ?_⟩
      rw [dots_succ]
      refine Wk.on ?_
      refine Again.mk (i + 1) (Sub.nil ⟨rfl, rfl, (by simp [tab64_LL, gC, wB, giC, noneB, gst, tC, pC]), rfl, (by simp [tupA, hpLt, tmLt, AV.lt, AE.lt, AC.lt, LL_cons, LL_nil, idOk, ABlk.lt, ints_LL, GB, tab64_LL, gC, wB, giC, noneB, gst, tC, pC]), (by simp [tupA, hpLt, tmLt, AV.lt, AE.lt, AC.lt, LL_cons, LL_nil, idOk, ABlk.lt, ints_LL, GB, tab64_LL, gC, wB, giC, noneB, gst, tC, pC])⟩ (by (repeat (first | exact trivial | refine ⟨trivial, ?_⟩ | refine ⟨rfl, ?_⟩))) (by (repeat (first | exact trivial | refine ⟨trivial, ?_⟩ | refine ⟨rfl, ?_⟩)))) (by omega) (by omega)
    · obtain rfl : i = g.ws.length := by omega
      rw [← dots_pos]
      refine Wk.on ?_
      exact AH.Fin.nil [] ⟨rfl, rfl, rfl⟩ (by first | exact trivial | (simp [tupA, hpLt, tmLt, AV.lt, AE.lt, AC.lt, LL_cons, LL_nil, idOk, ABlk.lt, ints_LL, GB, tab64_LL, gC, wB, giC, noneB, gst, tC, pC]; done) | (simp [tupA, hpLt, tmLt, AV.lt, AE.lt, AC.lt, LL_cons, LL_nil, idOk, ABlk.lt, ints_LL, GB, tab64_LL, gC, wB, giC, noneB, gst, tC, pC, rdn, wrn]; done)) trivial trivial rfl (by simp [GB])

/-- The number of a position. -/
def codeN : Nat → Nat → Nat → Nat
  | 0, _, _ => 0
  | n + 1, f, k => 3 * codeN n f k + if f.testBit n then 0 else if k.testBit n then 1 else 2
theorem codeN_lt (f k : Nat) : ∀ n, codeN n f k < 3 ^ n
  | 0 => by simp [codeN]
  | n + 1 => by
    have := codeN_lt f k n
    rw [codeN, Nat.pow_succ]
    split
    · omega
    · split <;> omega
theorem pow3_small {n : Nat} (h : n ≤ 10) : 3 ^ n ≤ 59049 := Nat.pow_le_pow_right (by omega) h
theorem code_spec {n f k : Nat} (hn : n ≤ 10) (c : Bool) : FDet Tryd.prog 84 [.c (.str (posB n f k)), .c (.bool c)] [] 0 (.c (.int .i64 (2 * codeN n f k + c.toNat : Nat))) [] 0 := by
  have hsz := posB_size n f k
  have hp3 := pow3_small hn
  have hcl := codeN_lt f k n
  refine FSpec.of_body tok true Tryd.func84 rfl (by kernel_rfl) (by decide) (by simp [tupA, hpLt, tmLt, AV.lt, AE.lt, AC.lt, LL_cons, LL_nil, idOk, ABlk.lt, ints_LL, GB, tab64_LL, gC, wB, giC, noneB, gst, tC, pC]) (by simp [tupA, hpLt, tmLt, AV.lt, AE.lt, AC.lt, LL_cons, LL_nil, idOk, ABlk.lt, ints_LL, GB, tab64_LL, gC, wB, giC, noneB, gst, tC, pC]) (by show 2 ≤ _; decide) ?_
  refine Wk.on ?_
  refine Tr.loop (md := true) (X := Nat) (st := fun i => ⟨[(0, .c (.str (posB n f k))), (1, .c (.bool c)), (5, .c (.int .i64 (codeN i f k))), (6, .c (.int .i64 i))], [], 0, 33, 0⟩) (inv := fun i => i ≤ n) (μ := fun i => n - i) (x0 := 0) (l := []) tok (by omega) ?_ ?_
  · exact Sub.nil ⟨rfl, rfl, (by simp [tab64_LL, gC, wB, giC, noneB, gst, tC, pC]), rfl, (by simp [tupA, hpLt, tmLt, AV.lt, AE.lt, AC.lt, LL_cons, LL_nil, idOk, ABlk.lt, ints_LL, GB, tab64_LL, gC, wB, giC, noneB, gst, tC, pC]), (by simp [tupA, hpLt, tmLt, AV.lt, AE.lt, AC.lt, LL_cons, LL_nil, idOk, ABlk.lt, ints_LL, GB, tab64_LL, gC, wB, giC, noneB, gst, tC, pC])⟩ (by (repeat (first | exact trivial | refine ⟨trivial, ?_⟩ | refine ⟨rfl, ?_⟩))) (by (repeat (first | exact trivial | refine ⟨trivial, ?_⟩ | refine ⟨rfl, ?_⟩)))
  · intro i hi
    have hci := codeN_lt f k i
    have hpi : 3 ^ i ≤ 3 ^ n := Nat.pow_le_pow_right (by omega) hi
    refine Wk.on ?_
    rw [hsz]
    refine ⟨fun hc => ?_, fun hc => ?_⟩ <;> (try simp only [decide_eq_true_eq, decide_eq_false_iff_not, Decidable.not_not, Bool.not_true, Bool.not_false, ne_eq, cond_true, cond_false, Bool.not_eq_true', Bool.not_eq_false'] at hc)
    · have hg := posL_getD (n := n) (f := f) (k := k) (show i < n by omega)
      have hcs : codeN (i + 1) f k = 3 * codeN i f k + if f.testBit i then 0 else if k.testBit i then 1 else 2 := rfl
      have hd : (((posB n f k).data.toList.getD (Int.toNat (i : Int)) 0).toNat) = if f.testBit i = true then 46 else if k.testBit i = true then 43 else 45 := by
        rw [Int.toNat_natCast]
        show ((posL n f k).getD i 0).toNat = _
        rw [hg]
        split
        · rfl
        · split <;> rfl
      refine Wk.on ?_
      rw [hd]
      by_cases hf : f.testBit i = true
      · rw [if_pos hf] at hd hcs ⊢
        refine Wk.on ?_
        rw [hd]
        refine Wk.on ?_
        refine Again.mk (i + 1) (Sub.nil ⟨rfl, rfl, (by simp [tab64_LL, gC, wB, giC, noneB, gst, tC, pC]), rfl, (by simp [tupA, hpLt, tmLt, AV.lt, AE.lt, AC.lt, LL_cons, LL_nil, idOk, ABlk.lt, ints_LL, GB, tab64_LL, gC, wB, giC, noneB, gst, tC, pC]), (by simp [tupA, hpLt, tmLt, AV.lt, AE.lt, AC.lt, LL_cons, LL_nil, idOk, ABlk.lt, ints_LL, GB, tab64_LL, gC, wB, giC, noneB, gst, tC, pC])⟩ ⟨rfl, rfl, by show AV.c (.int .i64 _) = AV.c (.int .i64 _); rw [hcs]; simp, rfl, trivial⟩ (by (repeat (first | exact trivial | refine ⟨trivial, ?_⟩ | refine ⟨rfl, ?_⟩)))) (by omega) (by omega)
      · rw [if_neg hf] at hd hcs ⊢
        by_cases hk : k.testBit i = true
        · rw [if_pos hk] at hd hcs ⊢
          refine Wk.on ?_
          rw [hd]
          refine Wk.on ?_
          refine Again.mk (i + 1) (Sub.nil ⟨rfl, rfl, (by simp [tab64_LL, gC, wB, giC, noneB, gst, tC, pC]), rfl, (by simp [tupA, hpLt, tmLt, AV.lt, AE.lt, AC.lt, LL_cons, LL_nil, idOk, ABlk.lt, ints_LL, GB, tab64_LL, gC, wB, giC, noneB, gst, tC, pC]), (by simp [tupA, hpLt, tmLt, AV.lt, AE.lt, AC.lt, LL_cons, LL_nil, idOk, ABlk.lt, ints_LL, GB, tab64_LL, gC, wB, giC, noneB, gst, tC, pC])⟩ ⟨rfl, rfl, by show AV.c (.int .i64 _) = AV.c (.int .i64 _); rw [hcs]; simp, rfl, trivial⟩ (by (repeat (first | exact trivial | refine ⟨trivial, ?_⟩ | refine ⟨rfl, ?_⟩)))) (by omega) (by omega)
        · rw [if_neg hk] at hd hcs ⊢
          refine Wk.on ?_
          rw [hd]
          refine Wk.on ?_
          refine Again.mk (i + 1) (Sub.nil ⟨rfl, rfl, (by simp [tab64_LL, gC, wB, giC, noneB, gst, tC, pC]), rfl, (by simp [tupA, hpLt, tmLt, AV.lt, AE.lt, AC.lt, LL_cons, LL_nil, idOk, ABlk.lt, ints_LL, GB, tab64_LL, gC, wB, giC, noneB, gst, tC, pC]), (by simp [tupA, hpLt, tmLt, AV.lt, AE.lt, AC.lt, LL_cons, LL_nil, idOk, ABlk.lt, ints_LL, GB, tab64_LL, gC, wB, giC, noneB, gst, tC, pC])⟩ ⟨rfl, rfl, by show AV.c (.int .i64 _) = AV.c (.int .i64 _); rw [hcs]; simp, rfl, trivial⟩ (by (repeat (first | exact trivial | refine ⟨trivial, ?_⟩ | refine ⟨rfl, ?_⟩)))) (by omega) (by omega)
    · obtain rfl : i = n := by omega
      refine Wk.on ?_
      cases c with
      | true =>
        refine Wk.on ?_
        exact AH.Fin.nil [] ⟨by show AV.c (.int .i64 _) = AV.c (.int .i64 _); simp, rfl, rfl⟩ (by first | exact trivial | (simp [tupA, hpLt, tmLt, AV.lt, AE.lt, AC.lt, LL_cons, LL_nil, idOk, ABlk.lt, ints_LL, GB, tab64_LL, gC, wB, giC, noneB, gst, tC, pC]; done) | (simp [tupA, hpLt, tmLt, AV.lt, AE.lt, AC.lt, LL_cons, LL_nil, idOk, ABlk.lt, ints_LL, GB, tab64_LL, gC, wB, giC, noneB, gst, tC, pC, rdn, wrn]; done)) trivial trivial rfl (by simp [GB])
      | false =>
        refine Wk.on ?_
        exact AH.Fin.nil [] ⟨by show AV.c (.int .i64 _) = AV.c (.int .i64 _); simp, rfl, rfl⟩ (by first | exact trivial | (simp [tupA, hpLt, tmLt, AV.lt, AE.lt, AC.lt, LL_cons, LL_nil, idOk, ABlk.lt, ints_LL, GB, tab64_LL, gC, wB, giC, noneB, gst, tC, pC]; done) | (simp [tupA, hpLt, tmLt, AV.lt, AE.lt, AC.lt, LL_cons, LL_nil, idOk, ABlk.lt, ints_LL, GB, tab64_LL, gC, wB, giC, noneB, gst, tC, pC, rdn, wrn]; done)) trivial trivial rfl (by simp [GB])
end Go.Proofs.YtfphkpdobbffeaaDoor

/-
  Contracts: the free wires of a position, the reference's Joined, Known, Put.
-/
namespace Go.Proofs.YtfphkpdobbffeaaDoor
open Go Go.AH
set_option maxRecDepth 100000
set_option maxHeartbeats 1000000

theorem pos_at {n f k i : Nat} (h : i < n) : (((posB n f k).data.toList.getD (Int.toNat (i : Int)) 0).toNat) = if f.testBit i = true then 46 else if k.testBit i = true then 43 else 45 := by
  rw [Int.toNat_natCast]
  show ((posL n f k).getD i 0).toNat = _
  rw [posL_getD h]
  split
  · rfl
  · split <;> rfl
/-- The kept wires among the first. -/
def setTo (n f k : Nat) : Nat → Nat
  | 0 => 0
  | i + 1 => if f.testBit i = true then setTo n f k i else if k.testBit i = true then setTo n f k i ||| 2 ^ i else setTo n f k i
theorem setTo_bit (n f k j : Nat) : ∀ i, (setTo n f k i).testBit j = (decide (j < i) && !f.testBit j && k.testBit j)
  | 0 => by simp [setTo]
  | i + 1 => by
    have ih := setTo_bit n f k j i
    by_cases e : j = i
    · subst e
      rw [setTo]
      split
      · rename_i h; rw [ih]; simp [h]
      · rename_i h
        split
        · rename_i h2; rw [Nat.testBit_or, ih, Nat.testBit_two_pow]; simp [h, h2]
        · rename_i h2; rw [ih]; simp [h2]
    · have : decide (j < i + 1) = decide (j < i) := by simp; omega
      rw [setTo, this, ← ih]
      split
      · rfl
      · split
        · rw [Nat.testBit_or, Nat.testBit_two_pow]; simp; omega
        · rfl
theorem setTo_all {n f k : Nat} (hk : k < 2 ^ n) (hd : ∀ i, f.testBit i = true → k.testBit i = false) : setTo n f k n = k := by
  refine Nat.eq_of_testBit_eq fun j => ?_
  rw [setTo_bit]
  cases h : k.testBit j with
  | false => simp
  | true =>
    have h1 := lt_len hk h
    have h2 : f.testBit j = false := by
      cases h3 : f.testBit j with
      | false => rfl
      | true => rw [hd j h3] at h; cases h
    simp [h1, h2]
theorem setTo_lt (n f k : Nat) : ∀ i, setTo n f k i < 2 ^ i
  | 0 => by simp [setTo]
  | i + 1 => by
    have ih := setTo_lt n f k i
    have h2 : 2 ^ i < 2 ^ (i + 1) := (Nat.pow_lt_pow_iff_right (by omega)).2 (by omega)
    rw [setTo]
    split
    · omega
    · split
      · exact or_lt (by omega) h2
      · omega
theorem joinedR_spec {g : Gm} (hg : g.ok) {f k : Nat} (hk : k < 2 ^ g.ws.length) (hd : ∀ i, f.testBit i = true → k.testBit i = false) : FDet Tryd.prog 50 [.g (gC g 0), .c (.str (posB g.ws.length f k))] [(0, wB g)] 1 (.c (.bool (joinedB g k))) [] 1 := by
  have hl := hg.len
  have hsz := posB_size g.ws.length f k
  refine FSpec.of_body tok true Tryd.func50 rfl (by kernel_rfl) (by decide) (by simp [tupA, hpLt, tmLt, AV.lt, AE.lt, AC.lt, LL_cons, LL_nil, idOk, ABlk.lt, ints_LL, GB, tab64_LL, gC, wB, giC, noneB, gst, tC, pC]) (by simp [tupA, hpLt, tmLt, AV.lt, AE.lt, AC.lt, LL_cons, LL_nil, idOk, ABlk.lt, ints_LL, GB, tab64_LL, gC, wB, giC, noneB, gst, tC, pC]) (by show 2 ≤ _; decide) ?_
  refine Wk.on ?_
  refine Tr.loop (md := true) (X := Nat) (st := fun i => ⟨[(1, .c (.str (posB g.ws.length f k))), (2, .c (.ptr 1 0)), (5, .c (.int .i64 (setTo g.ws.length f k i))), (6, .c (.int .i64 i))], [(1, .own (gC g 0)), (0, wB g)], 2, 36, 1⟩) (inv := fun i => i ≤ g.ws.length) (μ := fun i => g.ws.length - i) (x0 := 0) (l := []) tok (by omega) ?_ ?_
  · exact Sub.nil ⟨rfl, rfl, (by simp [tab64_LL, gC, wB, giC, noneB, gst, tC, pC]), rfl, (by simp [tupA, hpLt, tmLt, AV.lt, AE.lt, AC.lt, LL_cons, LL_nil, idOk, ABlk.lt, ints_LL, GB, tab64_LL, gC, wB, giC, noneB, gst, tC, pC]), (by simp [tupA, hpLt, tmLt, AV.lt, AE.lt, AC.lt, LL_cons, LL_nil, idOk, ABlk.lt, ints_LL, GB, tab64_LL, gC, wB, giC, noneB, gst, tC, pC])⟩ (by (repeat (first | exact trivial | refine ⟨trivial, ?_⟩ | refine ⟨rfl, ?_⟩))) (by (repeat (first | exact trivial | refine ⟨trivial, ?_⟩ | refine ⟨rfl, ?_⟩)))
  · intro i hi
    have hsl := setTo_lt g.ws.length f k i
    refine Wk.on ?_
    rw [hsz]
    refine ⟨fun hc => ?_, fun hc => ?_⟩ <;> (try simp only [decide_eq_true_eq, decide_eq_false_iff_not, Decidable.not_not, Bool.not_true, Bool.not_false, ne_eq, cond_true, cond_false, Bool.not_eq_true', Bool.not_eq_false'] at hc)
    · have hpi : 2 ^ i < 2048 := pow_small (by omega)
      have hpa := pos_at (f := f) (k := k) (show i < g.ws.length by omega)
      have hss : setTo g.ws.length f k (i + 1) = if f.testBit i = true then setTo g.ws.length f k i else if k.testBit i = true then setTo g.ws.length f k i ||| 2 ^ i else setTo g.ws.length f k i := rfl
      refine Wk.on ?_
      rw [hpa]
      by_cases hf : f.testBit i = true
      · rw [if_pos hf] at hss ⊢
        refine Wk.on ?_
        refine Again.mk (i + 1) (Sub.nil ⟨rfl, rfl, (by simp [tab64_LL, gC, wB, giC, noneB, gst, tC, pC]), rfl, (by simp [tupA, hpLt, tmLt, AV.lt, AE.lt, AC.lt, LL_cons, LL_nil, idOk, ABlk.lt, ints_LL, GB, tab64_LL, gC, wB, giC, noneB, gst, tC, pC]), (by simp [tupA, hpLt, tmLt, AV.lt, AE.lt, AC.lt, LL_cons, LL_nil, idOk, ABlk.lt, ints_LL, GB, tab64_LL, gC, wB, giC, noneB, gst, tC, pC])⟩ ⟨rfl, rfl, by rw [hss]; rfl, rfl, trivial⟩ (by (repeat (first | exact trivial | refine ⟨trivial, ?_⟩ | refine ⟨rfl, ?_⟩)))) (by omega) (by omega)
      · rw [if_neg hf] at hss ⊢
        by_cases hkb : k.testBit i = true
        · rw [if_pos hkb] at hss ⊢
          refine Wk.on ?_
          refine ⟨⟨by omega, by omega, by rw [shl1 rfl]; unfold I64; omega⟩, ?_⟩
          rw [shl1 rfl]
          refine Wk.on ?_
          refine Again.mk (i + 1) (Sub.nil ⟨rfl, rfl, (by simp [tab64_LL, gC, wB, giC, noneB, gst, tC, pC]), rfl, (by simp [tupA, hpLt, tmLt, AV.lt, AE.lt, AC.lt, LL_cons, LL_nil, idOk, ABlk.lt, ints_LL, GB, tab64_LL, gC, wB, giC, noneB, gst, tC, pC]), (by simp [tupA, hpLt, tmLt, AV.lt, AE.lt, AC.lt, LL_cons, LL_nil, idOk, ABlk.lt, ints_LL, GB, tab64_LL, gC, wB, giC, noneB, gst, tC, pC])⟩ ⟨rfl, rfl, by rw [hss]; rfl, rfl, trivial⟩ (by (repeat (first | exact trivial | refine ⟨trivial, ?_⟩ | refine ⟨rfl, ?_⟩)))) (by omega) (by omega)
        · rw [if_neg hkb] at hss ⊢
          refine Wk.on ?_
          refine Again.mk (i + 1) (Sub.nil ⟨rfl, rfl, (by simp [tab64_LL, gC, wB, giC, noneB, gst, tC, pC]), rfl, (by simp [tupA, hpLt, tmLt, AV.lt, AE.lt, AC.lt, LL_cons, LL_nil, idOk, ABlk.lt, ints_LL, GB, tab64_LL, gC, wB, giC, noneB, gst, tC, pC]), (by simp [tupA, hpLt, tmLt, AV.lt, AE.lt, AC.lt, LL_cons, LL_nil, idOk, ABlk.lt, ints_LL, GB, tab64_LL, gC, wB, giC, noneB, gst, tC, pC])⟩ ⟨rfl, rfl, by rw [hss]; rfl, rfl, trivial⟩ (by (repeat (first | exact trivial | refine ⟨trivial, ?_⟩ | refine ⟨rfl, ?_⟩)))) (by omega) (by omega)
    · obtain rfl : i = g.ws.length := by omega
      have hp : 2 ^ g.ws.length ≤ 1024 := Nat.pow_le_pow_right (by omega) hg.len
      have hs8 := hg.s
      have ht8 := hg.t
      have hlab := labels hg k g.ws.length (Nat.le_refl _)
      rw [← kept_eq hg hk] at hlab
      refine Wk.on ?_
      rw [setTo_all hk hd]
      refine CallA.det [0] (.c (.row 2 g.n)) ([(1, .own (gC g 0)), (0, wB g), (2, .row 3 1 (ints (grpR g k g.ws.length)))]) (groups_spec hg (set := k) (by omega)) (by first | rfl | exact congrArg AV.g (ints_ren _ _) | (simp [ints_ren, AV.ren, ABlk.ren, AC.ren, AE.ren, qq]; done)) rfl (by (repeat (first | exact trivial | refine ⟨⟨(by first | exact .inl (by decide) | exact .inr (by decide)), (by first | (refine Or.inl ?_; first | rfl | exact congrArg some (ints_ren _ _).symm | exact congrArg ABlk.own (ints_ren _ _).symm | exact congrArg some (tab64_ren _).symm) | rfl | exact congrArg some (ints_ren _ _).symm | exact congrArg ABlk.own (ints_ren _ _).symm | exact congrArg some (tab64_ren _).symm | exact Or.inr ⟨rfl, rfl⟩)⟩, ?_⟩))) (by first | rfl | exact congrArg AV.g (ints_ren _ _) | (simp [ints_ren, AV.ren, ABlk.ren, AC.ren, AE.ren, qq]; done)) (by first | rfl | (simp [behind, gone, lk, up, del, qq, ABlk.wr, GB, ints_ren, AV.ren, ABlk.ren, AC.ren, AE.ren]; done) | (simp [behind, gone, lk, up, del, qq, ABlk.wr, GB, ints_ren, AV.ren, ABlk.ren, AC.ren, AE.ren]; rfl)) ?_
      refine Wk.on ?_
      refine Tr.draw (md := true) [⟨[], [26, 27, 30, 31, 32, 33, 34], [], [], []⟩, ⟨[], [25, 30, 31, 32, 33, 34], [0], [], []⟩, ⟨[1], [25, 30, 31, 32, 33, 34], [0], [], []⟩, ⟨[0, 1, 2], [30, 31, 32, 33, 34], [], [], []⟩, ⟨[0, 1, 2, 3], [30, 31, 32, 33, 34], [], [], []⟩, ⟨[], [25, 26, 27, 28, 29, 31, 32], [0, 1, 2, 3, 4], [], []⟩, ⟨[], [25, 26, 27, 28, 29, 30], [0, 1, 2, 3, 4, 5], [], []⟩, ⟨[6], [25, 26, 27, 28, 29, 30], [0, 1, 2, 3, 4, 5], [], []⟩, ⟨[5, 6, 7], [25, 26, 27, 28, 29], [0, 1, 2, 3, 4], [], []⟩, ⟨[5, 6, 7, 8], [25, 26, 27, 28, 29], [0, 1, 2, 3, 4], [], []⟩] tok (by kernel_rfl) (by kernel_rfl) ?_
      have hgl : (ints (grpR g k g.ws.length)).length = g.n := by rw [ints_len, grpR_len]
      have hat : ∀ u : Nat, u < g.n → (ints (grpR g k g.ws.length)).getD ((u : Int).toNat * 1) (.int .i64 0) = .int .i64 (root (keptL g k) u : Nat) := fun u hu => by
        rw [ints_getD, Int.toNat_natCast, Nat.mul_one, hlab u hu]
      refine Wk.on ?_
      rw [hat g.s hs8]
      refine Wk.on ?_
      rw [hat g.t ht8]
      refine Wk.on ?_
      exact AH.Fin.nil [] ⟨by show AV.c (.bool _) = AV.c (.bool _); congr 2; show decide _ = decide (root (keptL g k) g.s = root (keptL g k) g.t); exact decide_eq_decide.2 (by omega), rfl, rfl⟩ (by first | exact trivial | (simp [tupA, hpLt, tmLt, AV.lt, AE.lt, AC.lt, LL_cons, LL_nil, idOk, ABlk.lt, ints_LL, GB, tab64_LL, gC, wB, giC, noneB, gst, tC, pC]; done) | (simp [tupA, hpLt, tmLt, AV.lt, AE.lt, AC.lt, LL_cons, LL_nil, idOk, ABlk.lt, ints_LL, GB, tab64_LL, gC, wB, giC, noneB, gst, tC, pC, rdn, wrn]; done)) trivial trivial rfl (by simp [GB])
end Go.Proofs.YtfphkpdobbffeaaDoor

/-
  Contracts: the room for what is known, the free wires, a wire put.
-/
namespace Go.Proofs.YtfphkpdobbffeaaDoor
open Go Go.AH
set_option maxRecDepth 100000
set_option maxHeartbeats 1000000

theorem rep_ints : ∀ n, rep n [AC.int .i64 0] = ints (List.replicate n 0)
  | 0 => rfl
  | n + 1 => by rw [rep, rep_ints n]; rfl
theorem known_spec {g : Gm} (hg : g.ok) : FDet Tryd.prog 42 [.g (gC g 0)] [(0, wB g)] 1 (.c (.sl 1 0 (2 * 3 ^ g.ws.length) (some (2 * 3 ^ g.ws.length)))) [(1, .own (ints (List.replicate (2 * 3 ^ g.ws.length) 0)))] 2 := by
  have hl := hg.len
  have hp3 := pow3_small hl
  refine FSpec.of_body tok true Tryd.func42 rfl (by kernel_rfl) (by decide) (by simp [tupA, hpLt, tmLt, AV.lt, AE.lt, AC.lt, LL_cons, LL_nil, idOk, ABlk.lt, ints_LL, GB, tab64_LL, gC, wB, giC, noneB, gst, tC, pC]) (by simp [tupA, hpLt, tmLt, AV.lt, AE.lt, AC.lt, LL_cons, LL_nil, idOk, ABlk.lt, ints_LL, GB, tab64_LL, gC, wB, giC, noneB, gst, tC, pC]) (by show 1 ≤ _; decide) ?_
  refine Wk.on ?_
  refine Tr.loop (md := true) (X := Nat) (st := fun i => ⟨[(1, .c (.ptr 1 0)), (3, .c (.int .i64 (2 * 3 ^ i : Nat))), (4, .c (.int .i64 i))], [(1, .own (gC g 0)), (0, wB g)], 2, 16, 1⟩) (inv := fun i => i ≤ g.ws.length) (μ := fun i => g.ws.length - i) (x0 := 0) (l := []) tok (by omega) ?_ ?_
  · exact Sub.nil ⟨rfl, rfl, (by simp [tab64_LL, gC, wB, giC, noneB, gst, tC, pC]), rfl, (by simp [tupA, hpLt, tmLt, AV.lt, AE.lt, AC.lt, LL_cons, LL_nil, idOk, ABlk.lt, ints_LL, GB, tab64_LL, gC, wB, giC, noneB, gst, tC, pC]), (by simp [tupA, hpLt, tmLt, AV.lt, AE.lt, AC.lt, LL_cons, LL_nil, idOk, ABlk.lt, ints_LL, GB, tab64_LL, gC, wB, giC, noneB, gst, tC, pC])⟩ (by (repeat (first | exact trivial | refine ⟨trivial, ?_⟩ | refine ⟨rfl, ?_⟩))) (by (repeat (first | exact trivial | refine ⟨trivial, ?_⟩ | refine ⟨rfl, ?_⟩)))
  · intro i hi
    have hpi : 3 ^ i ≤ 3 ^ g.ws.length := Nat.pow_le_pow_right (by omega) hi
    have hps : 3 ^ (i + 1) = 3 * 3 ^ i := by rw [Nat.pow_succ]; omega
    refine Wk.on ?_
    refine ⟨fun hc => ?_, fun hc => ?_⟩ <;> (try simp only [decide_eq_true_eq, decide_eq_false_iff_not, Decidable.not_not, Bool.not_true, Bool.not_false, ne_eq, cond_true, cond_false, Bool.not_eq_true', Bool.not_eq_false'] at hc)
    · refine Wk.on ?_
      refine Again.mk (i + 1) (Sub.nil ⟨rfl, rfl, (by simp [tab64_LL, gC, wB, giC, noneB, gst, tC, pC]), rfl, (by simp [tupA, hpLt, tmLt, AV.lt, AE.lt, AC.lt, LL_cons, LL_nil, idOk, ABlk.lt, ints_LL, GB, tab64_LL, gC, wB, giC, noneB, gst, tC, pC]), (by simp [tupA, hpLt, tmLt, AV.lt, AE.lt, AC.lt, LL_cons, LL_nil, idOk, ABlk.lt, ints_LL, GB, tab64_LL, gC, wB, giC, noneB, gst, tC, pC])⟩ ⟨rfl, by show AV.c (.int .i64 _) = AV.c (.int .i64 _); congr 2; omega, rfl, trivial⟩ (by (repeat (first | exact trivial | refine ⟨trivial, ?_⟩ | refine ⟨rfl, ?_⟩)))) (by omega) (by omega)
    · obtain rfl : i = g.ws.length := by omega
      refine Wk.on ?_
      refine ⟨⟨Nat.le_of_ble_eq_true rfl, by decide, rfl, by omega, rfl, by show (8 : Int) * _ ≤ _; omega, by omega⟩, ?_⟩
      refine Wk.on ?_
      exact AH.Fin.new [2] _ _ ⟨rfl, rfl, rfl⟩ rfl ⟨ownEq (by rw [Int.toNat_natCast]; exact rep_ints _), trivial⟩ rfl (by simp [tupA, hpLt, tmLt, AV.lt, AE.lt, AC.lt, LL_cons, LL_nil, idOk, ABlk.lt, ints_LL, GB, tab64_LL, gC, wB, giC, noneB, gst, tC, pC]) (by simp [tupA, hpLt, tmLt, AV.lt, AE.lt, AC.lt, LL_cons, LL_nil, idOk, ABlk.lt, ints_LL, GB, tab64_LL, gC, wB, giC, noneB, gst, tC, pC])
end Go.Proofs.YtfphkpdobbffeaaDoor

/-
  Contract: the free wires of a position, for the reference.
-/
namespace Go.Proofs.YtfphkpdobbffeaaDoor
open Go Go.AH
set_option maxRecDepth 100000
set_option maxHeartbeats 1000000

def freeTo (f i : Nat) : List Int := ((List.range i).filter f.testBit).map Int.ofNat
theorem freeTo_succ (f i : Nat) : freeTo f (i + 1) = if f.testBit i = true then freeTo f i ++ [(i : Int)] else freeTo f i := by
  simp only [freeTo, List.range_succ, List.filter_append, List.map_append]
  cases h : f.testBit i <;> simp [h, List.filter_cons]
theorem freeTo_all {n f : Nat} (hn : n ≤ 10) (hf : f < 2 ^ n) : freeTo f n = mem f := by
  rw [mem, memN, freeTo, range_filter _ 10 hn fun i hi => by
    cases h : f.testBit i with
    | false => rfl
    | true => have := lt_len hf h; omega]
theorem freeTo_len (f i : Nat) : (freeTo f i).length ≤ i := by
  simp only [freeTo, List.length_map]
  exact Nat.le_trans (List.length_filter_le _ _) (by simp)
def frV : List Int → AC
  | [] => .nils
  | _ :: l => .row 0 (l.length + 1)
def frH : List Int → List (Nat × ABlk)
  | [] => []
  | x :: l => [(0, .row 3 1 (ints (x :: l)))]
def frK : List Int → Nat
  | [] => 0
  | _ => 1
theorem free_spec {n f k : Nat} (hn : n ≤ 10) (hf : f < 2 ^ n) : FDet Tryd.prog 45 [.c (.str (posB n f k))] [] 0 (.c (frV (mem f))) (frH (mem f)) (frK (mem f)) := by
  have hsz := posB_size n f k
  rw [← freeTo_all hn hf]
  refine FSpec.of_body tok true Tryd.func45 rfl (by kernel_rfl) (by decide) (by simp [tupA, hpLt, tmLt, AV.lt, AE.lt, AC.lt, LL_cons, LL_nil, idOk, ABlk.lt, ints_LL, GB, tab64_LL, gC, wB, giC, noneB, gst, tC, pC, frV, frH, frK]) (by simp [tupA, hpLt, tmLt, AV.lt, AE.lt, AC.lt, LL_cons, LL_nil, idOk, ABlk.lt, ints_LL, GB, tab64_LL, gC, wB, giC, noneB, gst, tC, pC, frV, frH, frK]) (by show 1 ≤ _; decide) ?_
  refine Wk.on ?_
  refine Tr.loop (md := true) (X := Nat × List Int) (st := fun p => ⟨[(0, .c (.str (posB n f k))), (3, .c (frV p.2)), (4, .c (.int .i64 p.1))], frH p.2, frK p.2, 20, 0⟩) (inv := fun p => p.1 ≤ n ∧ p.2 = freeTo f p.1) (μ := fun p => n - p.1) (x0 := (0, [])) (l := []) tok ⟨Nat.zero_le _, rfl⟩ ?_ ?_
  · exact Sub.nil ⟨rfl, rfl, (by simp [tab64_LL, gC, wB, giC, noneB, gst, tC, pC, frV, frH, frK]), rfl, (by simp [tupA, hpLt, tmLt, AV.lt, AE.lt, AC.lt, LL_cons, LL_nil, idOk, ABlk.lt, ints_LL, GB, tab64_LL, gC, wB, giC, noneB, gst, tC, pC, frV, frH, frK]), (by simp [tupA, hpLt, tmLt, AV.lt, AE.lt, AC.lt, LL_cons, LL_nil, idOk, ABlk.lt, ints_LL, GB, tab64_LL, gC, wB, giC, noneB, gst, tC, pC, frV, frH, frK])⟩ ⟨rfl, rfl, rfl, trivial⟩ trivial
  · rintro ⟨i, l⟩ ⟨hi, hl⟩
    dsimp only at hi hl
    have hll := freeTo_len f i
    rw [← hl] at hll
    have hsu := freeTo_succ f i
    rw [← hl] at hsu
    rcases l with _ | ⟨x, l⟩
    · dsimp only [frV, frH, frK]
      refine Wk.on ?_
      rw [hsz]
      refine ⟨fun hc => ?_, fun hc => ?_⟩ <;> (try simp only [decide_eq_true_eq, decide_eq_false_iff_not, Decidable.not_not, Bool.not_true, Bool.not_false, ne_eq, cond_true, cond_false, Bool.not_eq_true', Bool.not_eq_false'] at hc)
      · have hpa := pos_at (f := f) (k := k) (show i < n by omega)
        refine Wk.on ?_
        rw [hpa]
        by_cases hb : f.testBit i = true
        · rw [if_pos hb] at hsu ⊢
          refine Wk.on ?_
          refine Again.mk (i + 1, [(i : Int)]) (Sub.new [(0, 1)] ⟨rfl, rfl, Nat.le_of_ble_eq_true rfl, Nat.le_of_ble_eq_true rfl⟩ rfl ⟨rfl, rfl, rfl, trivial⟩ ⟨rfl, trivial⟩ rfl (by simp [tupA, hpLt, tmLt, AV.lt, AE.lt, AC.lt, LL_cons, LL_nil, idOk, ABlk.lt, ints_LL, GB, tab64_LL, gC, wB, giC, noneB, gst, tC, pC, frV, frH, frK]) (by simp [tupA, hpLt, tmLt, AV.lt, AE.lt, AC.lt, LL_cons, LL_nil, idOk, ABlk.lt, ints_LL, GB, tab64_LL, gC, wB, giC, noneB, gst, tC, pC, frV, frH, frK])) ⟨by omega, by show [(i : Int)] = freeTo f (i + 1); rw [hsu]; rfl⟩ (by show n - (i + 1) < n - i; omega)
        · have hne : ¬ (((if f.testBit i = true then 46 else if k.testBit i = true then 43 else 45 : Nat) : Int) = 46) := by rw [if_neg hb]; split <;> decide
          rw [if_neg hb] at hsu
          refine ⟨fun h => absurd (of_decide_eq_true h) hne, fun _ => ?_⟩
          refine Wk.on ?_
          refine Again.mk (i + 1, []) (Sub.nil ⟨rfl, rfl, (by simp [tab64_LL, gC, wB, giC, noneB, gst, tC, pC, frV, frH, frK]), rfl, (by simp [tupA, hpLt, tmLt, AV.lt, AE.lt, AC.lt, LL_cons, LL_nil, idOk, ABlk.lt, ints_LL, GB, tab64_LL, gC, wB, giC, noneB, gst, tC, pC, frV, frH, frK]), (by simp [tupA, hpLt, tmLt, AV.lt, AE.lt, AC.lt, LL_cons, LL_nil, idOk, ABlk.lt, ints_LL, GB, tab64_LL, gC, wB, giC, noneB, gst, tC, pC, frV, frH, frK])⟩ ⟨rfl, rfl, rfl, trivial⟩ trivial) ⟨by omega, by show [] = freeTo f (i + 1); rw [hsu]⟩ (by show n - (i + 1) < n - i; omega)
      · obtain rfl : i = n := by omega
        rw [← hl]
        refine Wk.on ?_
        exact AH.Fin.nil [] ⟨rfl, rfl, rfl⟩ (by first | exact trivial | (simp [tupA, hpLt, tmLt, AV.lt, AE.lt, AC.lt, LL_cons, LL_nil, idOk, ABlk.lt, ints_LL, GB, tab64_LL, gC, wB, giC, noneB, gst, tC, pC, frV, frH, frK]; done) | (simp [tupA, hpLt, tmLt, AV.lt, AE.lt, AC.lt, LL_cons, LL_nil, idOk, ABlk.lt, ints_LL, GB, tab64_LL, gC, wB, giC, noneB, gst, tC, pC, frV, frH, frK, rdn, wrn]; done)) trivial trivial rfl (by simp [GB])
    · dsimp only [frV, frH, frK]
      have hl2 : l.length + 1 ≤ i := hll
      refine Wk.on ?_
      rw [hsz]
      refine ⟨fun hc => ?_, fun hc => ?_⟩ <;> (try simp only [decide_eq_true_eq, decide_eq_false_iff_not, Decidable.not_not, Bool.not_true, Bool.not_false, ne_eq, cond_true, cond_false, Bool.not_eq_true', Bool.not_eq_false'] at hc)
      · have hpa := pos_at (f := f) (k := k) (show i < n by omega)
        refine Wk.on ?_
        rw [hpa]
        by_cases hb : f.testBit i = true
        · rw [if_pos hb] at hsu ⊢
          refine Wk.on ?_
          refine ⟨⟨Nat.le_of_ble_eq_true rfl, rfl, rfl, by rw [ints_len]; simp, by show ((l.length + 1 + 1 : Nat) : Int) * 8 ≤ _; omega, by omega⟩, ?_⟩
          refine Wk.on ?_
          have e : (l ++ [(i : Int)]).length = l.length + 1 := by simp
          refine Again.mk (i + 1, x :: (l ++ [(i : Int)])) (Sub.new [(0, 2)] ⟨rfl, rfl, Nat.le_of_ble_eq_true rfl, Nat.le_of_ble_eq_true rfl⟩ rfl ⟨rfl, by show some (AV.c (.row 2 (l.length + 1 + 1))) = some (AV.c (.row 2 ((l ++ [(i : Int)]).length + 1))); rw [e], rfl, trivial⟩ ⟨rowEq (by show ints (x :: l) ++ [.int .i64 (i : Int)] = _; simp [ints]), trivial⟩ rfl (by simp [tupA, hpLt, tmLt, AV.lt, AE.lt, AC.lt, LL_cons, LL_nil, idOk, ABlk.lt, ints_LL, GB, tab64_LL, gC, wB, giC, noneB, gst, tC, pC, frV, frH, frK]) (by simp [tupA, hpLt, tmLt, AV.lt, AE.lt, AC.lt, LL_cons, LL_nil, idOk, ABlk.lt, ints_LL, GB, tab64_LL, gC, wB, giC, noneB, gst, tC, pC, frV, frH, frK])) ⟨by omega, by show x :: (l ++ [(i : Int)]) = freeTo f (i + 1); rw [hsu]; rfl⟩ (by show n - (i + 1) < n - i; omega)
        · have hne : ¬ (((if f.testBit i = true then 46 else if k.testBit i = true then 43 else 45 : Nat) : Int) = 46) := by rw [if_neg hb]; split <;> decide
          rw [if_neg hb] at hsu
          refine ⟨fun h => absurd (of_decide_eq_true h) hne, fun _ => ?_⟩
          refine Wk.on ?_
          refine Again.mk (i + 1, x :: l) (Sub.nil ⟨rfl, rfl, (by simp [tab64_LL, gC, wB, giC, noneB, gst, tC, pC, frV, frH, frK]), rfl, (by simp [tupA, hpLt, tmLt, AV.lt, AE.lt, AC.lt, LL_cons, LL_nil, idOk, ABlk.lt, ints_LL, GB, tab64_LL, gC, wB, giC, noneB, gst, tC, pC, frV, frH, frK]), (by simp [tupA, hpLt, tmLt, AV.lt, AE.lt, AC.lt, LL_cons, LL_nil, idOk, ABlk.lt, ints_LL, GB, tab64_LL, gC, wB, giC, noneB, gst, tC, pC, frV, frH, frK])⟩ ⟨rfl, rfl, rfl, trivial⟩ ⟨rfl, trivial⟩) ⟨by omega, by show x :: l = freeTo f (i + 1); rw [hsu]⟩ (by show n - (i + 1) < n - i; omega)
      · obtain rfl : i = n := by omega
        rw [← hl]
        refine Wk.on ?_
        exact AH.Fin.new [0] _ _ ⟨rfl, rfl, rfl⟩ rfl ⟨rowEq rfl, trivial⟩ rfl (by simp [tupA, hpLt, tmLt, AV.lt, AE.lt, AC.lt, LL_cons, LL_nil, idOk, ABlk.lt, ints_LL, GB, tab64_LL, gC, wB, giC, noneB, gst, tC, pC, frV, frH, frK]) (by simp [tupA, hpLt, tmLt, AV.lt, AE.lt, AC.lt, LL_cons, LL_nil, idOk, ABlk.lt, ints_LL, GB, tab64_LL, gC, wB, giC, noneB, gst, tC, pC, frV, frH, frK])
end Go.Proofs.YtfphkpdobbffeaaDoor

/-
  Contract: a wire put into a position, for the reference.
-/
namespace Go.Proofs.YtfphkpdobbffeaaDoor
open Go Go.AH
set_option maxRecDepth 100000
set_option maxHeartbeats 1000000

theorem ext_bytes (l : List UInt8) (s e : Nat) : (⟨l.toArray⟩ : ByteArray).extract s e = ⟨((l.drop s).take (e - s)).toArray⟩ := by
  apply ByteArray.ext
  apply Array.ext'
  simp [ByteArray.data_extract, List.extract_eq_take_drop]
theorem app_bytes (l m : List UInt8) : (⟨l.toArray⟩ : ByteArray) ++ ⟨m.toArray⟩ = ⟨(l ++ m).toArray⟩ := by
  apply ByteArray.ext
  apply Array.ext'
  simp [ByteArray.data_append]
theorem put_spec {n f k f' k' w : Nat} {ch : UInt8} (hn : n ≤ 10) (hw : w < n) (he : (posL n f k).take w ++ [ch] ++ (posL n f k).drop (w + 1) = posL n f' k') : FDet Tryd.prog 46 [.c (.str (posB n f k)), .c (.int .i64 w), .c (.int .u8 (ch.toNat : Int))] [] 0 (.c (.str (posB n f' k'))) [] 0 := by
  have hsz := posB_size n f k
  have hch : ch.toNat < 256 := ch.toNat_lt
  refine FSpec.of_body tok true Tryd.func46 rfl (by kernel_rfl) (by decide) (by simp [tupA, hpLt, tmLt, AV.lt, AE.lt, AC.lt, LL_cons, LL_nil, idOk, ABlk.lt, ints_LL, GB, tab64_LL, gC, wB, giC, noneB, gst, tC, pC]) (by simp [tupA, hpLt, tmLt, AV.lt, AE.lt, AC.lt, LL_cons, LL_nil, idOk, ABlk.lt, ints_LL, GB, tab64_LL, gC, wB, giC, noneB, gst, tC, pC]) (by show 3 ≤ _; decide) ?_
  refine Wk.on ?_
  refine Tr.draw (md := true) [⟨[], [8, 10, 11, 12, 14, 15, 16, 17], [], [], []⟩, ⟨[], [7, 10, 11, 12, 14, 15, 16, 17], [0], [], []⟩, ⟨[0, 1], [10, 11, 12, 14, 15, 16, 17], [], [], []⟩, ⟨[], [7, 8, 9, 14, 15, 16, 17], [0, 1, 2], [], []⟩, ⟨[3], [7, 8, 9, 14, 15, 16, 17], [0, 1, 2], [], []⟩, ⟨[3, 4], [7, 8, 9, 14, 15, 16, 17], [0, 1, 2], [], []⟩, ⟨[0, 1, 2, 3, 4, 5], [14, 15, 16, 17], [], [], []⟩, ⟨[], [7, 8, 9, 10, 11, 12, 13, 15, 16], [0, 1, 2, 3, 4, 5, 6], [], []⟩, ⟨[], [7, 8, 9, 10, 11, 12, 13, 14], [0, 1, 2, 3, 4, 5, 6, 7], [], []⟩, ⟨[8], [7, 8, 9, 10, 11, 12, 13, 14], [0, 1, 2, 3, 4, 5, 6, 7], [], []⟩, ⟨[7, 8, 9], [7, 8, 9, 10, 11, 12, 13], [0, 1, 2, 3, 4, 5, 6], [], []⟩] tok (by kernel_rfl) (by kernel_rfl) ?_
  refine Wk.on ?_
  rw [hsz]
  refine ⟨⟨Int.le_refl 0, by show (0 : Int) ≤ (w : Int); omega, by show (w : Int) ≤ (n : Int); omega⟩, ?_⟩
  refine Wk.on ?_
  have e1 : (posB n f k).extract ((none : Option Int).getD 0).toNat ((some (w : Int)).getD (n : Int)).toNat = ⟨((posL n f k).take w).toArray⟩ := by
    rw [posB, ext_bytes]; simp
  have e2 : (⟨#[UInt8.ofNat ((ch.toNat : Int)).toNat]⟩ : ByteArray) = ⟨[ch].toArray⟩ := by simp
  rw [e1, e2]
  have s1 : (⟨((posL n f k).take w).toArray⟩ : ByteArray).size ≤ n := by
    show ((posL n f k).take w).toArray.size ≤ n
    simp [posL_len]; omega
  have s2 : (⟨[ch].toArray⟩ : ByteArray).size = 1 := rfl
  refine ⟨by omega, ?_⟩
  rw [app_bytes]
  refine Wk.on ?_
  rw [hsz]
  refine ⟨⟨by show (0 : Int) ≤ (w : Int) + 1; omega, by show (w : Int) + 1 ≤ (n : Int); omega, Int.le_refl _⟩, ?_⟩
  have e3 : (posB n f k).extract ((some ((w : Int) + 1)).getD 0).toNat ((none : Option Int).getD (n : Int)).toNat = ⟨((posL n f k).drop (w + 1)).toArray⟩ := by
    rw [posB, ext_bytes]
    congr 2
    simp only [Option.getD_some, Option.getD_none, Int.toNat_natCast]
    rw [show ((w : Int) + 1).toNat = w + 1 by omega, List.take_of_length_le (by rw [List.length_drop, posL_len]; omega)]
  have s3 : (⟨((posL n f k).take w ++ [ch]).toArray⟩ : ByteArray).size ≤ n + 1 := by
    show ((posL n f k).take w ++ [ch]).toArray.size ≤ n + 1
    simp [posL_len]; omega
  have s4 : (⟨((posL n f k).drop (w + 1)).toArray⟩ : ByteArray).size ≤ n := by
    show ((posL n f k).drop (w + 1)).toArray.size ≤ n
    simp [posL_len]
  refine Wk.on ?_
  rw [e3]
  refine ⟨by omega, ?_⟩
  rw [app_bytes, he]
  refine Wk.on ?_
  exact AH.Fin.nil [] ⟨rfl, rfl, rfl⟩ (by first | exact trivial | (simp [tupA, hpLt, tmLt, AV.lt, AE.lt, AC.lt, LL_cons, LL_nil, idOk, ABlk.lt, ints_LL, GB, tab64_LL, gC, wB, giC, noneB, gst, tC, pC]; done) | (simp [tupA, hpLt, tmLt, AV.lt, AE.lt, AC.lt, LL_cons, LL_nil, idOk, ABlk.lt, ints_LL, GB, tab64_LL, gC, wB, giC, noneB, gst, tC, pC, rdn, wrn]; done)) trivial trivial rfl (by simp [GB])
end Go.Proofs.YtfphkpdobbffeaaDoor

/-
  Plain law: positions with a wire cut or kept; the number of a position tells it.
-/
namespace Go.Proofs.YtfphkpdobbffeaaDoor
open Go Go.AH
set_option maxRecDepth 100000
set_option maxHeartbeats 1000000

theorem pos_set {n f k f' k' w : Nat} {ch : UInt8} (hw : w < n) (h0 : (if f'.testBit w then (46 : UInt8) else if k'.testBit w then 43 else 45) = ch) (h : ∀ i, i ≠ w → f'.testBit i = f.testBit i ∧ (f.testBit i = false → k'.testBit i = k.testBit i)) :
    (posL n f k).take w ++ [ch] ++ (posL n f k).drop (w + 1) = posL n f' k' := by
  have e : (posL n f k).take w ++ [ch] ++ (posL n f k).drop (w + 1) = (posL n f k).set w ch := by
    rw [List.set_eq_take_append_cons_drop, if_pos (by rw [posL_len]; exact hw)]; simp
  rw [e]
  apply List.ext_getElem (by simp [posL])
  intro i h1 h2
  rw [List.getElem_set]
  by_cases e : w = i
  · subst e
    rw [if_pos rfl, ← h0]
    simp [posL]
  · rw [if_neg e]
    obtain ⟨a, b⟩ := h i (fun h => e h.symm)
    simp only [posL, List.getElem_map, List.getElem_range, a]
    split
    · rfl
    · rename_i hf
      rw [b (by simpa using hf)]
theorem pos_cut {n f k w : Nat} (hn : n ≤ 10) (hf : f < 2 ^ n) (hw : w < n) (hk : k.testBit w = false) : (posL n f k).take w ++ [45] ++ (posL n f k).drop (w + 1) = posL n (offN f w) k := by
  have hf2 : f < 1024 := Nat.lt_of_lt_of_le hf (Nat.pow_le_pow_right (by omega) hn)
  refine pos_set hw (by rw [offN_bit hf2 (by omega), hk]; simp) fun i hi => ⟨by rw [offN_bit hf2 (by omega)]; simp [hi], fun _ => rfl⟩
theorem pos_keep {n f k w : Nat} (hn : n ≤ 10) (hf : f < 2 ^ n) (hw : w < n) : (posL n f k).take w ++ [43] ++ (posL n f k).drop (w + 1) = posL n (offN f w) (k ||| 2 ^ w) := by
  have hf2 : f < 1024 := Nat.lt_of_lt_of_le hf (Nat.pow_le_pow_right (by omega) hn)
  refine pos_set hw (by rw [offN_bit hf2 (by omega), Nat.testBit_or, Nat.testBit_two_pow]; simp) fun i hi => ⟨by rw [offN_bit hf2 (by omega)]; simp [hi], fun _ => by rw [Nat.testBit_or, Nat.testBit_two_pow]; simp [show ¬ w = i from fun h => hi h.symm]⟩
theorem codeN_inj {f k f' k' : Nat} : ∀ n, codeN n f k = codeN n f' k' → ∀ i, i < n → f.testBit i = f'.testBit i ∧ (f.testBit i = false → k.testBit i = k'.testBit i)
  | 0, _, i, hi => by omega
  | n + 1, h, i, hi => by
    simp only [codeN] at h
    have hq : codeN n f k = codeN n f' k' ∧ (if f.testBit n then 0 else if k.testBit n then 1 else 2) = (if f'.testBit n then 0 else if k'.testBit n then 1 else 2) := by
      have h1 : (if f.testBit n then 0 else if k.testBit n then 1 else 2) < 3 := by split <;> (try split) <;> omega
      have h2 : (if f'.testBit n then 0 else if k'.testBit n then 1 else 2) < 3 := by split <;> (try split) <;> omega
      omega
    by_cases e : i = n
    · subst e
      have := hq.2
      revert this
      cases f.testBit i <;> cases f'.testBit i <;> cases k.testBit i <;> cases k'.testBit i <;> simp
    · exact codeN_inj n hq.1 i (by omega)
theorem pos_eq {n f k f' k' : Nat} (hf : f < 2 ^ n) (hk : k < 2 ^ n) (hf' : f' < 2 ^ n) (hk' : k' < 2 ^ n) (hd : ∀ i, f.testBit i = true → k.testBit i = false) (hd' : ∀ i, f'.testBit i = true → k'.testBit i = false) (h : codeN n f k = codeN n f' k') : f = f' ∧ k = k' := by
  have hi := codeN_inj n h
  have big : ∀ (a i : Nat), a < 2 ^ n → ¬ i < n → a.testBit i = false := fun a i ha hn => by
    cases h : a.testBit i with
    | false => rfl
    | true => exact absurd (lt_len ha h) hn
  refine ⟨Nat.eq_of_testBit_eq fun i => ?_, Nat.eq_of_testBit_eq fun i => ?_⟩
  · by_cases e : i < n
    · exact (hi i e).1
    · rw [big f i hf e, big f' i hf' e]
  · by_cases e : i < n
    · obtain ⟨a, b⟩ := hi i e
      cases h : f.testBit i with
      | true => rw [hd i h, hd' i (by rw [← a]; exact h)]
      | false => exact b h
    · rw [big k i hk e, big k' i hk' e]
/-- What is known: 1 where Short wins, 2 where not. -/
def KI (g : Gm) (L : List Int) : Prop := L.length = 2 * 3 ^ g.ws.length ∧ ∀ f k c, f < 2 ^ g.ws.length → k < 2 ^ g.ws.length → (∀ i, f.testBit i = true → k.testBit i = false) →
  L.getD (2 * codeN g.ws.length f k + c.toNat) 0 = 0 ∨ L.getD (2 * codeN g.ws.length f k + c.toNat) 0 = if W g f k c then 1 else 2
theorem KI.zero (g : Gm) : KI g (List.replicate (2 * 3 ^ g.ws.length) 0) := ⟨by simp, fun f k c _ _ _ => .inl (by
  simp only [List.getD_eq_getElem?_getD, List.getElem?_replicate]
  split <;> rfl)⟩
theorem KI.set {g : Gm} {L : List Int} (h : KI g L) {f k : Nat} {c : Bool} (hf : f < 2 ^ g.ws.length) (hk : k < 2 ^ g.ws.length) (hd : ∀ i, f.testBit i = true → k.testBit i = false) : KI g (L.set (2 * codeN g.ws.length f k + c.toNat) (if W g f k c then 1 else 2)) := by
  refine ⟨by rw [List.length_set]; exact h.1, fun f' k' c' hf' hk' hd' => ?_⟩
  have hl := codeN_lt f k g.ws.length
  have hc : c.toNat < 2 := by cases c <;> decide
  have hc' : c'.toNat < 2 := by cases c' <;> decide
  simp only [List.getD_eq_getElem?_getD, List.getElem?_set]
  by_cases e : 2 * codeN g.ws.length f k + c.toNat = 2 * codeN g.ws.length f' k' + c'.toNat
  · rw [if_pos e, if_pos (by rw [h.1]; omega)]
    obtain ⟨rfl, rfl⟩ := pos_eq hf hk hf' hk' hd hd' (by omega)
    have : c = c' := by
      have : c.toNat = c'.toNat := by omega
      revert this; cases c <;> cases c' <;> simp
    subst this
    exact .inr rfl
  · rw [if_neg e, ← List.getD_eq_getElem?_getD]
    exact h.2 f' k' c' hf' hk' hd'
end Go.Proofs.YtfphkpdobbffeaaDoor

/-
  Contract: who wins, by the reference.
-/
namespace Go.Proofs.YtfphkpdobbffeaaDoor
open Go Go.AH
set_option maxRecDepth 100000
set_option maxHeartbeats 1000000

theorem W_play {g : Gm} (hg : g.ok) {f k : Nat} (c : Bool) (hf : f < 2 ^ g.ws.length) (hk : k < 2 ^ g.ws.length) (h0 : f ≠ 0) : W g f k c = (((mem f).any (goodW g f k c)) != c) := by
  have hp : 2 ^ g.ws.length ≤ 1024 := Nat.pow_le_pow_right (by omega) hg.len
  have hpp := pop_pos f (by omega) (by omega)
  obtain ⟨m, hm⟩ : ∃ m, pop f = m + 1 := ⟨pop f - 1, by omega⟩
  rw [W_WR hg (m + 1) f k c (by omega) hf hk, WR, if_neg h0]
  congr 1
  refine any_congr fun w hw => ?_
  have hoff := off_mem (n := f) (by omega) hw
  obtain ⟨_, hlw⟩ := mem_lt hg.len hf hw
  rw [goodW, W_WR hg m _ _ _ (by omega) (by omega) (by
    split
    · exact hk
    · exact or_lt hk ((Nat.pow_lt_pow_iff_right (by omega)).2 hlw))]
def NK (g : Gm) : Nat := 2 * 3 ^ g.ws.length
def WOk (g : Gm) (f : Nat) : Prop := ∀ k c L, k < 2 ^ g.ws.length → (∀ i, f.testBit i = true → k.testBit i = false) → KI g L →
  FSpec Tryd.prog 44 [.g (gC g 0), .c (.str (posB g.ws.length f k)), .c (.bool c), .c (.sl 1 0 (NK g) (some (NK g)))] [(0, wB g), (1, .own (ints L))] 2
    (fun r2 hq k' => ∃ L' : List Int, KI g L' ∧ r2 = .c (.bool (W g f k c)) ∧ hq = [(1, .own (ints L'))] ∧ k' = 2)
theorem set1 (L : List Int) (q : Nat) (v : Int) : (ints L).set (0 + (q : Int).toNat * 1) (.int .i64 v) = ints (L.set q v) := by
  rw [Int.toNat_natCast, Nat.zero_add, Nat.mul_one]; simp [ints, List.map_set]
theorem set2 (L : List Int) (q : Nat) (v u : Int) : ((ints L).set (0 + (q : Int).toNat * 1) (.int .i64 v)).set (0 + (q : Int).toNat * 1) (.int .i64 u) = ints (L.set q u) := by
  rw [List.set_set, set1]
theorem wins_step {g : Gm} (hg : g.ok) {f : Nat} (hf : f < 2 ^ g.ws.length) (ih : ∀ f', f' < f → WOk g f') : WOk g f := by
  intro k c L hk hd hL
  have hl := hg.len
  have hp : 2 ^ g.ws.length ≤ 1024 := Nat.pow_le_pow_right (by omega) hl
  have hp3 := pow3_small hl
  have hcl := codeN_lt f k g.ws.length
  have hNK : NK g = 2 * 3 ^ g.ws.length := rfl
  have hcb : c.toNat < 2 := by cases c <;> decide
  have hLl : (ints L).length = NK g := by rw [ints_len]; exact hL.1
  have hKI := hL.2 f k c hf hk hd
  have hset := hL.set (c := c) hf hk hd
  obtain ⟨q, hq⟩ : ∃ q, q = 2 * codeN g.ws.length f k + c.toNat := ⟨_, rfl⟩
  rw [← hq] at hKI
  refine FSpec.of_body tok true Tryd.func44 rfl (by kernel_rfl) (by decide) (by simp [tupA, hpLt, tmLt, AV.lt, AE.lt, AC.lt, LL_cons, LL_nil, idOk, ABlk.lt, ints_LL, GB, tab64_LL, gC, wB, giC, noneB, gst, tC, pC, frV, frH, frK]) (by simp [tupA, hpLt, tmLt, AV.lt, AE.lt, AC.lt, LL_cons, LL_nil, idOk, ABlk.lt, ints_LL, GB, tab64_LL, gC, wB, giC, noneB, gst, tC, pC, frV, frH, frK]) (by show 4 ≤ _; decide) ?_
  refine Wk.on ?_
  refine CallA.ro [] (.c (.int .i64 q)) (hq ▸ code_spec (f := f) (k := k) hl c) (by first | rfl | exact congrArg AV.g (ints_ren _ _) | (simp [ints_ren, AV.ren, ABlk.ren, AC.ren, AE.ren, qq]; done)) rfl (by (repeat (first | exact trivial | refine ⟨⟨(by first | exact .inl (by decide) | exact .inr (by decide)), (by first | (refine Or.inl ?_; first | rfl | exact congrArg some (ints_ren _ _).symm | exact congrArg ABlk.own (ints_ren _ _).symm | exact congrArg some (tab64_ren _).symm) | rfl | exact congrArg some (ints_ren _ _).symm | exact congrArg ABlk.own (ints_ren _ _).symm | exact congrArg some (tab64_ren _).symm | exact Or.inr ⟨rfl, rfl⟩)⟩, ?_⟩))) (by first | rfl | exact congrArg AV.g (ints_ren _ _) | (simp [ints_ren, AV.ren, ABlk.ren, AC.ren, AE.ren, qq]; done)) ?_
  refine Wk.on ?_
  have hat : (ints L).getD (0 + (q : Int).toNat * 1) (.int .i64 0) = .int .i64 (L.getD q 0) := by
    rw [ints_getD, Int.toNat_natCast, Nat.zero_add, Nat.mul_one]
  rw [hat]
  refine Wk.on ?_
  refine ⟨fun hc => ?_, fun hc => ?_⟩ <;> (try simp only [decide_eq_true_eq, decide_eq_false_iff_not, Decidable.not_not, Bool.not_true, Bool.not_false, ne_eq, cond_true, cond_false, Bool.not_eq_true', Bool.not_eq_false'] at hc)
  · have hv : L.getD q 0 = if W g f k c then 1 else 2 := by
      rcases hKI with h | h
      · omega
      · exact h
    refine Wk.on ?_
    rw [hat]
    refine Wk.on ?_
    exact AH.Fin.nil [(1, .own (ints L))] ⟨L, hL, by show AV.c (.bool _) = AV.c (.bool _); rw [hv]; cases W g f k c <;> rfl, rfl, rfl⟩ trivial ⟨rfl, trivial⟩ ⟨.inl (Nat.le_of_ble_eq_true rfl), ints_LL _ _, trivial⟩ rfl (by simp [GB])
  · by_cases h0 : f = 0
    · subst h0
      have hfr := free_spec (k := k) hl (f := 0) (Nat.pow_pos (by omega))
      rw [show mem 0 = [] from by decide] at hfr
      change FDet Tryd.prog _ _ _ _ (.c .nils) [] 0 at hfr
      have hW : W g 0 k c = joinedB g k := by rw [W_step g (by omega)]; simp
      refine Wk.on ?_
      refine CallA.ro [] (.c .nils) (hfr) (by first | rfl | exact congrArg AV.g (ints_ren _ _) | (simp [ints_ren, AV.ren, ABlk.ren, AC.ren, AE.ren, qq]; done)) rfl (by (repeat (first | exact trivial | refine ⟨⟨(by first | exact .inl (by decide) | exact .inr (by decide)), (by first | (refine Or.inl ?_; first | rfl | exact congrArg some (ints_ren _ _).symm | exact congrArg ABlk.own (ints_ren _ _).symm | exact congrArg some (tab64_ren _).symm) | rfl | exact congrArg some (ints_ren _ _).symm | exact congrArg ABlk.own (ints_ren _ _).symm | exact congrArg some (tab64_ren _).symm | exact Or.inr ⟨rfl, rfl⟩)⟩, ?_⟩))) (by first | rfl | exact congrArg AV.g (ints_ren _ _) | (simp [ints_ren, AV.ren, ABlk.ren, AC.ren, AE.ren, qq]; done)) ?_
      refine Wk.on ?_
      refine CallA.ro [0] (.c (.bool (joinedB g k))) (joinedR_spec hg hk hd) (by first | rfl | exact congrArg AV.g (ints_ren _ _) | (simp [ints_ren, AV.ren, ABlk.ren, AC.ren, AE.ren, qq]; done)) rfl (by (repeat (first | exact trivial | refine ⟨⟨(by first | exact .inl (by decide) | exact .inr (by decide)), (by first | (refine Or.inl ?_; first | rfl | exact congrArg some (ints_ren _ _).symm | exact congrArg ABlk.own (ints_ren _ _).symm | exact congrArg some (tab64_ren _).symm) | rfl | exact congrArg some (ints_ren _ _).symm | exact congrArg ABlk.own (ints_ren _ _).symm | exact congrArg some (tab64_ren _).symm | exact Or.inr ⟨rfl, rfl⟩)⟩, ?_⟩))) (by first | rfl | exact congrArg AV.g (ints_ren _ _) | (simp [ints_ren, AV.ren, ABlk.ren, AC.ren, AE.ren, qq]; done)) ?_
      refine Wk.on ?_
      refine Tr.loop (md := true) (X := Unit) (st := fun _ => ⟨[(1, .c (.str (posB g.ws.length 0 k))), (2, .c (.bool c)), (3, .c (.sl 1 0 (NK g) (some (NK g)))), (4, .c (.ptr 2 0)), (9, .c (.int .i64 q)), (10, .c .nils), (11, .c (.bool (joinedB g k))), (12, .c (.int .i64 0))], [(2, .own (gC g 0)), (0, wB g), (1, .own (ints L))], 3, 73, 2⟩) (inv := fun _ => True) (μ := fun _ => 0) (x0 := ()) (l := []) tok trivial ?_ ?_
      · exact Sub.nil ⟨rfl, rfl, (by simp [tab64_LL, gC, wB, giC, noneB, gst, tC, pC, frV, frH, frK]), rfl, (by simp [tupA, hpLt, tmLt, AV.lt, AE.lt, AC.lt, LL_cons, LL_nil, idOk, ABlk.lt, ints_LL, GB, tab64_LL, gC, wB, giC, noneB, gst, tC, pC, frV, frH, frK]), (by simp [tupA, hpLt, tmLt, AV.lt, AE.lt, AC.lt, LL_cons, LL_nil, idOk, ABlk.lt, ints_LL, GB, tab64_LL, gC, wB, giC, noneB, gst, tC, pC, frV, frH, frK])⟩ (by (repeat (first | exact trivial | refine ⟨trivial, ?_⟩ | refine ⟨rfl, ?_⟩))) (by (repeat (first | exact trivial | refine ⟨trivial, ?_⟩ | refine ⟨rfl, ?_⟩)))
      · intro _ _
        rw [← hW]
        rw [← hq] at hset
        cases hWv : W g 0 k c with
        | true =>
          rw [hWv] at hset
          refine Wk.on ?_
          refine ⟨⟨rfl, by rw [List.length_set, hLl, Int.toNat_natCast]; omega⟩, ?_⟩
          refine Wk.on ?_
          exact AH.Fin.nil [(1, .own (ints (L.set q 1)))] ⟨L.set q 1, hset, rfl, rfl, rfl⟩ trivial ⟨congrArg _ (set2 L q 2 1), trivial⟩ ⟨.inl (Nat.le_of_ble_eq_true rfl), ints_LL _ _, trivial⟩ rfl (by simp [GB])
        | false =>
          rw [hWv] at hset
          refine Wk.on ?_
          exact AH.Fin.nil [(1, .own (ints (L.set q 2)))] ⟨L.set q 2, hset, rfl, rfl, rfl⟩ trivial ⟨congrArg _ (set1 L q 2), trivial⟩ ⟨.inl (Nat.le_of_ble_eq_true rfl), ints_LL _ _, trivial⟩ rfl (by simp [GB])
    · have hfr := free_spec (k := k) hl hf
      have hne : mem f ≠ [] := by
        intro e
        have := pop_pos f (by omega) (by omega)
        have h2 : (mem f).length = pop f := by simp [mem, pop]
        rw [e] at h2; simp at h2; omega
      obtain ⟨w0, ws, hws⟩ : ∃ w0 ws, mem f = w0 :: ws := by
        cases hq : mem f with
        | nil => exact absurd hq hne
        | cons a b => exact ⟨a, b, rfl⟩
      rw [hws] at hfr
      change FDet Tryd.prog _ _ _ _ (.c (.row 0 (ws.length + 1))) [(0, .row 3 1 (ints (w0 :: ws)))] 1 at hfr
      refine Wk.on ?_
      refine CallA.det [] (.c (.row 3 (ws.length + 1))) ([(2, .own (gC g 0)), (0, wB g), (1, .own (ints L)), (3, .row 3 1 (ints (w0 :: ws)))]) (hfr) (by first | rfl | exact congrArg AV.g (ints_ren _ _) | (simp [ints_ren, AV.ren, ABlk.ren, AC.ren, AE.ren, qq]; done)) rfl (by (repeat (first | exact trivial | refine ⟨⟨(by first | exact .inl (by decide) | exact .inr (by decide)), (by first | (refine Or.inl ?_; first | rfl | exact congrArg some (ints_ren _ _).symm | exact congrArg ABlk.own (ints_ren _ _).symm | exact congrArg some (tab64_ren _).symm) | rfl | exact congrArg some (ints_ren _ _).symm | exact congrArg ABlk.own (ints_ren _ _).symm | exact congrArg some (tab64_ren _).symm | exact Or.inr ⟨rfl, rfl⟩)⟩, ?_⟩))) (by first | rfl | exact congrArg AV.g (ints_ren _ _) | (simp [ints_ren, AV.ren, ABlk.ren, AC.ren, AE.ren, qq]; done)) (by first | rfl | (simp [behind, gone, lk, up, del, qq, ABlk.wr, GB, ints_ren, AV.ren, ABlk.ren, AC.ren, AE.ren]; done) | (simp [behind, gone, lk, up, del, qq, ABlk.wr, GB, ints_ren, AV.ren, ABlk.ren, AC.ren, AE.ren]; rfl)) ?_
      refine Wk.on ?_
      have hwl : ws.length + 1 ≤ 10 := by
        have := mem_len (n := f) (by omega)
        rw [hws] at this; exact this
      refine ⟨fun h => by have := of_decide_eq_true h; omega, fun _ => ?_⟩
      refine Wk.on ?_
      refine Tr.loop (md := true) (X := Nat × Bool × List Int) (st := fun p => ⟨[(1, .c (.str (posB g.ws.length f k))), (2, .c (.bool c)), (3, .c (.sl 1 0 (NK g) (some (NK g)))), (4, .c (.ptr 2 0)), (9, .c (.int .i64 q)), (10, .c (.row 3 (ws.length + 1))), (11, .c (.bool p.2.1)), (12, .c (.int .i64 p.1))], [(2, .own (gC g 0)), (0, wB g), (1, .own (ints p.2.2)), (3, .row 3 1 (ints (w0 :: ws)))], 4, 73, 2⟩) (inv := fun p => p.1 ≤ ws.length + 1 ∧ KI g p.2.2 ∧ p.2.1 = (((w0 :: ws).take p.1).any (goodW g f k c) != c)) (μ := fun p => ws.length + 1 - p.1) (x0 := (0, c, L)) (l := []) tok ⟨Nat.zero_le _, hL, by simp⟩ ?_ ?_
      · exact Sub.nil ⟨rfl, rfl, (by simp [tab64_LL, gC, wB, giC, noneB, gst, tC, pC, frV, frH, frK]), rfl, (by simp [tupA, hpLt, tmLt, AV.lt, AE.lt, AC.lt, LL_cons, LL_nil, idOk, ABlk.lt, ints_LL, GB, tab64_LL, gC, wB, giC, noneB, gst, tC, pC, frV, frH, frK]), (by simp [tupA, hpLt, tmLt, AV.lt, AE.lt, AC.lt, LL_cons, LL_nil, idOk, ABlk.lt, ints_LL, GB, tab64_LL, gC, wB, giC, noneB, gst, tC, pC, frV, frH, frK])⟩ (by (repeat (first | exact trivial | refine ⟨trivial, ?_⟩ | refine ⟨rfl, ?_⟩))) (by (repeat (first | exact trivial | refine ⟨trivial, ?_⟩ | refine ⟨rfl, ?_⟩)))
      · rintro ⟨i, v, M⟩ ⟨hi, hM, hv⟩
        dsimp only at hi hM hv
        have hMs := hM.set (c := c) hf hk hd
        rw [← hq] at hMs
        have hMl : (ints M).length = NK g := by rw [ints_len]; exact hM.1
        have hWp := W_play hg c hf hk h0
        rw [hws] at hWp
        dsimp only
        refine Wk.on ?_
        refine ⟨fun hc => ?_, fun hc => ?_⟩ <;> (try simp only [decide_eq_true_eq, decide_eq_false_iff_not, Decidable.not_not, Bool.not_true, Bool.not_false, ne_eq, cond_true, cond_false, Bool.not_eq_true', Bool.not_eq_false'] at hc)
        · have hi2 := hc
          refine Wk.on ?_
          refine ⟨fun hc => ?_, fun hc => ?_⟩ <;> (try simp only [decide_eq_true_eq, decide_eq_false_iff_not, Decidable.not_not, Bool.not_true, Bool.not_false, ne_eq, cond_true, cond_false, Bool.not_eq_true', Bool.not_eq_false'] at hc)
          · have hvc : v = c := by simpa using hc
            have hwi : (w0 :: ws).getD i 0 ∈ mem f := by
              rw [hws, List.getD_eq_getElem?_getD, List.getElem?_eq_getElem (by simp; omega)]
              exact List.getElem_mem _
            obtain ⟨_, hlw⟩ := mem_lt hl hf hwi
            have hoff := off_mem (n := f) (by omega) hwi
            obtain ⟨w, hwe, hwb⟩ := (mem_iff (by omega)).1 hwi
            rw [hwe, Int.toNat_natCast] at hlw hoff
            have hkb := hd w hwb
            have hw10 : w < 10 := by omega
            have hget : (w0 :: ws)[i]? = some (w : Int) := by
              rw [List.getD_eq_getElem?_getD, List.getElem?_eq_getElem (by simp; omega)] at hwe
              rw [List.getElem?_eq_getElem (by simp; omega)]
              exact congrArg some hwe
            have hfal : ((w0 :: ws).take i).any (goodW g f k c) = false := by
              cases h : ((w0 :: ws).take i).any (goodW g f k c) with
              | false => rfl
              | true => rw [h, hvc] at hv; cases c <;> simp at hv
            have htk : ((w0 :: ws).take (i + 1)).any (goodW g f k c) = goodW g f k c (w : Int) := by
              rw [List.take_add_one, List.any_append, hfal, hget]; simp
            have hgw : goodW g f k c (w : Int) = (W g (offN f w) (if c then k else k ||| 2 ^ w) (!c) != c) := by rw [goodW, Int.toNat_natCast]
            have hat3 : (ints (w0 :: ws)).getD (Int.toNat (i : Int) * 1) (.int .i64 0) = .int .i64 w := by
              rw [ints_getD, Int.toNat_natCast, Nat.mul_one, hwe]
            have hf1024 : f < 1024 := by omega
            have hoffb := fun j => offN_bit (i := j) hf1024 hw10
            cases c with
            | true =>
              refine Wk.on ?_
              refine Tr.draw (md := true) [⟨[], [48, 49, 50, 51, 52, 53, 54], [], [], []⟩, ⟨[], [47, 49, 50, 51, 52, 54], [0], [], []⟩, ⟨[], [47, 48, 50, 54], [0, 1], [], []⟩, ⟨[], [47, 48, 49, 54], [0, 1, 2], [], []⟩, ⟨[2, 3], [47, 48, 54], [0, 1], [], []⟩, ⟨[2, 3, 4], [47, 48, 54], [0, 1], [], []⟩, ⟨[1, 2, 3, 4, 5], [47, 54], [0], [], []⟩, ⟨[], [47, 48, 49, 50, 51, 52, 53], [0, 1, 2, 3, 4, 5, 6], [], []⟩] tok (by kernel_rfl) (by kernel_rfl) ?_
              refine Wk.on ?_
              rw [hat3]
              refine ⟨by rw [ints_len, Int.toNat_natCast, List.length_cons]; omega, ?_⟩
              refine Wk.on ?_
              refine CallQ.ro [] (.c (.str (posB g.ws.length (offN f w) k))) (put_spec (ch := 45) hl hlw (pos_cut hl hf hlw hkb)) (by first | rfl | exact congrArg AV.g (ints_ren _ _) | (simp [ints_ren, AV.ren, ABlk.ren, AC.ren, AE.ren, qq]; done)) rfl (by (repeat (first | exact trivial | refine ⟨⟨(by first | exact .inl (by decide) | exact .inr (by decide)), (by first | (refine Or.inl ?_; first | rfl | exact congrArg some (ints_ren _ _).symm | exact congrArg ABlk.own (ints_ren _ _).symm | exact congrArg some (tab64_ren _).symm) | rfl | exact congrArg some (ints_ren _ _).symm | exact congrArg ABlk.own (ints_ren _ _).symm | exact congrArg some (tab64_ren _).symm | exact Or.inr ⟨rfl, rfl⟩)⟩, ?_⟩))) (by first | rfl | exact congrArg AV.g (ints_ren _ _) | (simp [ints_ren, AV.ren, ABlk.ren, AC.ren, AE.ren, qq]; done)) ?_
              refine Wk.on ?_
              refine CallA.any (X := List Int) (I := KI g) [0, 1] (r := fun _ => .c (.bool (W g (offN f w) k false))) (hp1 := fun L => [(1, .own (ints L))]) (fun _ => .c (.bool (W g (offN f w) k false))) (fun L => [(2, .own (gC g 0)), (0, wB g), (3, .row 3 1 (ints (w0 :: ws))), (1, .own (ints L))]) (ih (offN f w) (by omega) k false M hk (fun j h => hd j (by rw [hoffb j] at h; simp at h; exact h.1)) hM) (by first | rfl | exact congrArg AV.g (ints_ren _ _) | (simp [ints_ren, AV.ren, ABlk.ren, AC.ren, AE.ren, qq]; done)) rfl (by (repeat (first | exact trivial | refine ⟨⟨(by first | exact .inl (by decide) | exact .inr (by decide)), (by first | (refine Or.inl ?_; first | rfl | exact congrArg some (ints_ren _ _).symm | exact congrArg ABlk.own (ints_ren _ _).symm | exact congrArg some (tab64_ren _).symm) | rfl | exact congrArg some (ints_ren _ _).symm | exact congrArg ABlk.own (ints_ren _ _).symm | exact congrArg some (tab64_ren _).symm | exact Or.inr ⟨rfl, rfl⟩)⟩, ?_⟩))) (fun L => (by first | rfl | exact congrArg AV.g (ints_ren _ _) | (simp [ints_ren, AV.ren, ABlk.ren, AC.ren, AE.ren, qq]; done))) (fun L => (by first | rfl | (simp [behind, gone, lk, up, del, qq, ABlk.wr, GB, ints_ren, AV.ren, ABlk.ren, AC.ren, AE.ren]; done) | (simp [behind, gone, lk, up, del, qq, ABlk.wr, GB, ints_ren, AV.ren, ABlk.ren, AC.ren, AE.ren]; rfl))) ?_
              intro L2 hL2
              refine Wk.on ?_
              refine Again.mk ((i + 1, W g (offN f w) k false, L2)) (Sub.nil ⟨rfl, rfl, (by simp [tab64_LL, gC, wB, giC, noneB, gst, tC, pC, frV, frH, frK]), rfl, (by simp [tupA, hpLt, tmLt, AV.lt, AE.lt, AC.lt, LL_cons, LL_nil, idOk, ABlk.lt, ints_LL, GB, tab64_LL, gC, wB, giC, noneB, gst, tC, pC, frV, frH, frK]), (by simp [tupA, hpLt, tmLt, AV.lt, AE.lt, AC.lt, LL_cons, LL_nil, idOk, ABlk.lt, ints_LL, GB, tab64_LL, gC, wB, giC, noneB, gst, tC, pC, frV, frH, frK])⟩ (by (repeat (first | exact trivial | refine ⟨trivial, ?_⟩ | refine ⟨rfl, ?_⟩))) (by (repeat (first | exact trivial | refine ⟨trivial, ?_⟩ | refine ⟨rfl, ?_⟩)))) (⟨by omega, hL2, by show _ = (((w0 :: ws).take (i + 1)).any (goodW g f k true) != true); rw [htk, hgw]; cases h : W g (offN f w) k false <;> simp [h]⟩) (by omega)
            | false =>
              refine Wk.on ?_
              refine Tr.draw (md := true) [⟨[], [57, 58, 59, 60, 61, 62, 63], [], [], []⟩, ⟨[], [56, 58, 59, 60, 61, 63], [0], [], []⟩, ⟨[], [56, 57, 59, 63], [0, 1], [], []⟩, ⟨[], [56, 57, 58, 63], [0, 1, 2], [], []⟩, ⟨[2, 3], [56, 57, 63], [0, 1], [], []⟩, ⟨[2, 3, 4], [56, 57, 63], [0, 1], [], []⟩, ⟨[1, 2, 3, 4, 5], [56, 63], [0], [], []⟩, ⟨[], [56, 57, 58, 59, 60, 61, 62], [0, 1, 2, 3, 4, 5, 6], [], []⟩] tok (by kernel_rfl) (by kernel_rfl) ?_
              refine Wk.on ?_
              rw [hat3]
              refine ⟨by rw [ints_len, Int.toNat_natCast, List.length_cons]; omega, ?_⟩
              refine Wk.on ?_
              refine CallQ.ro [] (.c (.str (posB g.ws.length (offN f w) (k ||| 2 ^ w)))) (put_spec (ch := 43) hl hlw (pos_keep hl hf hlw)) (by first | rfl | exact congrArg AV.g (ints_ren _ _) | (simp [ints_ren, AV.ren, ABlk.ren, AC.ren, AE.ren, qq]; done)) rfl (by (repeat (first | exact trivial | refine ⟨⟨(by first | exact .inl (by decide) | exact .inr (by decide)), (by first | (refine Or.inl ?_; first | rfl | exact congrArg some (ints_ren _ _).symm | exact congrArg ABlk.own (ints_ren _ _).symm | exact congrArg some (tab64_ren _).symm) | rfl | exact congrArg some (ints_ren _ _).symm | exact congrArg ABlk.own (ints_ren _ _).symm | exact congrArg some (tab64_ren _).symm | exact Or.inr ⟨rfl, rfl⟩)⟩, ?_⟩))) (by first | rfl | exact congrArg AV.g (ints_ren _ _) | (simp [ints_ren, AV.ren, ABlk.ren, AC.ren, AE.ren, qq]; done)) ?_
              refine Wk.on ?_
              refine CallA.any (X := List Int) (I := KI g) [0, 1] (r := fun _ => .c (.bool (W g (offN f w) (k ||| 2 ^ w) true))) (hp1 := fun L => [(1, .own (ints L))]) (fun _ => .c (.bool (W g (offN f w) (k ||| 2 ^ w) true))) (fun L => [(2, .own (gC g 0)), (0, wB g), (3, .row 3 1 (ints (w0 :: ws))), (1, .own (ints L))]) (ih (offN f w) (by omega) (k ||| 2 ^ w) true M (or_lt hk ((Nat.pow_lt_pow_iff_right (by omega)).2 hlw)) (fun j h => by rw [hoffb j] at h; simp at h; rw [Nat.testBit_or, Nat.testBit_two_pow, hd j h.1]; simp; omega) hM) (by first | rfl | exact congrArg AV.g (ints_ren _ _) | (simp [ints_ren, AV.ren, ABlk.ren, AC.ren, AE.ren, qq]; done)) rfl (by (repeat (first | exact trivial | refine ⟨⟨(by first | exact .inl (by decide) | exact .inr (by decide)), (by first | (refine Or.inl ?_; first | rfl | exact congrArg some (ints_ren _ _).symm | exact congrArg ABlk.own (ints_ren _ _).symm | exact congrArg some (tab64_ren _).symm) | rfl | exact congrArg some (ints_ren _ _).symm | exact congrArg ABlk.own (ints_ren _ _).symm | exact congrArg some (tab64_ren _).symm | exact Or.inr ⟨rfl, rfl⟩)⟩, ?_⟩))) (fun L => (by first | rfl | exact congrArg AV.g (ints_ren _ _) | (simp [ints_ren, AV.ren, ABlk.ren, AC.ren, AE.ren, qq]; done))) (fun L => (by first | rfl | (simp [behind, gone, lk, up, del, qq, ABlk.wr, GB, ints_ren, AV.ren, ABlk.ren, AC.ren, AE.ren]; done) | (simp [behind, gone, lk, up, del, qq, ABlk.wr, GB, ints_ren, AV.ren, ABlk.ren, AC.ren, AE.ren]; rfl))) ?_
              intro L2 hL2
              refine Wk.on ?_
              refine Again.mk ((i + 1, W g (offN f w) (k ||| 2 ^ w) true, L2)) (Sub.nil ⟨rfl, rfl, (by simp [tab64_LL, gC, wB, giC, noneB, gst, tC, pC, frV, frH, frK]), rfl, (by simp [tupA, hpLt, tmLt, AV.lt, AE.lt, AC.lt, LL_cons, LL_nil, idOk, ABlk.lt, ints_LL, GB, tab64_LL, gC, wB, giC, noneB, gst, tC, pC, frV, frH, frK]), (by simp [tupA, hpLt, tmLt, AV.lt, AE.lt, AC.lt, LL_cons, LL_nil, idOk, ABlk.lt, ints_LL, GB, tab64_LL, gC, wB, giC, noneB, gst, tC, pC, frV, frH, frK])⟩ (by (repeat (first | exact trivial | refine ⟨trivial, ?_⟩ | refine ⟨rfl, ?_⟩))) (by (repeat (first | exact trivial | refine ⟨trivial, ?_⟩ | refine ⟨rfl, ?_⟩)))) (⟨by omega, hL2, by show _ = (((w0 :: ws).take (i + 1)).any (goodW g f k false) != false); rw [htk, hgw]; cases h : W g (offN f w) (k ||| 2 ^ w) true <;> simp [h]⟩) (by omega)
          · have hvc : v ≠ c := by simpa using hc
            have hvW : v = W g f k c := by
              have h1 : ((w0 :: ws).take i).any (goodW g f k c) = true := by
                cases h : ((w0 :: ws).take i).any (goodW g f k c) with
                | true => rfl
                | false => rw [h] at hv; exact absurd (by rw [hv]; simp) hvc
              have h2 : (w0 :: ws).any (goodW g f k c) = true := by
                obtain ⟨y, hy, hg⟩ := List.any_eq_true.1 h1
                exact List.any_eq_true.2 ⟨y, List.mem_of_mem_take hy, hg⟩
              rw [hv, hWp, h1, h2]
            rw [← hvW] at hMs
            cases v with
            | true =>
              simp only [if_true] at hMs
              refine Wk.on ?_
              refine ⟨⟨rfl, by rw [List.length_set, hMl, Int.toNat_natCast]; omega⟩, ?_⟩
              refine Wk.on ?_
              exact AH.Fin.nil [(1, .own (ints (M.set q 1)))] ⟨M.set q 1, hMs, by rw [← hvW]; rfl, rfl, rfl⟩ trivial ⟨congrArg _ (set2 M q 2 1), trivial⟩ ⟨.inl (Nat.le_of_ble_eq_true rfl), ints_LL _ _, trivial⟩ rfl (by simp [GB])
            | false =>
              simp only [Bool.false_eq_true, if_false] at hMs
              refine Wk.on ?_
              exact AH.Fin.nil [(1, .own (ints (M.set q 2)))] ⟨M.set q 2, hMs, by rw [← hvW]; rfl, rfl, rfl⟩ trivial ⟨congrArg _ (set1 M q 2), trivial⟩ ⟨.inl (Nat.le_of_ble_eq_true rfl), ints_LL _ _, trivial⟩ rfl (by simp [GB])
        · have hvW : v = W g f k c := by
            rw [hv, hWp, List.take_of_length_le (by simp; omega)]
          rw [← hvW] at hMs
          cases v with
          | true =>
            simp only [if_true] at hMs
            refine Wk.on ?_
            refine ⟨⟨rfl, by rw [List.length_set, hMl, Int.toNat_natCast]; omega⟩, ?_⟩
            refine Wk.on ?_
            exact AH.Fin.nil [(1, .own (ints (M.set q 1)))] ⟨M.set q 1, hMs, by rw [← hvW]; rfl, rfl, rfl⟩ trivial ⟨congrArg _ (set2 M q 2 1), trivial⟩ ⟨.inl (Nat.le_of_ble_eq_true rfl), ints_LL _ _, trivial⟩ rfl (by simp [GB])
          | false =>
            simp only [Bool.false_eq_true, if_false] at hMs
            refine Wk.on ?_
            exact AH.Fin.nil [(1, .own (ints (M.set q 2)))] ⟨M.set q 2, hMs, by rw [← hvW]; rfl, rfl, rfl⟩ trivial ⟨congrArg _ (set1 M q 2), trivial⟩ ⟨.inl (Nat.le_of_ble_eq_true rfl), ints_LL _ _, trivial⟩ rfl (by simp [GB])
end Go.Proofs.YtfphkpdobbffeaaDoor

/-
  Contract: the kind of a game, by the reference; the law SwitchKinds, as a contract.
-/
namespace Go.Proofs.YtfphkpdobbffeaaDoor
open Go Go.AH
set_option maxRecDepth 100000
set_option maxHeartbeats 1000000

theorem wins_all {g : Gm} (hg : g.ok) : ∀ f, f < 2 ^ g.ws.length → WOk g f := by
  intro f
  induction f using Nat.strongRecOn with
  | _ f ih => exact fun hf => wins_step hg hf fun f' h => ih f' h (by omega)
theorem kindR_spec {g : Gm} (hg : g.ok) : FDet Tryd.prog 21 [.g (gC g 0)] [(0, wB g)] 1 (.c (.str (kindB g))) [] 1 := by
  have hq3 : 0 < 2 ^ g.ws.length := pow_pos2 _
  have hW := wins_all hg (2 ^ g.ws.length - 1) (by omega)
  have hK0 := KI.zero g
  refine FSpec.of_body tok true Tryd.func21 rfl (by kernel_rfl) (by decide) (by simp [tupA, hpLt, tmLt, AV.lt, AE.lt, AC.lt, LL_cons, LL_nil, idOk, ABlk.lt, ints_LL, GB, tab64_LL, gC, wB, giC, noneB, gst, tC, pC, gN, gR, rC, rB]) (by simp [tupA, hpLt, tmLt, AV.lt, AE.lt, AC.lt, LL_cons, LL_nil, idOk, ABlk.lt, ints_LL, GB, tab64_LL, gC, wB, giC, noneB, gst, tC, pC, gN, gR, rC, rB]) (by show 1 ≤ _; decide) ?_
  refine Wk.on ?_
  refine CallA.det [0] (.c (.sl 2 0 (NK g) (some (NK g)))) ([(1, .own (gC g 0)), (0, wB g), (2, .own (ints (List.replicate (2 * 3 ^ g.ws.length) 0)))]) (known_spec hg) (by first | rfl | exact congrArg AV.g (ints_ren _ _) | (simp [ints_ren, AV.ren, ABlk.ren, AC.ren, AE.ren, qq]; done)) rfl (by (repeat (first | exact trivial | refine ⟨⟨(by first | exact .inl (by decide) | exact .inr (by decide)), (by first | (refine Or.inl ?_; first | rfl | exact congrArg some (ints_ren _ _).symm | exact congrArg ABlk.own (ints_ren _ _).symm | exact congrArg some (tab64_ren _).symm) | rfl | exact congrArg some (ints_ren _ _).symm | exact congrArg ABlk.own (ints_ren _ _).symm | exact congrArg some (tab64_ren _).symm | exact Or.inr ⟨rfl, rfl⟩)⟩, ?_⟩))) (by first | rfl | exact congrArg AV.g (ints_ren _ _) | (simp [ints_ren, AV.ren, ABlk.ren, AC.ren, AE.ren, qq]; done)) (by first | rfl | (simp [behind, gone, lk, up, del, qq, ABlk.wr, GB, ints_ren, AV.ren, ABlk.ren, AC.ren, AE.ren]; done) | (simp [behind, gone, lk, up, del, qq, ABlk.wr, GB, ints_ren, AV.ren, ABlk.ren, AC.ren, AE.ren]; rfl)) ?_
  refine Wk.on ?_
  refine Tr.draw (md := true) [⟨[], [7, 8, 9], [], [], []⟩, ⟨[], [6, 9], [0], [], []⟩, ⟨[1], [6, 9], [0], [], []⟩, ⟨[], [6, 7, 8], [0, 1, 2], [], []⟩] tok (by kernel_rfl) (by kernel_rfl) ?_
  refine Wk.on ?_
  refine CallQ.ro [0] (.c (.str (posB g.ws.length (2 ^ g.ws.length - 1) 0))) (begin_spec hg) (by first | rfl | exact congrArg AV.g (ints_ren _ _) | (simp [ints_ren, AV.ren, ABlk.ren, AC.ren, AE.ren, qq]; done)) rfl (by (repeat (first | exact trivial | refine ⟨⟨(by first | exact .inl (by decide) | exact .inr (by decide)), (by first | (refine Or.inl ?_; first | rfl | exact congrArg some (ints_ren _ _).symm | exact congrArg ABlk.own (ints_ren _ _).symm | exact congrArg some (tab64_ren _).symm) | rfl | exact congrArg some (ints_ren _ _).symm | exact congrArg ABlk.own (ints_ren _ _).symm | exact congrArg some (tab64_ren _).symm | exact Or.inr ⟨rfl, rfl⟩)⟩, ?_⟩))) (by first | rfl | exact congrArg AV.g (ints_ren _ _) | (simp [ints_ren, AV.ren, ABlk.ren, AC.ren, AE.ren, qq]; done)) ?_
  refine Wk.on ?_
  refine CallA.any (X := List Int) (I := KI g) [0, 2] (r := fun _ => .c (.bool (W g (2 ^ g.ws.length - 1) 0 true))) (hp1 := fun L => [(1, .own (ints L))]) (fun _ => .c (.bool (W g (2 ^ g.ws.length - 1) 0 true))) (fun L => [(1, .own (gC g 0)), (0, wB g), (2, .own (ints L))]) (hW 0 true _ (by omega) (by simp) hK0) (by first | rfl | exact congrArg AV.g (ints_ren _ _) | (simp [ints_ren, AV.ren, ABlk.ren, AC.ren, AE.ren, qq]; done)) rfl (by (repeat (first | exact trivial | refine ⟨⟨(by first | exact .inl (by decide) | exact .inr (by decide)), (by first | (refine Or.inl ?_; first | rfl | exact congrArg some (ints_ren _ _).symm | exact congrArg ABlk.own (ints_ren _ _).symm | exact congrArg some (tab64_ren _).symm) | rfl | exact congrArg some (ints_ren _ _).symm | exact congrArg ABlk.own (ints_ren _ _).symm | exact congrArg some (tab64_ren _).symm | exact Or.inr ⟨rfl, rfl⟩)⟩, ?_⟩))) (fun L => (by first | rfl | exact congrArg AV.g (ints_ren _ _) | (simp [ints_ren, AV.ren, ABlk.ren, AC.ren, AE.ren, qq]; done))) (fun L => (by first | rfl | (simp [behind, gone, lk, up, del, qq, ABlk.wr, GB, ints_ren, AV.ren, ABlk.ren, AC.ren, AE.ren]; done) | (simp [behind, gone, lk, up, del, qq, ABlk.wr, GB, ints_ren, AV.ren, ABlk.ren, AC.ren, AE.ren]; rfl))) ?_
  intro L hL
  refine Wk.on ?_
  refine ⟨fun hc => ?_, fun hc => ?_⟩ <;> (try simp only [decide_eq_true_eq, decide_eq_false_iff_not, Decidable.not_not, Bool.not_true, Bool.not_false, ne_eq, cond_true, cond_false, Bool.not_eq_true', Bool.not_eq_false'] at hc)
  · refine Wk.on ?_
    exact AH.Fin.nil [] ⟨by rw [kindB, hc]; rfl, rfl, rfl⟩ (by first | exact trivial | (simp [tupA, hpLt, tmLt, AV.lt, AE.lt, AC.lt, LL_cons, LL_nil, idOk, ABlk.lt, ints_LL, GB, tab64_LL, gC, wB, giC, noneB, gst, tC, pC, gN, gR, rC, rB]; done) | (simp [tupA, hpLt, tmLt, AV.lt, AE.lt, AC.lt, LL_cons, LL_nil, idOk, ABlk.lt, ints_LL, GB, tab64_LL, gC, wB, giC, noneB, gst, tC, pC, gN, gR, rC, rB, rdn, wrn]; done)) trivial trivial rfl (by simp [GB])
  · have hc1 := hc
    refine Wk.on ?_
    refine Tr.draw (md := true) [⟨[], [12, 13, 14], [], [], []⟩, ⟨[], [11, 14], [0], [], []⟩, ⟨[1], [11, 14], [0], [], []⟩, ⟨[], [11, 12, 13], [0, 1, 2], [], []⟩] tok (by kernel_rfl) (by kernel_rfl) ?_
    refine Wk.on ?_
    refine CallQ.ro [0] (.c (.str (posB g.ws.length (2 ^ g.ws.length - 1) 0))) (begin_spec hg) (by first | rfl | exact congrArg AV.g (ints_ren _ _) | (simp [ints_ren, AV.ren, ABlk.ren, AC.ren, AE.ren, qq]; done)) rfl (by (repeat (first | exact trivial | refine ⟨⟨(by first | exact .inl (by decide) | exact .inr (by decide)), (by first | (refine Or.inl ?_; first | rfl | exact congrArg some (ints_ren _ _).symm | exact congrArg ABlk.own (ints_ren _ _).symm | exact congrArg some (tab64_ren _).symm) | rfl | exact congrArg some (ints_ren _ _).symm | exact congrArg ABlk.own (ints_ren _ _).symm | exact congrArg some (tab64_ren _).symm | exact Or.inr ⟨rfl, rfl⟩)⟩, ?_⟩))) (by first | rfl | exact congrArg AV.g (ints_ren _ _) | (simp [ints_ren, AV.ren, ABlk.ren, AC.ren, AE.ren, qq]; done)) ?_
    refine Wk.on ?_
    refine CallA.any (X := List Int) (I := KI g) [0, 2] (r := fun _ => .c (.bool (W g (2 ^ g.ws.length - 1) 0 false))) (hp1 := fun L => [(1, .own (ints L))]) (fun _ => .c (.bool (W g (2 ^ g.ws.length - 1) 0 false))) (fun L => [(1, .own (gC g 0)), (0, wB g), (2, .own (ints L))]) (hW 0 false _ (by omega) (by simp) hL) (by first | rfl | exact congrArg AV.g (ints_ren _ _) | (simp [ints_ren, AV.ren, ABlk.ren, AC.ren, AE.ren, qq]; done)) rfl (by (repeat (first | exact trivial | refine ⟨⟨(by first | exact .inl (by decide) | exact .inr (by decide)), (by first | (refine Or.inl ?_; first | rfl | exact congrArg some (ints_ren _ _).symm | exact congrArg ABlk.own (ints_ren _ _).symm | exact congrArg some (tab64_ren _).symm) | rfl | exact congrArg some (ints_ren _ _).symm | exact congrArg ABlk.own (ints_ren _ _).symm | exact congrArg some (tab64_ren _).symm | exact Or.inr ⟨rfl, rfl⟩)⟩, ?_⟩))) (fun L => (by first | rfl | exact congrArg AV.g (ints_ren _ _) | (simp [ints_ren, AV.ren, ABlk.ren, AC.ren, AE.ren, qq]; done))) (fun L => (by first | rfl | (simp [behind, gone, lk, up, del, qq, ABlk.wr, GB, ints_ren, AV.ren, ABlk.ren, AC.ren, AE.ren]; done) | (simp [behind, gone, lk, up, del, qq, ABlk.wr, GB, ints_ren, AV.ren, ABlk.ren, AC.ren, AE.ren]; rfl))) ?_
    intro M hM
    refine Wk.on ?_
    refine ⟨fun hc => ?_, fun hc => ?_⟩ <;> (try simp only [decide_eq_true_eq, decide_eq_false_iff_not, Decidable.not_not, Bool.not_true, Bool.not_false, ne_eq, cond_true, cond_false, Bool.not_eq_true', Bool.not_eq_false'] at hc)
    · refine Wk.on ?_
      exact AH.Fin.nil [] ⟨by rw [kindB, hc1, hc]; rfl, rfl, rfl⟩ (by first | exact trivial | (simp [tupA, hpLt, tmLt, AV.lt, AE.lt, AC.lt, LL_cons, LL_nil, idOk, ABlk.lt, ints_LL, GB, tab64_LL, gC, wB, giC, noneB, gst, tC, pC, gN, gR, rC, rB]; done) | (simp [tupA, hpLt, tmLt, AV.lt, AE.lt, AC.lt, LL_cons, LL_nil, idOk, ABlk.lt, ints_LL, GB, tab64_LL, gC, wB, giC, noneB, gst, tC, pC, gN, gR, rC, rB, rdn, wrn]; done)) trivial trivial rfl (by simp [GB])
    · refine Wk.on ?_
      exact AH.Fin.nil [] ⟨by rw [kindB, hc1, hc]; rfl, rfl, rfl⟩ (by first | exact trivial | (simp [tupA, hpLt, tmLt, AV.lt, AE.lt, AC.lt, LL_cons, LL_nil, idOk, ABlk.lt, ints_LL, GB, tab64_LL, gC, wB, giC, noneB, gst, tC, pC, gN, gR, rC, rB]; done) | (simp [tupA, hpLt, tmLt, AV.lt, AE.lt, AC.lt, LL_cons, LL_nil, idOk, ABlk.lt, ints_LL, GB, tab64_LL, gC, wB, giC, noneB, gst, tC, pC, gN, gR, rC, rB, rdn, wrn]; done)) trivial trivial rfl (by simp [GB])
theorem kind_nil {g : Gm} (hg : g.game) (h : g.ws = []) : FDet Tryd.prog 19 [.g (gN g)] [(100002, .ro tab64)] 1 (.t [.c (.str (kindB g)), .c (.int .i64 0)]) [] 1 := by
  have h1 := kind_spec hg
  rw [show wB g = .ro [] by rw [wB, h]; rfl] at h1
  refine FDet.nil0 h1 _ 100002 tab64 rfl ⟨.inr ⟨rfl, rfl, rfl, by show g.ws.length = 0; rw [h]; rfl, trivial⟩, trivial⟩ (gN_all g _) ?_ ?_
  · intro p hp; simp at hp; subst hp; exact ⟨by decide, tab_all _⟩
  · intro e he; simp at he; rcases he with rfl | rfl <;> trivial
theorem kindR_nil {g : Gm} (hg : g.ok) (h : g.ws = []) : FDet Tryd.prog 21 [.g (gN g)] [(100002, .ro tab64)] 1 (.c (.str (kindB g))) [] 1 := by
  have h1 := kindR_spec hg
  rw [show wB g = .ro [] by rw [wB, h]; rfl] at h1
  have h2 := FDet.wk h1 (args' := [.g (gC g 0)]) (hp' := [(0, .ro []), (100002, .ro tab64)]) ⟨.inl rfl, trivial⟩ ⟨.inl rfl, trivial⟩
  refine FDet.nil0 h2 _ 100002 tab64 rfl ⟨.inr ⟨rfl, rfl, rfl, by show g.ws.length = 0; rw [h]; rfl, trivial⟩, trivial⟩ (gN_all g _) ?_ trivial
  · intro p hp; simp at hp; subst hp; exact ⟨by decide, tab_all _⟩
theorem kinds_nil (x : Rw) (h4 : x.ws.length ≤ 9223372036854775807) (hws : (tame x 8 9).ws = []) : FDet Tryd.prog 3 [.g (rC x 0)] [(0, rB x), (100002, .ro tab64), (100000, noneB)] 1 (.c (.bool true)) [] 1 := by
  have hgm := tame_game x (pl := 8) (most := 9) (by omega) (by omega) (by omega)
  have ht := tame_nil (x := x) (pl := 8) (most := 9) (by omega) (by omega) (by omega) h4 hws
  have hc := kind_nil hgm hws
  have hr := kindR_nil hgm.ok hws
  generalize tame x 8 9 = g at *
  generalize kindB g = K at *
  refine FSpec.of_body tok true Tryd.func3 rfl (by kernel_rfl) (by decide) (by simp [tupA, hpLt, tmLt, AV.lt, AE.lt, AC.lt, LL_cons, LL_nil, idOk, ABlk.lt, ints_LL, GB, tab64_LL, gC, wB, giC, noneB, gst, tC, pC, gN, gR, rC, rB]) (by simp [tupA, hpLt, tmLt, AV.lt, AE.lt, AC.lt, LL_cons, LL_nil, idOk, ABlk.lt, ints_LL, GB, tab64_LL, gC, wB, giC, noneB, gst, tC, pC, gN, gR, rC, rB]) (by show 1 ≤ _; decide) ?_
  refine Wk.on ?_
  refine CallA.ro [0] (.g (gN g)) (ht) (by first | rfl | exact congrArg AV.g (ints_ren _ _) | (simp [ints_ren, AV.ren, ABlk.ren, AC.ren, AE.ren, qq]; done)) rfl (by (repeat (first | exact trivial | refine ⟨⟨(by first | exact .inl (by decide) | exact .inr (by decide)), (by first | (refine Or.inl ?_; first | rfl | exact congrArg some (ints_ren _ _).symm | exact congrArg ABlk.own (ints_ren _ _).symm | exact congrArg some (tab64_ren _).symm) | rfl | exact congrArg some (ints_ren _ _).symm | exact congrArg ABlk.own (ints_ren _ _).symm | exact congrArg some (tab64_ren _).symm | exact Or.inr ⟨rfl, rfl⟩)⟩, ?_⟩))) (by first | rfl | exact congrArg AV.g (ints_ren _ _) | (simp [ints_ren, AV.ren, ABlk.ren, AC.ren, AE.ren, qq]; done)) ?_
  refine Wk.on ?_
  refine CallA.ro [0] (.g (gN g)) (given_nil) (by first | rfl | exact congrArg AV.g (ints_ren _ _) | (simp [ints_ren, AV.ren, ABlk.ren, AC.ren, AE.ren, qq]; done)) rfl (by (repeat (first | exact trivial | refine ⟨⟨(by first | exact .inl (by decide) | exact .inr (by decide)), (by first | (refine Or.inl ?_; first | rfl | exact congrArg some (ints_ren _ _).symm | exact congrArg ABlk.own (ints_ren _ _).symm | exact congrArg some (tab64_ren _).symm) | rfl | exact congrArg some (ints_ren _ _).symm | exact congrArg ABlk.own (ints_ren _ _).symm | exact congrArg some (tab64_ren _).symm | exact Or.inr ⟨rfl, rfl⟩)⟩, ?_⟩))) (by first | rfl | exact congrArg AV.g (ints_ren _ _) | (simp [ints_ren, AV.ren, ABlk.ren, AC.ren, AE.ren, qq]; done)) ?_
  refine Wk.on ?_
  refine CallA.ro [0] (.t [.c (.str K), .c (.int .i64 0)]) (hc) (by first | rfl | exact congrArg AV.g (ints_ren _ _) | (simp [ints_ren, AV.ren, ABlk.ren, AC.ren, AE.ren, qq]; done)) rfl (by (repeat (first | exact trivial | refine ⟨⟨(by first | exact .inl (by decide) | exact .inr (by decide)), (by first | (refine Or.inl ?_; first | rfl | exact congrArg some (ints_ren _ _).symm | exact congrArg ABlk.own (ints_ren _ _).symm | exact congrArg some (tab64_ren _).symm) | rfl | exact congrArg some (ints_ren _ _).symm | exact congrArg ABlk.own (ints_ren _ _).symm | exact congrArg some (tab64_ren _).symm | exact Or.inr ⟨rfl, rfl⟩)⟩, ?_⟩))) (by first | rfl | exact congrArg AV.g (ints_ren _ _) | (simp [ints_ren, AV.ren, ABlk.ren, AC.ren, AE.ren, qq]; done)) ?_
  refine Wk.on ?_
  refine CallA.ro [0] (.c (.str K)) (hr) (by first | rfl | exact congrArg AV.g (ints_ren _ _) | (simp [ints_ren, AV.ren, ABlk.ren, AC.ren, AE.ren, qq]; done)) rfl (by (repeat (first | exact trivial | refine ⟨⟨(by first | exact .inl (by decide) | exact .inr (by decide)), (by first | (refine Or.inl ?_; first | rfl | exact congrArg some (ints_ren _ _).symm | exact congrArg ABlk.own (ints_ren _ _).symm | exact congrArg some (tab64_ren _).symm) | rfl | exact congrArg some (ints_ren _ _).symm | exact congrArg ABlk.own (ints_ren _ _).symm | exact congrArg some (tab64_ren _).symm | exact Or.inr ⟨rfl, rfl⟩)⟩, ?_⟩))) (by first | rfl | exact congrArg AV.g (ints_ren _ _) | (simp [ints_ren, AV.ren, ABlk.ren, AC.ren, AE.ren, qq]; done)) ?_
  refine Wk.on ?_
  refine ⟨fun _ => ?_, fun h => by simp at h⟩
  refine Wk.on ?_
  refine CallA.ro [] (.c (.bool true)) (awake_spec) (by first | rfl | exact congrArg AV.g (ints_ren _ _) | (simp [ints_ren, AV.ren, ABlk.ren, AC.ren, AE.ren, qq]; done)) rfl (by (repeat (first | exact trivial | refine ⟨⟨(by first | exact .inl (by decide) | exact .inr (by decide)), (by first | (refine Or.inl ?_; first | rfl | exact congrArg some (ints_ren _ _).symm | exact congrArg ABlk.own (ints_ren _ _).symm | exact congrArg some (tab64_ren _).symm) | rfl | exact congrArg some (ints_ren _ _).symm | exact congrArg ABlk.own (ints_ren _ _).symm | exact congrArg some (tab64_ren _).symm | exact Or.inr ⟨rfl, rfl⟩)⟩, ?_⟩))) (by first | rfl | exact congrArg AV.g (ints_ren _ _) | (simp [ints_ren, AV.ren, ABlk.ren, AC.ren, AE.ren, qq]; done)) ?_
  refine Wk.on ?_
  exact AH.Fin.nil [] ⟨rfl, rfl, rfl⟩ (by first | exact trivial | (simp [tupA, hpLt, tmLt, AV.lt, AE.lt, AC.lt, LL_cons, LL_nil, idOk, ABlk.lt, ints_LL, GB, tab64_LL, gC, wB, giC, noneB, gst, tC, pC, gN, gR, rC, rB]; done) | (simp [tupA, hpLt, tmLt, AV.lt, AE.lt, AC.lt, LL_cons, LL_nil, idOk, ABlk.lt, ints_LL, GB, tab64_LL, gC, wB, giC, noneB, gst, tC, pC, gN, gR, rC, rB, rdn, wrn]; done)) trivial trivial rfl (by simp [GB])
theorem kinds_row (x : Rw) (h4 : x.ws.length ≤ 9223372036854775807) (hws : ¬ (tame x 8 9).ws = []) : FDet Tryd.prog 3 [.g (rC x 0)] [(0, rB x), (100002, .ro tab64), (100000, noneB)] 1 (.c (.bool true)) [] 1 := by
  have hgm := tame_game x (pl := 8) (most := 9) (by omega) (by omega) (by omega)
  have hgl := hgm.ok.len
  have hpos := List.length_pos_iff.2 hws
  have ht := tame_rs (x := x) (pl := 8) (most := 9) (by omega) (by omega) (by omega) h4 hpos
  have hc := kind_spec hgm
  have hr := kindR_spec hgm.ok
  generalize tame x 8 9 = g at *
  generalize kindB g = K at *
  have hgv := given_rs hpos hgl
  refine FSpec.of_body tok true Tryd.func3 rfl (by kernel_rfl) (by decide) (by simp [tupA, hpLt, tmLt, AV.lt, AE.lt, AC.lt, LL_cons, LL_nil, idOk, ABlk.lt, ints_LL, GB, tab64_LL, gC, wB, giC, noneB, gst, tC, pC, gN, gR, rC, rB]) (by simp [tupA, hpLt, tmLt, AV.lt, AE.lt, AC.lt, LL_cons, LL_nil, idOk, ABlk.lt, ints_LL, GB, tab64_LL, gC, wB, giC, noneB, gst, tC, pC, gN, gR, rC, rB]) (by show 1 ≤ _; decide) ?_
  refine Wk.on ?_
  refine CallA.det [0] (.g (gC g 2)) ([(1, .own (rC x 0)), (0, rB x), (100002, .ro tab64), (100000, noneB), (2, .row 60 2 (ints (fl g.ws)))]) (ht) (by first | rfl | exact congrArg AV.g (ints_ren _ _) | (simp [ints_ren, AV.ren, ABlk.ren, AC.ren, AE.ren, qq]; done)) rfl (by (repeat (first | exact trivial | refine ⟨⟨(by first | exact .inl (by decide) | exact .inr (by decide)), (by first | (refine Or.inl ?_; first | rfl | exact congrArg some (ints_ren _ _).symm | exact congrArg ABlk.own (ints_ren _ _).symm | exact congrArg some (tab64_ren _).symm) | rfl | exact congrArg some (ints_ren _ _).symm | exact congrArg ABlk.own (ints_ren _ _).symm | exact congrArg some (tab64_ren _).symm | exact Or.inr ⟨rfl, rfl⟩)⟩, ?_⟩))) (by first | rfl | exact congrArg AV.g (ints_ren _ _) | (simp [ints_ren, AV.ren, ABlk.ren, AC.ren, AE.ren, qq]; done)) (by first | rfl | (simp [behind, gone, lk, up, del, qq, ABlk.wr, GB, ints_ren, AV.ren, ABlk.ren, AC.ren, AE.ren]; done) | (simp [behind, gone, lk, up, del, qq, ABlk.wr, GB, ints_ren, AV.ren, ABlk.ren, AC.ren, AE.ren]; rfl)) ?_
  refine Wk.on ?_
  refine CallA.det [2] (.g (gC g 4)) ([(3, .own (gC g 2)), (1, .own (rC x 0)), (0, rB x), (100002, .ro tab64), (100000, noneB), (2, .row 60 2 (ints (fl g.ws))), (4, .row 60 2 (ints (fl g.ws)))]) (hgv) (by first | rfl | exact congrArg AV.g (ints_ren _ _) | (simp [ints_ren, AV.ren, ABlk.ren, AC.ren, AE.ren, qq]; done)) rfl (by (repeat (first | exact trivial | refine ⟨⟨(by first | exact .inl (by decide) | exact .inr (by decide)), (by first | (refine Or.inl ?_; first | rfl | exact congrArg some (ints_ren _ _).symm | exact congrArg ABlk.own (ints_ren _ _).symm | exact congrArg some (tab64_ren _).symm) | rfl | exact congrArg some (ints_ren _ _).symm | exact congrArg ABlk.own (ints_ren _ _).symm | exact congrArg some (tab64_ren _).symm | exact Or.inr ⟨rfl, rfl⟩)⟩, ?_⟩))) (by first | rfl | exact congrArg AV.g (ints_ren _ _) | (simp [ints_ren, AV.ren, ABlk.ren, AC.ren, AE.ren, qq]; done)) (by first | rfl | (simp [behind, gone, lk, up, del, qq, ABlk.wr, GB, ints_ren, AV.ren, ABlk.ren, AC.ren, AE.ren]; done) | (simp [behind, gone, lk, up, del, qq, ABlk.wr, GB, ints_ren, AV.ren, ABlk.ren, AC.ren, AE.ren]; rfl)) ?_
  refine Wk.on ?_
  refine CallA.ro [4] (.t [.c (.str K), .c (.int .i64 0)]) (hc) (by first | rfl | exact congrArg AV.g (ints_ren _ _) | (simp [ints_ren, AV.ren, ABlk.ren, AC.ren, AE.ren, qq]; done)) rfl (by (repeat (first | exact trivial | refine ⟨⟨(by first | exact .inl (by decide) | exact .inr (by decide)), (by first | (refine Or.inl ?_; first | rfl | exact congrArg some (ints_ren _ _).symm | exact congrArg ABlk.own (ints_ren _ _).symm | exact congrArg some (tab64_ren _).symm) | rfl | exact congrArg some (ints_ren _ _).symm | exact congrArg ABlk.own (ints_ren _ _).symm | exact congrArg some (tab64_ren _).symm | exact Or.inr ⟨rfl, rfl⟩)⟩, ?_⟩))) (by first | rfl | exact congrArg AV.g (ints_ren _ _) | (simp [ints_ren, AV.ren, ABlk.ren, AC.ren, AE.ren, qq]; done)) ?_
  refine Wk.on ?_
  refine CallA.ro [2] (.c (.str K)) (hr) (by first | rfl | exact congrArg AV.g (ints_ren _ _) | (simp [ints_ren, AV.ren, ABlk.ren, AC.ren, AE.ren, qq]; done)) rfl (by (repeat (first | exact trivial | refine ⟨⟨(by first | exact .inl (by decide) | exact .inr (by decide)), (by first | (refine Or.inl ?_; first | rfl | exact congrArg some (ints_ren _ _).symm | exact congrArg ABlk.own (ints_ren _ _).symm | exact congrArg some (tab64_ren _).symm) | rfl | exact congrArg some (ints_ren _ _).symm | exact congrArg ABlk.own (ints_ren _ _).symm | exact congrArg some (tab64_ren _).symm | exact Or.inr ⟨rfl, rfl⟩)⟩, ?_⟩))) (by first | rfl | exact congrArg AV.g (ints_ren _ _) | (simp [ints_ren, AV.ren, ABlk.ren, AC.ren, AE.ren, qq]; done)) ?_
  refine Wk.on ?_
  refine ⟨fun _ => ?_, fun h => by simp at h⟩
  refine Wk.on ?_
  refine CallA.ro [] (.c (.bool true)) (awake_spec) (by first | rfl | exact congrArg AV.g (ints_ren _ _) | (simp [ints_ren, AV.ren, ABlk.ren, AC.ren, AE.ren, qq]; done)) rfl (by (repeat (first | exact trivial | refine ⟨⟨(by first | exact .inl (by decide) | exact .inr (by decide)), (by first | (refine Or.inl ?_; first | rfl | exact congrArg some (ints_ren _ _).symm | exact congrArg ABlk.own (ints_ren _ _).symm | exact congrArg some (tab64_ren _).symm) | rfl | exact congrArg some (ints_ren _ _).symm | exact congrArg ABlk.own (ints_ren _ _).symm | exact congrArg some (tab64_ren _).symm | exact Or.inr ⟨rfl, rfl⟩)⟩, ?_⟩))) (by first | rfl | exact congrArg AV.g (ints_ren _ _) | (simp [ints_ren, AV.ren, ABlk.ren, AC.ren, AE.ren, qq]; done)) ?_
  refine Wk.on ?_
  exact AH.Fin.nil [] ⟨rfl, rfl, rfl⟩ (by first | exact trivial | (simp [tupA, hpLt, tmLt, AV.lt, AE.lt, AC.lt, LL_cons, LL_nil, idOk, ABlk.lt, ints_LL, GB, tab64_LL, gC, wB, giC, noneB, gst, tC, pC, gN, gR, rC, rB]; done) | (simp [tupA, hpLt, tmLt, AV.lt, AE.lt, AC.lt, LL_cons, LL_nil, idOk, ABlk.lt, ints_LL, GB, tab64_LL, gC, wB, giC, noneB, gst, tC, pC, gN, gR, rC, rB, rdn, wrn]; done)) trivial trivial rfl (by simp [GB])
end Go.Proofs.YtfphkpdobbffeaaDoor

/-
  Contracts: whether a string is a position, by the program.
-/
namespace Go.Proofs.YtfphkpdobbffeaaDoor
open Go Go.AH
set_option maxRecDepth 100000
set_option maxHeartbeats 1000000

def bs (l : List UInt8) : ByteArray := ⟨l.toArray⟩
theorem bs_size (l : List UInt8) : (bs l).size = l.length := by show l.toArray.size = _; simp
theorem bs_list (b : ByteArray) : b = bs b.data.toList := by cases b; rfl
theorem bs_at (l : List UInt8) (i : Nat) : ((bs l).data.toList.getD i 0) = l.getD i 0 := rfl
def isP (c : UInt8) : Bool := c == 46 || c == 43 || c == 45
/-- The set of the three signs. -/
def asC : List AC := (((List.replicate 256 (AC.bool false)).set 46 (.bool true)).set 43 (.bool true)).set 45 (.bool true)
theorem asC_eq : asC = (List.range 256).map fun c => AC.bool (isP (UInt8.ofNat c)) := by kernel_rfl
theorem as_getD (c : UInt8) : asC.getD c.toNat (.bool false) = .bool (isP c) := by
  have h : c.toNat < 256 := c.toNat_lt
  rw [asC_eq, List.getD_eq_getElem?_getD, List.getElem?_map, List.getElem?_range h]
  simp
theorem as_prim : ∀ x ∈ asC, x.prim = true := by
  rw [asC_eq]; intro x hx; obtain ⟨c, _, rfl⟩ := List.mem_map.1 hx; rfl
theorem as_ren {q : Nat → Nat} : asC.map (AC.ren q) = asC := by
  conv => rhs; rw [← List.map_id asC]
  exact List.map_congr_left fun x hx => prim_ren (as_prim x hx) q
theorem as_LL (n : Nat) : LL n asC := fun x hx => prim_lt (as_prim x hx)
theorem as_len : asC.length = 256 := by rw [asC_eq]; simp
theorem contains_spec (c : UInt8) : FDet Tryd.prog 118 [.c (.ptr 0 0), .c (.int .u8 (c.toNat : Int))] [(0, .ro asC)] 1 (.c (.bool (isP c))) [] 1 := by
  have hc : c.toNat < 256 := c.toNat_lt
  have hl := as_len
  have hg := as_getD c
  have hg : asC.getD (0 + ((c.toNat : Nat) : Int).toNat * 1) (.bool false) = .bool (isP c) := by rw [Int.toNat_natCast, Nat.zero_add, Nat.mul_one]; exact hg
  refine FSpec.of_body tok true Tryd.func118 rfl (by kernel_rfl) (by decide) (by simp [tupA, hpLt, tmLt, AV.lt, AE.lt, AC.lt, LL_cons, LL_nil, idOk, ABlk.lt, ints_LL, GB, tab64_LL, gC, wB, giC, noneB, gst, tC, pC, as_LL]) (by simp [tupA, hpLt, tmLt, AV.lt, AE.lt, AC.lt, LL_cons, LL_nil, idOk, ABlk.lt, ints_LL, GB, tab64_LL, gC, wB, giC, noneB, gst, tC, pC, as_LL]) (by show 2 ≤ _; decide) ?_
  refine Wk.on ?_
  rw [hg]
  exact AH.Fin.nil [] ⟨rfl, rfl, rfl⟩ (by first | exact trivial | (simp [tupA, hpLt, tmLt, AV.lt, AE.lt, AC.lt, LL_cons, LL_nil, idOk, ABlk.lt, ints_LL, GB, tab64_LL, gC, wB, giC, noneB, gst, tC, pC, as_LL]; done) | (simp [tupA, hpLt, tmLt, AV.lt, AE.lt, AC.lt, LL_cons, LL_nil, idOk, ABlk.lt, ints_LL, GB, tab64_LL, gC, wB, giC, noneB, gst, tC, pC, as_LL, rdn, wrn]; done)) trivial trivial rfl (by simp [GB])
def trimR (l : List UInt8) : List UInt8 := (l.reverse.dropWhile isP).reverse
theorem trimR_snoc (l : List UInt8) (c : UInt8) : trimR (l ++ [c]) = if isP c = true then trimR l else l ++ [c] := by
  simp only [trimR, List.reverse_append, List.reverse_cons, List.reverse_nil, List.nil_append, List.singleton_append, List.dropWhile_cons]
  split <;> simp
theorem trimR_spec (l : List UInt8) (hl : l.length ≤ 1000) : FDet Tryd.prog 106 [.c (.str (bs l)), .c (.ptr 0 0)] [(0, .ro asC)] 1 (.c (.str (bs (trimR l)))) [] 1 := by
  refine FSpec.of_body tok true Tryd.func106 rfl (by kernel_rfl) (by decide) (by simp [tupA, hpLt, tmLt, AV.lt, AE.lt, AC.lt, LL_cons, LL_nil, idOk, ABlk.lt, ints_LL, GB, tab64_LL, gC, wB, giC, noneB, gst, tC, pC, as_LL]) (by simp [tupA, hpLt, tmLt, AV.lt, AE.lt, AC.lt, LL_cons, LL_nil, idOk, ABlk.lt, ints_LL, GB, tab64_LL, gC, wB, giC, noneB, gst, tC, pC, as_LL]) (by show 2 ≤ _; decide) ?_
  refine Wk.on ?_
  refine Tr.loop (md := true) (X := List UInt8) (st := fun m => ⟨[(0, .c (.str (bs m))), (1, .c (.ptr 0 0))], [(0, .ro asC)], 1, 22, 1⟩) (inv := fun m => m.length ≤ 1000 ∧ trimR m = trimR l) (μ := fun m => m.length) (x0 := l) (l := []) tok ⟨hl, rfl⟩ ?_ ?_
  · exact Sub.nil ⟨rfl, rfl, (by simp [tab64_LL, gC, wB, giC, noneB, gst, tC, pC, as_LL]), rfl, (by simp [tupA, hpLt, tmLt, AV.lt, AE.lt, AC.lt, LL_cons, LL_nil, idOk, ABlk.lt, ints_LL, GB, tab64_LL, gC, wB, giC, noneB, gst, tC, pC, as_LL]), (by simp [tupA, hpLt, tmLt, AV.lt, AE.lt, AC.lt, LL_cons, LL_nil, idOk, ABlk.lt, ints_LL, GB, tab64_LL, gC, wB, giC, noneB, gst, tC, pC, as_LL])⟩ (by (repeat (first | exact trivial | refine ⟨trivial, ?_⟩ | refine ⟨rfl, ?_⟩))) (by (repeat (first | exact trivial | refine ⟨trivial, ?_⟩ | refine ⟨rfl, ?_⟩)))
  · rintro m ⟨hm, ht⟩
    have hs := bs_size m
    refine Wk.on ?_
    rw [hs]
    refine ⟨fun hc => ?_, fun hc => ?_⟩ <;> (try simp only [decide_eq_true_eq, decide_eq_false_iff_not, Decidable.not_not, Bool.not_true, Bool.not_false, ne_eq, cond_true, cond_false, Bool.not_eq_true', Bool.not_eq_false'] at hc)
    · obtain ⟨m0, c, rfl⟩ : ∃ m0 c, m = m0 ++ [c] := by
        have : m ≠ [] := fun e => by rw [e] at hc; simp at hc
        exact ⟨m.dropLast, m.getLast this, (List.dropLast_concat_getLast this).symm⟩
      rw [trimR_snoc] at ht
      have hlen : (m0 ++ [c]).length = m0.length + 1 := by simp
      rw [hlen] at hm hs
      have hat : (bs (m0 ++ [c])).data.toList.getD ((((m0.length + 1 : Nat) : Int) - 1).toNat) 0 = c := by
        rw [bs_at, show (((m0.length + 1 : Nat) : Int) - 1).toNat = m0.length by omega]
        simp [List.getD_eq_getElem?_getD]
      refine Wk.on ?_
      rw [hs, hat]
      refine CallA.ro [0] (.c (.bool (isP c))) (contains_spec c) (by first | rfl | exact congrArg AV.g (ints_ren _ _) | (simp [ints_ren, AV.ren, ABlk.ren, AC.ren, AE.ren, qq]; done)) rfl (by (repeat (first | exact trivial | refine ⟨⟨(by first | exact .inl (by decide) | exact .inr (by decide)), (by first | (refine Or.inl ?_; first | rfl | exact congrArg some (ints_ren _ _).symm | exact congrArg ABlk.own (ints_ren _ _).symm | exact congrArg some (tab64_ren _).symm | exact congrArg some as_ren.symm | exact as_ren.symm) | rfl | exact congrArg some (ints_ren _ _).symm | exact congrArg ABlk.own (ints_ren _ _).symm | exact congrArg some (tab64_ren _).symm | exact congrArg some as_ren.symm | exact as_ren.symm | exact Or.inr ⟨rfl, rfl⟩)⟩, ?_⟩))) (by first | rfl | exact congrArg AV.g (ints_ren _ _) | (simp [ints_ren, AV.ren, ABlk.ren, AC.ren, AE.ren, qq]; done)) ?_
      cases hp : isP c with
      | true =>
        rw [hp, if_pos rfl] at ht
        refine Wk.on ?_
        rw [hs]
        refine ⟨⟨Int.le_refl 0, by show (0 : Int) ≤ ((m0.length + 1 : Nat) : Int) - 1; omega, by show ((m0.length + 1 : Nat) : Int) - 1 ≤ ((m0.length + 1 : Nat) : Int); omega⟩, ?_⟩
        have e1 : (bs (m0 ++ [c])).extract ((none : Option Int).getD 0).toNat ((some (((m0.length + 1 : Nat) : Int) - 1)).getD ((m0.length + 1 : Nat) : Int)).toNat = bs m0 := by
          rw [bs, ext_bytes]
          simp only [Option.getD_none, Option.getD_some]
          rw [show (((m0.length + 1 : Nat) : Int) - 1).toNat = m0.length by omega]
          simp [bs]
        rw [e1]
        refine Wk.on ?_
        refine Again.mk (m0) (Sub.nil ⟨rfl, rfl, (by simp [tab64_LL, gC, wB, giC, noneB, gst, tC, pC, as_LL]), rfl, (by simp [tupA, hpLt, tmLt, AV.lt, AE.lt, AC.lt, LL_cons, LL_nil, idOk, ABlk.lt, ints_LL, GB, tab64_LL, gC, wB, giC, noneB, gst, tC, pC, as_LL]), (by simp [tupA, hpLt, tmLt, AV.lt, AE.lt, AC.lt, LL_cons, LL_nil, idOk, ABlk.lt, ints_LL, GB, tab64_LL, gC, wB, giC, noneB, gst, tC, pC, as_LL])⟩ (by (repeat (first | exact trivial | refine ⟨trivial, ?_⟩ | refine ⟨rfl, ?_⟩))) (by (repeat (first | exact trivial | refine ⟨trivial, ?_⟩ | refine ⟨rfl, ?_⟩)))) (⟨by omega, ht⟩) (by omega)
      | false =>
        rw [hp] at ht
        simp only [Bool.false_eq_true, if_false] at ht
        refine Wk.on ?_
        exact AH.Fin.nil [] ⟨by rw [← ht]; rfl, rfl, rfl⟩ (by first | exact trivial | (simp [tupA, hpLt, tmLt, AV.lt, AE.lt, AC.lt, LL_cons, LL_nil, idOk, ABlk.lt, ints_LL, GB, tab64_LL, gC, wB, giC, noneB, gst, tC, pC, as_LL]; done) | (simp [tupA, hpLt, tmLt, AV.lt, AE.lt, AC.lt, LL_cons, LL_nil, idOk, ABlk.lt, ints_LL, GB, tab64_LL, gC, wB, giC, noneB, gst, tC, pC, as_LL, rdn, wrn]; done)) trivial trivial rfl (by simp [GB])
    · have : m = [] := by
        cases m with
        | nil => rfl
        | cons a b => simp at hc
      subst this
      refine Wk.on ?_
      exact AH.Fin.nil [] ⟨by rw [← ht]; rfl, rfl, rfl⟩ (by first | exact trivial | (simp [tupA, hpLt, tmLt, AV.lt, AE.lt, AC.lt, LL_cons, LL_nil, idOk, ABlk.lt, ints_LL, GB, tab64_LL, gC, wB, giC, noneB, gst, tC, pC, as_LL]; done) | (simp [tupA, hpLt, tmLt, AV.lt, AE.lt, AC.lt, LL_cons, LL_nil, idOk, ABlk.lt, ints_LL, GB, tab64_LL, gC, wB, giC, noneB, gst, tC, pC, as_LL, rdn, wrn]; done)) trivial trivial rfl (by simp [GB])
theorem trimL_spec (l : List UInt8) (hl : l.length ≤ 1000) : FDet Tryd.prog 105 [.c (.str (bs l)), .c (.ptr 0 0)] [(0, .ro asC)] 1 (.c (.str (bs (l.dropWhile isP)))) [] 1 := by
  refine FSpec.of_body tok true Tryd.func105 rfl (by kernel_rfl) (by decide) (by simp [tupA, hpLt, tmLt, AV.lt, AE.lt, AC.lt, LL_cons, LL_nil, idOk, ABlk.lt, ints_LL, GB, tab64_LL, gC, wB, giC, noneB, gst, tC, pC, as_LL]) (by simp [tupA, hpLt, tmLt, AV.lt, AE.lt, AC.lt, LL_cons, LL_nil, idOk, ABlk.lt, ints_LL, GB, tab64_LL, gC, wB, giC, noneB, gst, tC, pC, as_LL]) (by show 2 ≤ _; decide) ?_
  refine Wk.on ?_
  refine Tr.loop (md := true) (X := List UInt8) (st := fun m => ⟨[(0, .c (.str (bs m))), (1, .c (.ptr 0 0))], [(0, .ro asC)], 1, 16, 1⟩) (inv := fun m => m.length ≤ 1000 ∧ m.dropWhile isP = l.dropWhile isP) (μ := fun m => m.length) (x0 := l) (l := []) tok ⟨hl, rfl⟩ ?_ ?_
  · exact Sub.nil ⟨rfl, rfl, (by simp [tab64_LL, gC, wB, giC, noneB, gst, tC, pC, as_LL]), rfl, (by simp [tupA, hpLt, tmLt, AV.lt, AE.lt, AC.lt, LL_cons, LL_nil, idOk, ABlk.lt, ints_LL, GB, tab64_LL, gC, wB, giC, noneB, gst, tC, pC, as_LL]), (by simp [tupA, hpLt, tmLt, AV.lt, AE.lt, AC.lt, LL_cons, LL_nil, idOk, ABlk.lt, ints_LL, GB, tab64_LL, gC, wB, giC, noneB, gst, tC, pC, as_LL])⟩ (by (repeat (first | exact trivial | refine ⟨trivial, ?_⟩ | refine ⟨rfl, ?_⟩))) (by (repeat (first | exact trivial | refine ⟨trivial, ?_⟩ | refine ⟨rfl, ?_⟩)))
  · rintro m ⟨hm, ht⟩
    have hs := bs_size m
    refine Wk.on ?_
    rw [hs]
    refine ⟨fun hc => ?_, fun hc => ?_⟩ <;> (try simp only [decide_eq_true_eq, decide_eq_false_iff_not, Decidable.not_not, Bool.not_true, Bool.not_false, ne_eq, cond_true, cond_false, Bool.not_eq_true', Bool.not_eq_false'] at hc)
    · obtain ⟨c, m0, rfl⟩ : ∃ c m0, m = c :: m0 := by
        cases m with
        | nil => simp at hc
        | cons a b => exact ⟨a, b, rfl⟩
      rw [List.dropWhile_cons] at ht
      have hlen : (c :: m0).length = m0.length + 1 := by simp
      rw [hlen] at hm hs
      have hat : (bs (c :: m0)).data.toList.getD (Int.toNat 0) 0 = c := rfl
      refine Wk.on ?_
      rw [hat]
      refine CallA.ro [0] (.c (.bool (isP c))) (contains_spec c) (by first | rfl | exact congrArg AV.g (ints_ren _ _) | (simp [ints_ren, AV.ren, ABlk.ren, AC.ren, AE.ren, qq]; done)) rfl (by (repeat (first | exact trivial | refine ⟨⟨(by first | exact .inl (by decide) | exact .inr (by decide)), (by first | (refine Or.inl ?_; first | rfl | exact congrArg some (ints_ren _ _).symm | exact congrArg ABlk.own (ints_ren _ _).symm | exact congrArg some (tab64_ren _).symm | exact congrArg some as_ren.symm | exact as_ren.symm) | rfl | exact congrArg some (ints_ren _ _).symm | exact congrArg ABlk.own (ints_ren _ _).symm | exact congrArg some (tab64_ren _).symm | exact congrArg some as_ren.symm | exact as_ren.symm | exact Or.inr ⟨rfl, rfl⟩)⟩, ?_⟩))) (by first | rfl | exact congrArg AV.g (ints_ren _ _) | (simp [ints_ren, AV.ren, ABlk.ren, AC.ren, AE.ren, qq]; done)) ?_
      cases hp : isP c with
      | true =>
        rw [hp, if_pos rfl] at ht
        refine Wk.on ?_
        rw [hs]
        refine ⟨⟨by decide, by show (1 : Int) ≤ ((m0.length + 1 : Nat) : Int); omega, Int.le_refl _⟩, ?_⟩
        have e1 : (bs (c :: m0)).extract ((some (1 : Int)).getD 0).toNat ((none : Option Int).getD ((m0.length + 1 : Nat) : Int)).toNat = bs m0 := by
          rw [bs, ext_bytes]
          simp only [Option.getD_none, Option.getD_some]
          rw [Int.toNat_natCast]
          simp [bs]
        rw [e1]
        refine Wk.on ?_
        refine Again.mk (m0) (Sub.nil ⟨rfl, rfl, (by simp [tab64_LL, gC, wB, giC, noneB, gst, tC, pC, as_LL]), rfl, (by simp [tupA, hpLt, tmLt, AV.lt, AE.lt, AC.lt, LL_cons, LL_nil, idOk, ABlk.lt, ints_LL, GB, tab64_LL, gC, wB, giC, noneB, gst, tC, pC, as_LL]), (by simp [tupA, hpLt, tmLt, AV.lt, AE.lt, AC.lt, LL_cons, LL_nil, idOk, ABlk.lt, ints_LL, GB, tab64_LL, gC, wB, giC, noneB, gst, tC, pC, as_LL])⟩ (by (repeat (first | exact trivial | refine ⟨trivial, ?_⟩ | refine ⟨rfl, ?_⟩))) (by (repeat (first | exact trivial | refine ⟨trivial, ?_⟩ | refine ⟨rfl, ?_⟩)))) (⟨by omega, ht⟩) (by omega)
      | false =>
        rw [hp] at ht
        simp only [Bool.false_eq_true, if_false] at ht
        refine Wk.on ?_
        exact AH.Fin.nil [] ⟨by rw [← ht]; rfl, rfl, rfl⟩ (by first | exact trivial | (simp [tupA, hpLt, tmLt, AV.lt, AE.lt, AC.lt, LL_cons, LL_nil, idOk, ABlk.lt, ints_LL, GB, tab64_LL, gC, wB, giC, noneB, gst, tC, pC, as_LL]; done) | (simp [tupA, hpLt, tmLt, AV.lt, AE.lt, AC.lt, LL_cons, LL_nil, idOk, ABlk.lt, ints_LL, GB, tab64_LL, gC, wB, giC, noneB, gst, tC, pC, as_LL, rdn, wrn]; done)) trivial trivial rfl (by simp [GB])
    · have : m = [] := by
        cases m with
        | nil => rfl
        | cons a b => simp at hc
      subst this
      refine Wk.on ?_
      exact AH.Fin.nil [] ⟨by rw [← ht]; rfl, rfl, rfl⟩ (by first | exact trivial | (simp [tupA, hpLt, tmLt, AV.lt, AE.lt, AC.lt, LL_cons, LL_nil, idOk, ABlk.lt, ints_LL, GB, tab64_LL, gC, wB, giC, noneB, gst, tC, pC, as_LL]; done) | (simp [tupA, hpLt, tmLt, AV.lt, AE.lt, AC.lt, LL_cons, LL_nil, idOk, ABlk.lt, ints_LL, GB, tab64_LL, gC, wB, giC, noneB, gst, tC, pC, as_LL, rdn, wrn]; done)) trivial trivial rfl (by simp [GB])
/-- What is left of a string. -/
def trimP (l : List UInt8) : List UInt8 := (trimR l).dropWhile isP
theorem dropWhile_nil {l : List UInt8} : l.dropWhile isP = [] ↔ ∀ c ∈ l, isP c = true := by
  induction l with
  | nil => simp
  | cons a l ih =>
    rw [List.dropWhile_cons]
    cases h : isP a <;> simp [h, ih]
theorem trimP_nil (l : List UInt8) : trimP l = [] ↔ ∀ c ∈ l, isP c = true := by
  rw [trimP, dropWhile_nil]
  constructor
  · intro h c hc
    have h1 : ∀ l : List UInt8, (∀ c ∈ l.dropWhile isP, isP c = true) → ∀ c ∈ l, isP c = true := by
      intro l
      induction l with
      | nil => simp
      | cons a l ih =>
        intro h
        rw [List.dropWhile_cons] at h
        cases ha : isP a with
        | true => rw [ha, if_pos rfl] at h; intro c hc; rcases List.mem_cons.1 hc with rfl | hc; exact ha; exact ih h c hc
        | false => rw [ha] at h; exact h
    exact h1 l.reverse (fun c hc => h c (by rw [trimR]; exact List.mem_reverse.2 hc)) c (List.mem_reverse.2 hc)
  · intro h c hc
    exact h c (by rw [trimR, List.mem_reverse] at hc; exact List.mem_reverse.1 ((List.dropWhile_sublist _).subset hc))
def asS : Nat → List AC
  | 0 => List.replicate 256 (.bool false)
  | 1 => (List.replicate 256 (AC.bool false)).set 46 (.bool true)
  | 2 => ((List.replicate 256 (AC.bool false)).set 46 (.bool true)).set 43 (.bool true)
  | _ => asC
theorem asS_LL (n : Nat) : ∀ i, LL n (asS i)
  | 0 => fun x hx => by rw [List.eq_of_mem_replicate hx]; trivial
  | 1 => fun x hx => by
    rcases List.mem_or_eq_of_mem_set hx with h | h
    · rw [List.eq_of_mem_replicate h]; trivial
    · rw [h]; trivial
  | 2 => fun x hx => by
    rcases List.mem_or_eq_of_mem_set hx with h | h
    · rcases List.mem_or_eq_of_mem_set h with h | h
      · rw [List.eq_of_mem_replicate h]; trivial
      · rw [h]; trivial
    · rw [h]; trivial
  | n + 3 => as_LL _
theorem make_spec : FDet Tryd.prog 104 [.c (.str ⟨#[46, 43, 45]⟩)] [] 0 (.t [.g asC, .c (.bool true)]) [] 0 := by
  have hl := as_len
  refine FSpec.of_body tok true Tryd.func104 rfl (by kernel_rfl) (by decide) (by simp [tupA, hpLt, tmLt, AV.lt, AE.lt, AC.lt, LL_cons, LL_nil, idOk, ABlk.lt, ints_LL, GB, tab64_LL, gC, wB, giC, noneB, gst, tC, pC, as_LL]) (by simp [tupA, hpLt, tmLt, AV.lt, AE.lt, AC.lt, LL_cons, LL_nil, idOk, ABlk.lt, ints_LL, GB, tab64_LL, gC, wB, giC, noneB, gst, tC, pC, as_LL]) (by show 1 ≤ _; decide) ?_
  refine Wk.on ?_
  refine Tr.loop (md := true) (X := Nat) (st := fun i => ⟨[(0, .c (.str ⟨#[46, 43, 45]⟩)), (2, .c (.ptr 0 0)), (4, .c (.int .i64 i))], [(0, .own (asS i))], 1, 21, 0⟩) (inv := fun i => i ≤ 3) (μ := fun i => 3 - i) (x0 := 0) (l := []) tok (by omega) ?_ ?_
  · exact Sub.nil ⟨rfl, rfl, (by simp), rfl, (by simp [tupA, hpLt, tmLt, AV.lt, AE.lt, AC.lt, LL_cons, LL_nil, idOk, ABlk.lt, ints_LL, GB, tab64_LL, gC, wB, giC, noneB, gst, tC, pC, as_LL]), (by refine ⟨.inl (by decide), ?_, trivial⟩; intro x hx; rw [List.eq_of_mem_replicate hx]; trivial)⟩ (by (repeat (first | exact trivial | refine ⟨trivial, ?_⟩ | refine ⟨rfl, ?_⟩))) (by (repeat (first | exact trivial | refine ⟨trivial, ?_⟩ | refine ⟨rfl, ?_⟩)))
  · intro i hi
    match i, hi with
    | 0, _ =>
      refine Wk.on ?_
      refine Again.mk (1) (Sub.nil ⟨rfl, rfl, (by simp), rfl, (by simp [tupA, hpLt, tmLt, AV.lt, AE.lt, AC.lt, LL_cons, LL_nil, idOk, ABlk.lt, ints_LL, GB, tab64_LL, gC, wB, giC, noneB, gst, tC, pC, as_LL]), ⟨.inl (by decide), asS_LL _ _, trivial⟩⟩ (by (repeat (first | exact trivial | refine ⟨trivial, ?_⟩ | refine ⟨rfl, ?_⟩))) ⟨rfl, trivial⟩) (by omega) (by omega)
    | 1, _ =>
      refine Wk.on ?_
      refine Again.mk (2) (Sub.nil ⟨rfl, rfl, (by simp), rfl, (by simp [tupA, hpLt, tmLt, AV.lt, AE.lt, AC.lt, LL_cons, LL_nil, idOk, ABlk.lt, ints_LL, GB, tab64_LL, gC, wB, giC, noneB, gst, tC, pC, as_LL]), ⟨.inl (by decide), asS_LL _ _, trivial⟩⟩ (by (repeat (first | exact trivial | refine ⟨trivial, ?_⟩ | refine ⟨rfl, ?_⟩))) ⟨rfl, trivial⟩) (by omega) (by omega)
    | 2, _ =>
      refine Wk.on ?_
      refine Again.mk (3) (Sub.nil ⟨rfl, rfl, (by simp), rfl, (by simp [tupA, hpLt, tmLt, AV.lt, AE.lt, AC.lt, LL_cons, LL_nil, idOk, ABlk.lt, ints_LL, GB, tab64_LL, gC, wB, giC, noneB, gst, tC, pC, as_LL]), ⟨.inl (by decide), asS_LL _ _, trivial⟩⟩ (by (repeat (first | exact trivial | refine ⟨trivial, ?_⟩ | refine ⟨rfl, ?_⟩))) ⟨rfl, trivial⟩) (by omega) (by omega)
    | 3, _ =>
      refine Wk.on ?_
      exact AH.Fin.nil [] ⟨rfl, rfl, rfl⟩ (by intro e he; simp at he; rcases he with rfl | rfl; exact as_LL _; trivial) trivial trivial rfl (by simp [GB])
end Go.Proofs.YtfphkpdobbffeaaDoor
