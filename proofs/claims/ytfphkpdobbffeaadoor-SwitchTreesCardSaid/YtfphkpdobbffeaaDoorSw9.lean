/-
  Contract: the reference's HasTrees.
-/
import Derived.Test.YtfphkpdobbffeaaDoorSw8
set_option linter.unusedSimpArgs false
set_option linter.unusedVariables false
namespace Go.Proofs.YtfphkpdobbffeaaDoor
open Go Go.AH Go.Wire
set_option maxRecDepth 100000
set_option maxHeartbeats 2000000

def alX (g : Gm) (sp : Bool) : Nat → Bool := if sp then alS g else alT g
/-- The first of a pair, and a pair, as the reference looks at them. -/
def okF (g : Gm) (sp : Bool) (a : Nat) : Prop := bit (placesN g a) g.s = 1 ∧ bit (placesN g a) g.t = 1 ∧ (sp = true → placesN g a = 2 ^ g.n - 1) ∧ treeR g a (placesN g a) = true
def okS (g : Gm) (a b : Nat) : Prop := a &&& b = 0 ∧ pop b = pop a ∧ treeR g b (placesN g a) = true
theorem alX_iff {g : Gm} (hg : g.ok) (sp : Bool) (pl : Nat) : alX g sp pl = true ↔ pl.testBit g.s = true ∧ pl.testBit g.t = true ∧ (sp = true → pl = 2 ^ g.n - 1) := by
  cases sp
  · show alT g pl = true ↔ _
    rw [alT, decide_eq_true_eq, endsN, ends_iff]
    exact ⟨fun h => ⟨h.1, h.2, fun k => by cases k⟩, fun h => ⟨h.1, h.2.1⟩⟩
  · show alS g pl = true ↔ _
    rw [alS, decide_eq_true_eq]
    constructor
    · intro h
      rw [h, Nat.testBit_two_pow_sub_one, Nat.testBit_two_pow_sub_one]
      exact ⟨decide_eq_true hg.s, decide_eq_true hg.t, fun _ => rfl⟩
    · intro h; exact h.2.2 rfl
theorem isT_parts {g : Gm} {b pl : Nat} (h : isTreeB g b pl = true) : placesN g b = pl ∧ (pop b : Int) = pop pl - 1 := by
  rw [isTreeB, Bool.and_eq_true, Bool.and_eq_true, decide_eq_true_eq, decide_eq_true_eq] at h
  exact h.1
theorem has_iff {g : Gm} (hg : g.ok) (hst : g.s ≠ g.t) (sp : Bool) : (∃ a b, 1 ≤ b ∧ b < a ∧ a < 2 ^ g.ws.length ∧ okF g sp a ∧ okS g a b) ↔ treesF g (alX g sp) ≠ none := by
  constructor
  · rintro ⟨a, b, hb1, hba, ha, ⟨f1, f2, f3, f4⟩, s1, s2, s3⟩ hn
    have e1 := (bit_test _ _).1 f1
    have e2 := (bit_test _ _).1 f2
    have hpl := places_ltn hg ha
    have hp2 := pop_two (placesN_lt8 hg ha) hst e1 e2
    rw [← tree_pl hg ha hpl hp2] at f4
    rw [← tree_pl hg (b := b) (by omega) hpl hp2] at s3
    obtain ⟨p1, p2⟩ := isT_parts s3
    have hal : alX g sp (placesN g b) = true := by rw [p1]; exact (alX_iff hg sp _).2 ⟨e1, e2, f3⟩
    have h1 := firstFrom_none hn b (Nat.zero_le _) (by omega)
    rw [okA, if_neg (by rw [hal, p1, s3]; simp; omega)] at h1
    have h3 := firstFrom_none h1 a (by omega) (by omega)
    rw [okB, if_pos ⟨by rw [Nat.and_comm]; exact s1, by rw [p1]; exact f4⟩] at h3
    cases h3
  · intro hn
    obtain ⟨p, hp⟩ := Option.ne_none_iff_exists'.1 hn
    obtain ⟨a, b⟩ := p
    obtain ⟨h1, h2, h3, h4, h5, h6, h7⟩ := treesF_lt hg.len hp
    obtain ⟨e1, e2, e3⟩ := (alX_iff hg sp _).1 h4
    have ha : a < 2 ^ g.ws.length := by omega
    have hpl := places_ltn hg ha
    have hp2 := pop_two (placesN_lt8 hg ha) hst e1 e2
    obtain ⟨p1, p2⟩ := isT_parts h7
    obtain ⟨_, p3⟩ := isT_parts h5
    rw [tree_pl hg ha hpl hp2] at h5
    rw [tree_pl hg h3 hpl hp2] at h7
    refine ⟨b, a, by omega, h2, h3, ?_, ?_⟩
    · unfold okF
      rw [p1]
      exact ⟨(bit_test _ _).2 e1, (bit_test _ _).2 e2, e3, h7⟩
    · unfold okS
      rw [p1]
      exact ⟨by rw [Nat.and_comm]; exact h6, by omega, h5⟩
theorem hasT_spec {g : Gm} (hg : g.ok) (hst : g.s ≠ g.t) : FDet Tryd.prog 28 [.g (gC g 0), .c (.bool false)] [(0, wB g)] 1 (.c (.bool (decide (treesF g (alT g) ≠ none)))) [] 1 := by
  have hgl := hg.len
  have hs8 := hg.s
  have ht8 := hg.t
  have hn8 := hg.n8
  have hi := has_iff hg hst false
  have hX : treesF g (alX g false) = treesF g (alT g) := rfl
  rw [hX] at hi
  obtain ⟨N, hN⟩ : ∃ N, N = 2 ^ g.ws.length := ⟨_, rfl⟩
  have hN0 := pow_pos2 g.ws.length
  have hN1 : N ≤ 1024 := by rw [hN]; exact Nat.pow_le_pow_right (by omega) hgl
  rw [← hN] at hi hN0
  refine FSpec.of_body tok true Tryd.func28 rfl (by kernel_rfl) (by decide) (by simp [tupA, hpLt, tmLt, AV.lt, AE.lt, AC.lt, LL_cons, LL_nil, idOk, ABlk.lt, ints_LL, GB, tab64_LL, gC, wB, giC, noneB]) (by simp [tupA, hpLt, tmLt, AV.lt, AE.lt, AC.lt, LL_cons, LL_nil, idOk, ABlk.lt, ints_LL, GB, tab64_LL, gC, wB, giC, noneB]) (by show 2 ≤ _; decide) ?_
  (conv => whnf); (repeat ((first | (refine ⟨rfl, ?_⟩) | (refine ⟨trivial, ?_⟩) | (refine Wk.yes ?_) | (refine Wk.no ?_) | (refine Wk.and ?_) | (refine ⟨by exact ⟨shr_nonneg _ _, by decide⟩, ?_⟩) | (refine ⟨by exact ⟨shr_nonneg' _ _, by decide⟩, ?_⟩)); (conv => whnf)))
  refine Tr.loop (md := true) (X := Nat) (st := fun a => ⟨[(1, .c (.bool false)), (2, .c (.ptr 1 0)), (5, .c (.int .i64 a))], [(1, .own (gC g 0)), (0, wB g)], 2, 73, 1⟩) (inv := fun a => 1 ≤ a ∧ a ≤ N ∧ ∀ x y, 1 ≤ y → y < x → x < a → okF g false x → ¬ okS g x y) (μ := fun a => N - a) (x0 := 1) (l := []) tok ⟨by omega, by omega, fun x y h1 h2 h3 => absurd h1 (by omega)⟩ ?_ ?_
  · exact Sub.nil ⟨rfl, rfl, (by simp [tab64_LL, gC, wB, giC, noneB]), rfl, (by simp [tupA, hpLt, tmLt, AV.lt, AE.lt, AC.lt, LL_cons, LL_nil, idOk, ABlk.lt, ints_LL, GB, tab64_LL, gC, wB, giC, noneB]), (by simp [tupA, hpLt, tmLt, AV.lt, AE.lt, AC.lt, LL_cons, LL_nil, idOk, ABlk.lt, ints_LL, GB, tab64_LL, gC, wB, giC, noneB])⟩ (by (repeat (first | exact trivial | refine ⟨trivial, ?_⟩ | refine ⟨rfl, ?_⟩))) (by (repeat (first | exact trivial | refine ⟨trivial, ?_⟩ | refine ⟨rfl, ?_⟩)))
  · rintro a ⟨h1, h2, h3⟩
    (conv => whnf); (repeat ((first | (refine ⟨rfl, ?_⟩) | (refine ⟨trivial, ?_⟩) | (refine Wk.yes ?_) | (refine Wk.no ?_) | (refine Wk.and ?_) | (refine ⟨by exact ⟨shr_nonneg _ _, by decide⟩, ?_⟩) | (refine ⟨by exact ⟨shr_nonneg' _ _, by decide⟩, ?_⟩)); (conv => whnf)))
    refine ⟨⟨by omega, by omega, by rw [shl1 hN]; unfold I64; omega⟩, ?_⟩
    rw [shl1 hN]
    (conv => whnf); (repeat ((first | (refine ⟨rfl, ?_⟩) | (refine ⟨trivial, ?_⟩) | (refine Wk.yes ?_) | (refine Wk.no ?_) | (refine Wk.and ?_) | (refine ⟨by exact ⟨shr_nonneg _ _, by decide⟩, ?_⟩) | (refine ⟨by exact ⟨shr_nonneg' _ _, by decide⟩, ?_⟩)); (conv => whnf)))
    by_cases ha : a < N
    · rw [decide_eq_true (show ((a : Nat) : Int) < ((N : Nat) : Int) by omega)]
      have haL : a < 2 ^ g.ws.length := by rw [← hN]; exact ha
      have hpl := places_ltn hg haL
      have hpl8 := placesN_lt8 hg haL
      have hpR := placesR_spec hg haL
      have hta := tree_spec hg (set := a) (pl := placesN g a) (by omega) (by omega)
      have c1 := bit_01 (placesN g a) g.s
      have c2 := bit_01 (placesN g a) g.t
      have hskip : ¬ okF g false a → ∀ x y, 1 ≤ y → y < x → x < a + 1 → okF g false x → ¬ okS g x y := fun hno x y q1 q2 q3 q4 => by
        by_cases e : x = a
        · subst e; exact absurd q4 hno
        · exact h3 x y q1 q2 (by omega) q4
      (conv => whnf); (repeat ((first | (refine ⟨rfl, ?_⟩) | (refine ⟨trivial, ?_⟩) | (refine Wk.yes ?_) | (refine Wk.no ?_) | (refine Wk.and ?_) | (refine ⟨by exact ⟨shr_nonneg _ _, by decide⟩, ?_⟩) | (refine ⟨by exact ⟨shr_nonneg' _ _, by decide⟩, ?_⟩)); (conv => whnf)))
      refine CallA.ro2 [0] (.c (.int .i64 (placesN g a))) (hpR) ?_
      (conv => whnf); (repeat ((first | (refine ⟨rfl, ?_⟩) | (refine ⟨trivial, ?_⟩) | (refine Wk.yes ?_) | (refine Wk.no ?_) | (refine Wk.and ?_) | (refine ⟨by exact ⟨shr_nonneg _ _, by decide⟩, ?_⟩) | (refine ⟨by exact ⟨shr_nonneg' _ _, by decide⟩, ?_⟩)); (conv => whnf)))
      rw [bitE]
      by_cases d1 : bit (placesN g a) g.s = 1
      rotate_left
      · have hnext := hskip (fun k => d1 k.1)
        rw [decide_eq_true (show ((bit (placesN g a) g.s : Nat) : Int) = 0 by omega)]
        (conv => whnf); (repeat ((first | (refine ⟨rfl, ?_⟩) | (refine ⟨trivial, ?_⟩) | (refine Wk.yes ?_) | (refine Wk.no ?_) | (refine Wk.and ?_) | (refine ⟨by exact ⟨shr_nonneg _ _, by decide⟩, ?_⟩) | (refine ⟨by exact ⟨shr_nonneg' _ _, by decide⟩, ?_⟩)); (conv => whnf)))
        refine Again.mk (a + 1) (Sub.nil ⟨rfl, rfl, (by simp [tab64_LL, gC, wB, giC, noneB]), rfl, (by simp [tupA, hpLt, tmLt, AV.lt, AE.lt, AC.lt, LL_cons, LL_nil, idOk, ABlk.lt, ints_LL, GB, tab64_LL, gC, wB, giC, noneB]), (by simp [tupA, hpLt, tmLt, AV.lt, AE.lt, AC.lt, LL_cons, LL_nil, idOk, ABlk.lt, ints_LL, GB, tab64_LL, gC, wB, giC, noneB])⟩ (by (repeat (first | exact trivial | refine ⟨trivial, ?_⟩ | refine ⟨rfl, ?_⟩))) (by (repeat (first | exact trivial | refine ⟨trivial, ?_⟩ | refine ⟨rfl, ?_⟩)))) (⟨by omega, by omega, hnext⟩) (by omega)
      rw [decide_eq_false (show ¬ ((bit (placesN g a) g.s : Nat) : Int) = 0 by omega)]
      (conv => whnf); (repeat ((first | (refine ⟨rfl, ?_⟩) | (refine ⟨trivial, ?_⟩) | (refine Wk.yes ?_) | (refine Wk.no ?_) | (refine Wk.and ?_) | (refine ⟨by exact ⟨shr_nonneg _ _, by decide⟩, ?_⟩) | (refine ⟨by exact ⟨shr_nonneg' _ _, by decide⟩, ?_⟩)); (conv => whnf)))
      rw [bitE]
      by_cases d2 : bit (placesN g a) g.t = 1
      rotate_left
      · have hnext := hskip (fun k => d2 k.2.1)
        rw [decide_eq_true (show ((bit (placesN g a) g.t : Nat) : Int) = 0 by omega)]
        (conv => whnf); (repeat ((first | (refine ⟨rfl, ?_⟩) | (refine ⟨trivial, ?_⟩) | (refine Wk.yes ?_) | (refine Wk.no ?_) | (refine Wk.and ?_) | (refine ⟨by exact ⟨shr_nonneg _ _, by decide⟩, ?_⟩) | (refine ⟨by exact ⟨shr_nonneg' _ _, by decide⟩, ?_⟩)); (conv => whnf)))
        refine Again.mk (a + 1) (Sub.nil ⟨rfl, rfl, (by simp [tab64_LL, gC, wB, giC, noneB]), rfl, (by simp [tupA, hpLt, tmLt, AV.lt, AE.lt, AC.lt, LL_cons, LL_nil, idOk, ABlk.lt, ints_LL, GB, tab64_LL, gC, wB, giC, noneB]), (by simp [tupA, hpLt, tmLt, AV.lt, AE.lt, AC.lt, LL_cons, LL_nil, idOk, ABlk.lt, ints_LL, GB, tab64_LL, gC, wB, giC, noneB])⟩ (by (repeat (first | exact trivial | refine ⟨trivial, ?_⟩ | refine ⟨rfl, ?_⟩))) (by (repeat (first | exact trivial | refine ⟨trivial, ?_⟩ | refine ⟨rfl, ?_⟩)))) (⟨by omega, by omega, hnext⟩) (by omega)
      rw [decide_eq_false (show ¬ ((bit (placesN g a) g.t : Nat) : Int) = 0 by omega)]
      (conv => whnf); (repeat ((first | (refine ⟨rfl, ?_⟩) | (refine ⟨trivial, ?_⟩) | (refine Wk.yes ?_) | (refine Wk.no ?_) | (refine Wk.and ?_) | (refine ⟨by exact ⟨shr_nonneg _ _, by decide⟩, ?_⟩) | (refine ⟨by exact ⟨shr_nonneg' _ _, by decide⟩, ?_⟩)); (conv => whnf)))
      have d3 : false = true → placesN g a = 2 ^ g.n - 1 := fun k => by cases k
      cases d4 : treeR g a (placesN g a) with
      | false =>
        have hnext := hskip (fun k => by rw [k.2.2.2] at d4; cases d4)
        rw [d4] at hta
        refine CallA.ro2 [0] (.c (.bool false)) (hta) ?_
        (conv => whnf); (repeat ((first | (refine ⟨rfl, ?_⟩) | (refine ⟨trivial, ?_⟩) | (refine Wk.yes ?_) | (refine Wk.no ?_) | (refine Wk.and ?_) | (refine ⟨by exact ⟨shr_nonneg _ _, by decide⟩, ?_⟩) | (refine ⟨by exact ⟨shr_nonneg' _ _, by decide⟩, ?_⟩)); (conv => whnf)))
        refine Again.mk (a + 1) (Sub.nil ⟨rfl, rfl, (by simp [tab64_LL, gC, wB, giC, noneB]), rfl, (by simp [tupA, hpLt, tmLt, AV.lt, AE.lt, AC.lt, LL_cons, LL_nil, idOk, ABlk.lt, ints_LL, GB, tab64_LL, gC, wB, giC, noneB]), (by simp [tupA, hpLt, tmLt, AV.lt, AE.lt, AC.lt, LL_cons, LL_nil, idOk, ABlk.lt, ints_LL, GB, tab64_LL, gC, wB, giC, noneB])⟩ (by (repeat (first | exact trivial | refine ⟨trivial, ?_⟩ | refine ⟨rfl, ?_⟩))) (by (repeat (first | exact trivial | refine ⟨trivial, ?_⟩ | refine ⟨rfl, ?_⟩)))) (⟨by omega, by omega, hnext⟩) (by omega)
      | true =>
        have hF : okF g false a := ⟨d1, d2, d3, d4⟩
        rw [d4] at hta
        refine CallA.ro2 [0] (.c (.bool true)) (hta) ?_
        (conv => whnf); (repeat ((first | (refine ⟨rfl, ?_⟩) | (refine ⟨trivial, ?_⟩) | (refine Wk.yes ?_) | (refine Wk.no ?_) | (refine Wk.and ?_) | (refine ⟨by exact ⟨shr_nonneg _ _, by decide⟩, ?_⟩) | (refine ⟨by exact ⟨shr_nonneg' _ _, by decide⟩, ?_⟩)); (conv => whnf)))
        refine Tr.loop (md := true) (X := Nat) (st := fun b => ⟨[(1, .c (.bool false)), (2, .c (.ptr 1 0)), (5, .c (.int .i64 a)), (6, .c (.int .i64 (placesN g a))), (7, .c (.int .i64 b))], [(1, .own (gC g 0)), (0, wB g)], 2, 73, 1⟩) (inv := fun b => 1 ≤ b ∧ b ≤ a ∧ ∀ y, 1 ≤ y → y < b → ¬ okS g a y) (μ := fun b => a - b) (x0 := 1) (l := []) tok ⟨by omega, by omega, fun y k1 k2 => absurd k1 (by omega)⟩ ?_ ?_
        · exact Sub.nil ⟨rfl, rfl, (by simp [tab64_LL, gC, wB, giC, noneB]), rfl, (by simp [tupA, hpLt, tmLt, AV.lt, AE.lt, AC.lt, LL_cons, LL_nil, idOk, ABlk.lt, ints_LL, GB, tab64_LL, gC, wB, giC, noneB]), (by simp [tupA, hpLt, tmLt, AV.lt, AE.lt, AC.lt, LL_cons, LL_nil, idOk, ABlk.lt, ints_LL, GB, tab64_LL, gC, wB, giC, noneB])⟩ (by (repeat (first | exact trivial | refine ⟨trivial, ?_⟩ | refine ⟨rfl, ?_⟩))) (by (repeat (first | exact trivial | refine ⟨trivial, ?_⟩ | refine ⟨rfl, ?_⟩)))
        · rintro b ⟨g1, g2, g3⟩
          by_cases hb : b < a
          · have hpa := pop_le a (by omega)
            have hpb := pop_le b (by omega)
            have hza := size_spec (n := a) (by omega)
            have hzb := size_spec (n := b) (by omega)
            have htb := tree_spec hg (set := b) (pl := placesN g a) (by omega) (by omega)
            have hgo : ¬ okS g a b → ∀ y, 1 ≤ y → y < b + 1 → ¬ okS g a y := fun hno y k1 k2 => by
              by_cases e : y = b
              · subst e; exact hno
              · exact g3 y k1 (by omega)
            (conv => whnf); (repeat ((first | (refine ⟨rfl, ?_⟩) | (refine ⟨trivial, ?_⟩) | (refine Wk.yes ?_) | (refine Wk.no ?_) | (refine Wk.and ?_) | (refine ⟨by exact ⟨shr_nonneg _ _, by decide⟩, ?_⟩) | (refine ⟨by exact ⟨shr_nonneg' _ _, by decide⟩, ?_⟩)); (conv => whnf)))
            rw [decide_eq_true (show ((b : Nat) : Int) < ((a : Nat) : Int) by omega)]
            (conv => whnf); (repeat ((first | (refine ⟨rfl, ?_⟩) | (refine ⟨trivial, ?_⟩) | (refine Wk.yes ?_) | (refine Wk.no ?_) | (refine Wk.and ?_) | (refine ⟨by exact ⟨shr_nonneg _ _, by decide⟩, ?_⟩) | (refine ⟨by exact ⟨shr_nonneg' _ _, by decide⟩, ?_⟩)); (conv => whnf)))
            simp only [Int.toNat_natCast]
            by_cases e1 : a &&& b = 0
            rotate_left
            · have hnext := hgo (fun k => e1 k.1)
              rw [decide_eq_false (show ¬ ((a &&& b : Nat) : Int) = 0 by omega)]
              (conv => whnf); (repeat ((first | (refine ⟨rfl, ?_⟩) | (refine ⟨trivial, ?_⟩) | (refine Wk.yes ?_) | (refine Wk.no ?_) | (refine Wk.and ?_) | (refine ⟨by exact ⟨shr_nonneg _ _, by decide⟩, ?_⟩) | (refine ⟨by exact ⟨shr_nonneg' _ _, by decide⟩, ?_⟩)); (conv => whnf)))
              refine Again.mk (b + 1) (Sub.nil ⟨rfl, rfl, (by simp [tab64_LL, gC, wB, giC, noneB]), rfl, (by simp [tupA, hpLt, tmLt, AV.lt, AE.lt, AC.lt, LL_cons, LL_nil, idOk, ABlk.lt, ints_LL, GB, tab64_LL, gC, wB, giC, noneB]), (by simp [tupA, hpLt, tmLt, AV.lt, AE.lt, AC.lt, LL_cons, LL_nil, idOk, ABlk.lt, ints_LL, GB, tab64_LL, gC, wB, giC, noneB])⟩ (by (repeat (first | exact trivial | refine ⟨trivial, ?_⟩ | refine ⟨rfl, ?_⟩))) (by (repeat (first | exact trivial | refine ⟨trivial, ?_⟩ | refine ⟨rfl, ?_⟩)))) (⟨by omega, by omega, hnext⟩) (by omega)
            rw [decide_eq_true (show ((a &&& b : Nat) : Int) = 0 by omega)]
            (conv => whnf); (repeat ((first | (refine ⟨rfl, ?_⟩) | (refine ⟨trivial, ?_⟩) | (refine Wk.yes ?_) | (refine Wk.no ?_) | (refine Wk.and ?_) | (refine ⟨by exact ⟨shr_nonneg _ _, by decide⟩, ?_⟩) | (refine ⟨by exact ⟨shr_nonneg' _ _, by decide⟩, ?_⟩)); (conv => whnf)))
            refine CallA.ro2 [] (.c (.int .i64 (pop b))) (hzb) ?_
            (conv => whnf); (repeat ((first | (refine ⟨rfl, ?_⟩) | (refine ⟨trivial, ?_⟩) | (refine Wk.yes ?_) | (refine Wk.no ?_) | (refine Wk.and ?_) | (refine ⟨by exact ⟨shr_nonneg _ _, by decide⟩, ?_⟩) | (refine ⟨by exact ⟨shr_nonneg' _ _, by decide⟩, ?_⟩)); (conv => whnf)))
            refine CallA.ro2 [] (.c (.int .i64 (pop a))) (hza) ?_
            (conv => whnf); (repeat ((first | (refine ⟨rfl, ?_⟩) | (refine ⟨trivial, ?_⟩) | (refine Wk.yes ?_) | (refine Wk.no ?_) | (refine Wk.and ?_) | (refine ⟨by exact ⟨shr_nonneg _ _, by decide⟩, ?_⟩) | (refine ⟨by exact ⟨shr_nonneg' _ _, by decide⟩, ?_⟩)); (conv => whnf)))
            by_cases e2 : pop b = pop a
            rotate_left
            · have hnext := hgo (fun k => e2 k.2.1)
              rw [decide_eq_false (show ¬ ((pop b : Nat) : Int) = ((pop a : Nat) : Int) by omega)]
              (conv => whnf); (repeat ((first | (refine ⟨rfl, ?_⟩) | (refine ⟨trivial, ?_⟩) | (refine Wk.yes ?_) | (refine Wk.no ?_) | (refine Wk.and ?_) | (refine ⟨by exact ⟨shr_nonneg _ _, by decide⟩, ?_⟩) | (refine ⟨by exact ⟨shr_nonneg' _ _, by decide⟩, ?_⟩)); (conv => whnf)))
              refine Again.mk (b + 1) (Sub.nil ⟨rfl, rfl, (by simp [tab64_LL, gC, wB, giC, noneB]), rfl, (by simp [tupA, hpLt, tmLt, AV.lt, AE.lt, AC.lt, LL_cons, LL_nil, idOk, ABlk.lt, ints_LL, GB, tab64_LL, gC, wB, giC, noneB]), (by simp [tupA, hpLt, tmLt, AV.lt, AE.lt, AC.lt, LL_cons, LL_nil, idOk, ABlk.lt, ints_LL, GB, tab64_LL, gC, wB, giC, noneB])⟩ (by (repeat (first | exact trivial | refine ⟨trivial, ?_⟩ | refine ⟨rfl, ?_⟩))) (by (repeat (first | exact trivial | refine ⟨trivial, ?_⟩ | refine ⟨rfl, ?_⟩)))) (⟨by omega, by omega, hnext⟩) (by omega)
            rw [decide_eq_true (show ((pop b : Nat) : Int) = ((pop a : Nat) : Int) by omega)]
            (conv => whnf); (repeat ((first | (refine ⟨rfl, ?_⟩) | (refine ⟨trivial, ?_⟩) | (refine Wk.yes ?_) | (refine Wk.no ?_) | (refine Wk.and ?_) | (refine ⟨by exact ⟨shr_nonneg _ _, by decide⟩, ?_⟩) | (refine ⟨by exact ⟨shr_nonneg' _ _, by decide⟩, ?_⟩)); (conv => whnf)))
            cases e3 : treeR g b (placesN g a) with
            | false =>
              have hnext := hgo (fun k => by rw [k.2.2] at e3; cases e3)
              rw [e3] at htb
              refine CallA.ro2 [0] (.c (.bool false)) (htb) ?_
              (conv => whnf); (repeat ((first | (refine ⟨rfl, ?_⟩) | (refine ⟨trivial, ?_⟩) | (refine Wk.yes ?_) | (refine Wk.no ?_) | (refine Wk.and ?_) | (refine ⟨by exact ⟨shr_nonneg _ _, by decide⟩, ?_⟩) | (refine ⟨by exact ⟨shr_nonneg' _ _, by decide⟩, ?_⟩)); (conv => whnf)))
              refine Again.mk (b + 1) (Sub.nil ⟨rfl, rfl, (by simp [tab64_LL, gC, wB, giC, noneB]), rfl, (by simp [tupA, hpLt, tmLt, AV.lt, AE.lt, AC.lt, LL_cons, LL_nil, idOk, ABlk.lt, ints_LL, GB, tab64_LL, gC, wB, giC, noneB]), (by simp [tupA, hpLt, tmLt, AV.lt, AE.lt, AC.lt, LL_cons, LL_nil, idOk, ABlk.lt, ints_LL, GB, tab64_LL, gC, wB, giC, noneB])⟩ (by (repeat (first | exact trivial | refine ⟨trivial, ?_⟩ | refine ⟨rfl, ?_⟩))) (by (repeat (first | exact trivial | refine ⟨trivial, ?_⟩ | refine ⟨rfl, ?_⟩)))) (⟨by omega, by omega, hnext⟩) (by omega)
            | true =>
              rw [e3] at htb
              refine CallA.ro2 [0] (.c (.bool true)) (htb) ?_
              (conv => whnf); (repeat ((first | (refine ⟨rfl, ?_⟩) | (refine ⟨trivial, ?_⟩) | (refine Wk.yes ?_) | (refine Wk.no ?_) | (refine Wk.and ?_) | (refine ⟨by exact ⟨shr_nonneg _ _, by decide⟩, ?_⟩) | (refine ⟨by exact ⟨shr_nonneg' _ _, by decide⟩, ?_⟩)); (conv => whnf)))
              have hne := hi.1 ⟨a, b, g1, hb, ha, hF, e1, e2, e3⟩
              exact AH.Fin.nil2 ⟨by rw [decide_eq_true hne]; rfl, rfl, rfl⟩
          · have hba : b = a := by omega
            subst hba
            have hnext : ∀ x y, 1 ≤ y → y < x → x < b + 1 → okF g false x → ¬ okS g x y := fun x y q1 q2 q3 q4 => by
              by_cases e : x = b
              · subst e; exact g3 y q1 q2
              · exact h3 x y q1 q2 (by omega) q4
            (conv => whnf); (repeat ((first | (refine ⟨rfl, ?_⟩) | (refine ⟨trivial, ?_⟩) | (refine Wk.yes ?_) | (refine Wk.no ?_) | (refine Wk.and ?_) | (refine ⟨by exact ⟨shr_nonneg _ _, by decide⟩, ?_⟩) | (refine ⟨by exact ⟨shr_nonneg' _ _, by decide⟩, ?_⟩)); (conv => whnf)))
            rw [decide_eq_false (show ¬ ((b : Nat) : Int) < ((b : Nat) : Int) by omega)]
            (conv => whnf); (repeat ((first | (refine ⟨rfl, ?_⟩) | (refine ⟨trivial, ?_⟩) | (refine Wk.yes ?_) | (refine Wk.no ?_) | (refine Wk.and ?_) | (refine ⟨by exact ⟨shr_nonneg _ _, by decide⟩, ?_⟩) | (refine ⟨by exact ⟨shr_nonneg' _ _, by decide⟩, ?_⟩)); (conv => whnf)))
            intro _
            (conv => whnf); (repeat ((first | (refine ⟨rfl, ?_⟩) | (refine ⟨trivial, ?_⟩) | (refine Wk.yes ?_) | (refine Wk.no ?_) | (refine Wk.and ?_) | (refine ⟨by exact ⟨shr_nonneg _ _, by decide⟩, ?_⟩) | (refine ⟨by exact ⟨shr_nonneg' _ _, by decide⟩, ?_⟩)); (conv => whnf)))
            refine Again.mk (b + 1) (Sub.nil ⟨rfl, rfl, (by simp [tab64_LL, gC, wB, giC, noneB]), rfl, (by simp [tupA, hpLt, tmLt, AV.lt, AE.lt, AC.lt, LL_cons, LL_nil, idOk, ABlk.lt, ints_LL, GB, tab64_LL, gC, wB, giC, noneB]), (by simp [tupA, hpLt, tmLt, AV.lt, AE.lt, AC.lt, LL_cons, LL_nil, idOk, ABlk.lt, ints_LL, GB, tab64_LL, gC, wB, giC, noneB])⟩ (by (repeat (first | exact trivial | refine ⟨trivial, ?_⟩ | refine ⟨rfl, ?_⟩))) (by (repeat (first | exact trivial | refine ⟨trivial, ?_⟩ | refine ⟨rfl, ?_⟩)))) (⟨by omega, by omega, hnext⟩) (by omega)
    · have hno : ¬ treesF g (alT g) ≠ none := fun k => by
        obtain ⟨x, y, q1, q2, q3, q4, q5⟩ := hi.2 k
        exact h3 x y q1 q2 (by omega) q4 q5
      rw [decide_eq_false (show ¬ ((a : Nat) : Int) < ((N : Nat) : Int) by omega)]
      (conv => whnf); (repeat ((first | (refine ⟨rfl, ?_⟩) | (refine ⟨trivial, ?_⟩) | (refine Wk.yes ?_) | (refine Wk.no ?_) | (refine Wk.and ?_) | (refine ⟨by exact ⟨shr_nonneg _ _, by decide⟩, ?_⟩) | (refine ⟨by exact ⟨shr_nonneg' _ _, by decide⟩, ?_⟩)); (conv => whnf)))
      exact AH.Fin.nil2 ⟨by rw [decide_eq_false hno]; rfl, rfl, rfl⟩
theorem hasS_spec {g : Gm} (hg : g.ok) (hst : g.s ≠ g.t) : FDet Tryd.prog 28 [.g (gC g 0), .c (.bool true)] [(0, wB g)] 1 (.c (.bool (decide (treesF g (alS g) ≠ none)))) [] 1 := by
  have hgl := hg.len
  have hs8 := hg.s
  have ht8 := hg.t
  have hn8 := hg.n8
  have hi := has_iff hg hst true
  have hX : treesF g (alX g true) = treesF g (alS g) := rfl
  rw [hX] at hi
  obtain ⟨N, hN⟩ : ∃ N, N = 2 ^ g.ws.length := ⟨_, rfl⟩
  have hN0 := pow_pos2 g.ws.length
  have hN1 : N ≤ 1024 := by rw [hN]; exact Nat.pow_le_pow_right (by omega) hgl
  rw [← hN] at hi hN0
  refine FSpec.of_body tok true Tryd.func28 rfl (by kernel_rfl) (by decide) (by simp [tupA, hpLt, tmLt, AV.lt, AE.lt, AC.lt, LL_cons, LL_nil, idOk, ABlk.lt, ints_LL, GB, tab64_LL, gC, wB, giC, noneB]) (by simp [tupA, hpLt, tmLt, AV.lt, AE.lt, AC.lt, LL_cons, LL_nil, idOk, ABlk.lt, ints_LL, GB, tab64_LL, gC, wB, giC, noneB]) (by show 2 ≤ _; decide) ?_
  (conv => whnf); (repeat ((first | (refine ⟨rfl, ?_⟩) | (refine ⟨trivial, ?_⟩) | (refine Wk.yes ?_) | (refine Wk.no ?_) | (refine Wk.and ?_) | (refine ⟨by exact ⟨shr_nonneg _ _, by decide⟩, ?_⟩) | (refine ⟨by exact ⟨shr_nonneg' _ _, by decide⟩, ?_⟩)); (conv => whnf)))
  refine Tr.loop (md := true) (X := Nat) (st := fun a => ⟨[(1, .c (.bool true)), (2, .c (.ptr 1 0)), (5, .c (.int .i64 a))], [(1, .own (gC g 0)), (0, wB g)], 2, 73, 1⟩) (inv := fun a => 1 ≤ a ∧ a ≤ N ∧ ∀ x y, 1 ≤ y → y < x → x < a → okF g true x → ¬ okS g x y) (μ := fun a => N - a) (x0 := 1) (l := []) tok ⟨by omega, by omega, fun x y h1 h2 h3 => absurd h1 (by omega)⟩ ?_ ?_
  · exact Sub.nil ⟨rfl, rfl, (by simp [tab64_LL, gC, wB, giC, noneB]), rfl, (by simp [tupA, hpLt, tmLt, AV.lt, AE.lt, AC.lt, LL_cons, LL_nil, idOk, ABlk.lt, ints_LL, GB, tab64_LL, gC, wB, giC, noneB]), (by simp [tupA, hpLt, tmLt, AV.lt, AE.lt, AC.lt, LL_cons, LL_nil, idOk, ABlk.lt, ints_LL, GB, tab64_LL, gC, wB, giC, noneB])⟩ (by (repeat (first | exact trivial | refine ⟨trivial, ?_⟩ | refine ⟨rfl, ?_⟩))) (by (repeat (first | exact trivial | refine ⟨trivial, ?_⟩ | refine ⟨rfl, ?_⟩)))
  · rintro a ⟨h1, h2, h3⟩
    (conv => whnf); (repeat ((first | (refine ⟨rfl, ?_⟩) | (refine ⟨trivial, ?_⟩) | (refine Wk.yes ?_) | (refine Wk.no ?_) | (refine Wk.and ?_) | (refine ⟨by exact ⟨shr_nonneg _ _, by decide⟩, ?_⟩) | (refine ⟨by exact ⟨shr_nonneg' _ _, by decide⟩, ?_⟩)); (conv => whnf)))
    refine ⟨⟨by omega, by omega, by rw [shl1 hN]; unfold I64; omega⟩, ?_⟩
    rw [shl1 hN]
    (conv => whnf); (repeat ((first | (refine ⟨rfl, ?_⟩) | (refine ⟨trivial, ?_⟩) | (refine Wk.yes ?_) | (refine Wk.no ?_) | (refine Wk.and ?_) | (refine ⟨by exact ⟨shr_nonneg _ _, by decide⟩, ?_⟩) | (refine ⟨by exact ⟨shr_nonneg' _ _, by decide⟩, ?_⟩)); (conv => whnf)))
    by_cases ha : a < N
    · rw [decide_eq_true (show ((a : Nat) : Int) < ((N : Nat) : Int) by omega)]
      have haL : a < 2 ^ g.ws.length := by rw [← hN]; exact ha
      have hpl := places_ltn hg haL
      have hpl8 := placesN_lt8 hg haL
      have hpR := placesR_spec hg haL
      have hta := tree_spec hg (set := a) (pl := placesN g a) (by omega) (by omega)
      have c1 := bit_01 (placesN g a) g.s
      have c2 := bit_01 (placesN g a) g.t
      have hskip : ¬ okF g true a → ∀ x y, 1 ≤ y → y < x → x < a + 1 → okF g true x → ¬ okS g x y := fun hno x y q1 q2 q3 q4 => by
        by_cases e : x = a
        · subst e; exact absurd q4 hno
        · exact h3 x y q1 q2 (by omega) q4
      (conv => whnf); (repeat ((first | (refine ⟨rfl, ?_⟩) | (refine ⟨trivial, ?_⟩) | (refine Wk.yes ?_) | (refine Wk.no ?_) | (refine Wk.and ?_) | (refine ⟨by exact ⟨shr_nonneg _ _, by decide⟩, ?_⟩) | (refine ⟨by exact ⟨shr_nonneg' _ _, by decide⟩, ?_⟩)); (conv => whnf)))
      refine CallA.ro2 [0] (.c (.int .i64 (placesN g a))) (hpR) ?_
      (conv => whnf); (repeat ((first | (refine ⟨rfl, ?_⟩) | (refine ⟨trivial, ?_⟩) | (refine Wk.yes ?_) | (refine Wk.no ?_) | (refine Wk.and ?_) | (refine ⟨by exact ⟨shr_nonneg _ _, by decide⟩, ?_⟩) | (refine ⟨by exact ⟨shr_nonneg' _ _, by decide⟩, ?_⟩)); (conv => whnf)))
      rw [bitE]
      by_cases d1 : bit (placesN g a) g.s = 1
      rotate_left
      · have hnext := hskip (fun k => d1 k.1)
        rw [decide_eq_true (show ((bit (placesN g a) g.s : Nat) : Int) = 0 by omega)]
        (conv => whnf); (repeat ((first | (refine ⟨rfl, ?_⟩) | (refine ⟨trivial, ?_⟩) | (refine Wk.yes ?_) | (refine Wk.no ?_) | (refine Wk.and ?_) | (refine ⟨by exact ⟨shr_nonneg _ _, by decide⟩, ?_⟩) | (refine ⟨by exact ⟨shr_nonneg' _ _, by decide⟩, ?_⟩)); (conv => whnf)))
        refine Again.mk (a + 1) (Sub.nil ⟨rfl, rfl, (by simp [tab64_LL, gC, wB, giC, noneB]), rfl, (by simp [tupA, hpLt, tmLt, AV.lt, AE.lt, AC.lt, LL_cons, LL_nil, idOk, ABlk.lt, ints_LL, GB, tab64_LL, gC, wB, giC, noneB]), (by simp [tupA, hpLt, tmLt, AV.lt, AE.lt, AC.lt, LL_cons, LL_nil, idOk, ABlk.lt, ints_LL, GB, tab64_LL, gC, wB, giC, noneB])⟩ (by (repeat (first | exact trivial | refine ⟨trivial, ?_⟩ | refine ⟨rfl, ?_⟩))) (by (repeat (first | exact trivial | refine ⟨trivial, ?_⟩ | refine ⟨rfl, ?_⟩)))) (⟨by omega, by omega, hnext⟩) (by omega)
      rw [decide_eq_false (show ¬ ((bit (placesN g a) g.s : Nat) : Int) = 0 by omega)]
      (conv => whnf); (repeat ((first | (refine ⟨rfl, ?_⟩) | (refine ⟨trivial, ?_⟩) | (refine Wk.yes ?_) | (refine Wk.no ?_) | (refine Wk.and ?_) | (refine ⟨by exact ⟨shr_nonneg _ _, by decide⟩, ?_⟩) | (refine ⟨by exact ⟨shr_nonneg' _ _, by decide⟩, ?_⟩)); (conv => whnf)))
      rw [bitE]
      by_cases d2 : bit (placesN g a) g.t = 1
      rotate_left
      · have hnext := hskip (fun k => d2 k.2.1)
        rw [decide_eq_true (show ((bit (placesN g a) g.t : Nat) : Int) = 0 by omega)]
        (conv => whnf); (repeat ((first | (refine ⟨rfl, ?_⟩) | (refine ⟨trivial, ?_⟩) | (refine Wk.yes ?_) | (refine Wk.no ?_) | (refine Wk.and ?_) | (refine ⟨by exact ⟨shr_nonneg _ _, by decide⟩, ?_⟩) | (refine ⟨by exact ⟨shr_nonneg' _ _, by decide⟩, ?_⟩)); (conv => whnf)))
        refine Again.mk (a + 1) (Sub.nil ⟨rfl, rfl, (by simp [tab64_LL, gC, wB, giC, noneB]), rfl, (by simp [tupA, hpLt, tmLt, AV.lt, AE.lt, AC.lt, LL_cons, LL_nil, idOk, ABlk.lt, ints_LL, GB, tab64_LL, gC, wB, giC, noneB]), (by simp [tupA, hpLt, tmLt, AV.lt, AE.lt, AC.lt, LL_cons, LL_nil, idOk, ABlk.lt, ints_LL, GB, tab64_LL, gC, wB, giC, noneB])⟩ (by (repeat (first | exact trivial | refine ⟨trivial, ?_⟩ | refine ⟨rfl, ?_⟩))) (by (repeat (first | exact trivial | refine ⟨trivial, ?_⟩ | refine ⟨rfl, ?_⟩)))) (⟨by omega, by omega, hnext⟩) (by omega)
      rw [decide_eq_false (show ¬ ((bit (placesN g a) g.t : Nat) : Int) = 0 by omega)]
      (conv => whnf); (repeat ((first | (refine ⟨rfl, ?_⟩) | (refine ⟨trivial, ?_⟩) | (refine Wk.yes ?_) | (refine Wk.no ?_) | (refine Wk.and ?_) | (refine ⟨by exact ⟨shr_nonneg _ _, by decide⟩, ?_⟩) | (refine ⟨by exact ⟨shr_nonneg' _ _, by decide⟩, ?_⟩)); (conv => whnf)))
      obtain ⟨Q, hQ⟩ : ∃ Q, Q = 2 ^ g.n := ⟨_, rfl⟩
      have hQ8 : Q ≤ 256 := by rw [hQ]; exact Nat.pow_le_pow_right (j := 8) (by omega) (by omega)
      have hQ0 := pow_pos2 g.n
      rw [← hQ] at hQ0
      refine ⟨⟨by omega, by omega, by rw [shl1 hQ]; unfold I64; omega⟩, ?_⟩
      rw [shl1 hQ]
      (conv => whnf); (repeat ((first | (refine ⟨rfl, ?_⟩) | (refine ⟨trivial, ?_⟩) | (refine Wk.yes ?_) | (refine Wk.no ?_) | (refine Wk.and ?_) | (refine ⟨by exact ⟨shr_nonneg _ _, by decide⟩, ?_⟩) | (refine ⟨by exact ⟨shr_nonneg' _ _, by decide⟩, ?_⟩)); (conv => whnf)))
      by_cases d3' : placesN g a = Q - 1
      rotate_left
      · have hnext := hskip (fun k => d3' (by rw [hQ]; exact k.2.2.1 rfl))
        rw [decide_eq_true (show ((placesN g a : Nat) : Int) ≠ ((Q : Nat) : Int) - 1 by omega)]
        (conv => whnf); (repeat ((first | (refine ⟨rfl, ?_⟩) | (refine ⟨trivial, ?_⟩) | (refine Wk.yes ?_) | (refine Wk.no ?_) | (refine Wk.and ?_) | (refine ⟨by exact ⟨shr_nonneg _ _, by decide⟩, ?_⟩) | (refine ⟨by exact ⟨shr_nonneg' _ _, by decide⟩, ?_⟩)); (conv => whnf)))
        refine Again.mk (a + 1) (Sub.nil ⟨rfl, rfl, (by simp [tab64_LL, gC, wB, giC, noneB]), rfl, (by simp [tupA, hpLt, tmLt, AV.lt, AE.lt, AC.lt, LL_cons, LL_nil, idOk, ABlk.lt, ints_LL, GB, tab64_LL, gC, wB, giC, noneB]), (by simp [tupA, hpLt, tmLt, AV.lt, AE.lt, AC.lt, LL_cons, LL_nil, idOk, ABlk.lt, ints_LL, GB, tab64_LL, gC, wB, giC, noneB])⟩ (by (repeat (first | exact trivial | refine ⟨trivial, ?_⟩ | refine ⟨rfl, ?_⟩))) (by (repeat (first | exact trivial | refine ⟨trivial, ?_⟩ | refine ⟨rfl, ?_⟩)))) (⟨by omega, by omega, hnext⟩) (by omega)
      have d3 : true = true → placesN g a = 2 ^ g.n - 1 := fun _ => by rw [← hQ]; exact d3'
      rw [decide_eq_false (show ¬ ((placesN g a : Nat) : Int) ≠ ((Q : Nat) : Int) - 1 by omega)]
      (conv => whnf); (repeat ((first | (refine ⟨rfl, ?_⟩) | (refine ⟨trivial, ?_⟩) | (refine Wk.yes ?_) | (refine Wk.no ?_) | (refine Wk.and ?_) | (refine ⟨by exact ⟨shr_nonneg _ _, by decide⟩, ?_⟩) | (refine ⟨by exact ⟨shr_nonneg' _ _, by decide⟩, ?_⟩)); (conv => whnf)))
      cases d4 : treeR g a (placesN g a) with
      | false =>
        have hnext := hskip (fun k => by rw [k.2.2.2] at d4; cases d4)
        rw [d4] at hta
        refine CallA.ro2 [0] (.c (.bool false)) (hta) ?_
        (conv => whnf); (repeat ((first | (refine ⟨rfl, ?_⟩) | (refine ⟨trivial, ?_⟩) | (refine Wk.yes ?_) | (refine Wk.no ?_) | (refine Wk.and ?_) | (refine ⟨by exact ⟨shr_nonneg _ _, by decide⟩, ?_⟩) | (refine ⟨by exact ⟨shr_nonneg' _ _, by decide⟩, ?_⟩)); (conv => whnf)))
        refine Again.mk (a + 1) (Sub.nil ⟨rfl, rfl, (by simp [tab64_LL, gC, wB, giC, noneB]), rfl, (by simp [tupA, hpLt, tmLt, AV.lt, AE.lt, AC.lt, LL_cons, LL_nil, idOk, ABlk.lt, ints_LL, GB, tab64_LL, gC, wB, giC, noneB]), (by simp [tupA, hpLt, tmLt, AV.lt, AE.lt, AC.lt, LL_cons, LL_nil, idOk, ABlk.lt, ints_LL, GB, tab64_LL, gC, wB, giC, noneB])⟩ (by (repeat (first | exact trivial | refine ⟨trivial, ?_⟩ | refine ⟨rfl, ?_⟩))) (by (repeat (first | exact trivial | refine ⟨trivial, ?_⟩ | refine ⟨rfl, ?_⟩)))) (⟨by omega, by omega, hnext⟩) (by omega)
      | true =>
        have hF : okF g true a := ⟨d1, d2, d3, d4⟩
        rw [d4] at hta
        refine CallA.ro2 [0] (.c (.bool true)) (hta) ?_
        (conv => whnf); (repeat ((first | (refine ⟨rfl, ?_⟩) | (refine ⟨trivial, ?_⟩) | (refine Wk.yes ?_) | (refine Wk.no ?_) | (refine Wk.and ?_) | (refine ⟨by exact ⟨shr_nonneg _ _, by decide⟩, ?_⟩) | (refine ⟨by exact ⟨shr_nonneg' _ _, by decide⟩, ?_⟩)); (conv => whnf)))
        refine Tr.loop (md := true) (X := Nat) (st := fun b => ⟨[(1, .c (.bool true)), (2, .c (.ptr 1 0)), (5, .c (.int .i64 a)), (6, .c (.int .i64 (placesN g a))), (7, .c (.int .i64 b))], [(1, .own (gC g 0)), (0, wB g)], 2, 73, 1⟩) (inv := fun b => 1 ≤ b ∧ b ≤ a ∧ ∀ y, 1 ≤ y → y < b → ¬ okS g a y) (μ := fun b => a - b) (x0 := 1) (l := []) tok ⟨by omega, by omega, fun y k1 k2 => absurd k1 (by omega)⟩ ?_ ?_
        · exact Sub.nil ⟨rfl, rfl, (by simp [tab64_LL, gC, wB, giC, noneB]), rfl, (by simp [tupA, hpLt, tmLt, AV.lt, AE.lt, AC.lt, LL_cons, LL_nil, idOk, ABlk.lt, ints_LL, GB, tab64_LL, gC, wB, giC, noneB]), (by simp [tupA, hpLt, tmLt, AV.lt, AE.lt, AC.lt, LL_cons, LL_nil, idOk, ABlk.lt, ints_LL, GB, tab64_LL, gC, wB, giC, noneB])⟩ (by (repeat (first | exact trivial | refine ⟨trivial, ?_⟩ | refine ⟨rfl, ?_⟩))) (by (repeat (first | exact trivial | refine ⟨trivial, ?_⟩ | refine ⟨rfl, ?_⟩)))
        · rintro b ⟨g1, g2, g3⟩
          by_cases hb : b < a
          · have hpa := pop_le a (by omega)
            have hpb := pop_le b (by omega)
            have hza := size_spec (n := a) (by omega)
            have hzb := size_spec (n := b) (by omega)
            have htb := tree_spec hg (set := b) (pl := placesN g a) (by omega) (by omega)
            have hgo : ¬ okS g a b → ∀ y, 1 ≤ y → y < b + 1 → ¬ okS g a y := fun hno y k1 k2 => by
              by_cases e : y = b
              · subst e; exact hno
              · exact g3 y k1 (by omega)
            (conv => whnf); (repeat ((first | (refine ⟨rfl, ?_⟩) | (refine ⟨trivial, ?_⟩) | (refine Wk.yes ?_) | (refine Wk.no ?_) | (refine Wk.and ?_) | (refine ⟨by exact ⟨shr_nonneg _ _, by decide⟩, ?_⟩) | (refine ⟨by exact ⟨shr_nonneg' _ _, by decide⟩, ?_⟩)); (conv => whnf)))
            rw [decide_eq_true (show ((b : Nat) : Int) < ((a : Nat) : Int) by omega)]
            (conv => whnf); (repeat ((first | (refine ⟨rfl, ?_⟩) | (refine ⟨trivial, ?_⟩) | (refine Wk.yes ?_) | (refine Wk.no ?_) | (refine Wk.and ?_) | (refine ⟨by exact ⟨shr_nonneg _ _, by decide⟩, ?_⟩) | (refine ⟨by exact ⟨shr_nonneg' _ _, by decide⟩, ?_⟩)); (conv => whnf)))
            simp only [Int.toNat_natCast]
            by_cases e1 : a &&& b = 0
            rotate_left
            · have hnext := hgo (fun k => e1 k.1)
              rw [decide_eq_false (show ¬ ((a &&& b : Nat) : Int) = 0 by omega)]
              (conv => whnf); (repeat ((first | (refine ⟨rfl, ?_⟩) | (refine ⟨trivial, ?_⟩) | (refine Wk.yes ?_) | (refine Wk.no ?_) | (refine Wk.and ?_) | (refine ⟨by exact ⟨shr_nonneg _ _, by decide⟩, ?_⟩) | (refine ⟨by exact ⟨shr_nonneg' _ _, by decide⟩, ?_⟩)); (conv => whnf)))
              refine Again.mk (b + 1) (Sub.nil ⟨rfl, rfl, (by simp [tab64_LL, gC, wB, giC, noneB]), rfl, (by simp [tupA, hpLt, tmLt, AV.lt, AE.lt, AC.lt, LL_cons, LL_nil, idOk, ABlk.lt, ints_LL, GB, tab64_LL, gC, wB, giC, noneB]), (by simp [tupA, hpLt, tmLt, AV.lt, AE.lt, AC.lt, LL_cons, LL_nil, idOk, ABlk.lt, ints_LL, GB, tab64_LL, gC, wB, giC, noneB])⟩ (by (repeat (first | exact trivial | refine ⟨trivial, ?_⟩ | refine ⟨rfl, ?_⟩))) (by (repeat (first | exact trivial | refine ⟨trivial, ?_⟩ | refine ⟨rfl, ?_⟩)))) (⟨by omega, by omega, hnext⟩) (by omega)
            rw [decide_eq_true (show ((a &&& b : Nat) : Int) = 0 by omega)]
            (conv => whnf); (repeat ((first | (refine ⟨rfl, ?_⟩) | (refine ⟨trivial, ?_⟩) | (refine Wk.yes ?_) | (refine Wk.no ?_) | (refine Wk.and ?_) | (refine ⟨by exact ⟨shr_nonneg _ _, by decide⟩, ?_⟩) | (refine ⟨by exact ⟨shr_nonneg' _ _, by decide⟩, ?_⟩)); (conv => whnf)))
            refine CallA.ro2 [] (.c (.int .i64 (pop b))) (hzb) ?_
            (conv => whnf); (repeat ((first | (refine ⟨rfl, ?_⟩) | (refine ⟨trivial, ?_⟩) | (refine Wk.yes ?_) | (refine Wk.no ?_) | (refine Wk.and ?_) | (refine ⟨by exact ⟨shr_nonneg _ _, by decide⟩, ?_⟩) | (refine ⟨by exact ⟨shr_nonneg' _ _, by decide⟩, ?_⟩)); (conv => whnf)))
            refine CallA.ro2 [] (.c (.int .i64 (pop a))) (hza) ?_
            (conv => whnf); (repeat ((first | (refine ⟨rfl, ?_⟩) | (refine ⟨trivial, ?_⟩) | (refine Wk.yes ?_) | (refine Wk.no ?_) | (refine Wk.and ?_) | (refine ⟨by exact ⟨shr_nonneg _ _, by decide⟩, ?_⟩) | (refine ⟨by exact ⟨shr_nonneg' _ _, by decide⟩, ?_⟩)); (conv => whnf)))
            by_cases e2 : pop b = pop a
            rotate_left
            · have hnext := hgo (fun k => e2 k.2.1)
              rw [decide_eq_false (show ¬ ((pop b : Nat) : Int) = ((pop a : Nat) : Int) by omega)]
              (conv => whnf); (repeat ((first | (refine ⟨rfl, ?_⟩) | (refine ⟨trivial, ?_⟩) | (refine Wk.yes ?_) | (refine Wk.no ?_) | (refine Wk.and ?_) | (refine ⟨by exact ⟨shr_nonneg _ _, by decide⟩, ?_⟩) | (refine ⟨by exact ⟨shr_nonneg' _ _, by decide⟩, ?_⟩)); (conv => whnf)))
              refine Again.mk (b + 1) (Sub.nil ⟨rfl, rfl, (by simp [tab64_LL, gC, wB, giC, noneB]), rfl, (by simp [tupA, hpLt, tmLt, AV.lt, AE.lt, AC.lt, LL_cons, LL_nil, idOk, ABlk.lt, ints_LL, GB, tab64_LL, gC, wB, giC, noneB]), (by simp [tupA, hpLt, tmLt, AV.lt, AE.lt, AC.lt, LL_cons, LL_nil, idOk, ABlk.lt, ints_LL, GB, tab64_LL, gC, wB, giC, noneB])⟩ (by (repeat (first | exact trivial | refine ⟨trivial, ?_⟩ | refine ⟨rfl, ?_⟩))) (by (repeat (first | exact trivial | refine ⟨trivial, ?_⟩ | refine ⟨rfl, ?_⟩)))) (⟨by omega, by omega, hnext⟩) (by omega)
            rw [decide_eq_true (show ((pop b : Nat) : Int) = ((pop a : Nat) : Int) by omega)]
            (conv => whnf); (repeat ((first | (refine ⟨rfl, ?_⟩) | (refine ⟨trivial, ?_⟩) | (refine Wk.yes ?_) | (refine Wk.no ?_) | (refine Wk.and ?_) | (refine ⟨by exact ⟨shr_nonneg _ _, by decide⟩, ?_⟩) | (refine ⟨by exact ⟨shr_nonneg' _ _, by decide⟩, ?_⟩)); (conv => whnf)))
            cases e3 : treeR g b (placesN g a) with
            | false =>
              have hnext := hgo (fun k => by rw [k.2.2] at e3; cases e3)
              rw [e3] at htb
              refine CallA.ro2 [0] (.c (.bool false)) (htb) ?_
              (conv => whnf); (repeat ((first | (refine ⟨rfl, ?_⟩) | (refine ⟨trivial, ?_⟩) | (refine Wk.yes ?_) | (refine Wk.no ?_) | (refine Wk.and ?_) | (refine ⟨by exact ⟨shr_nonneg _ _, by decide⟩, ?_⟩) | (refine ⟨by exact ⟨shr_nonneg' _ _, by decide⟩, ?_⟩)); (conv => whnf)))
              refine Again.mk (b + 1) (Sub.nil ⟨rfl, rfl, (by simp [tab64_LL, gC, wB, giC, noneB]), rfl, (by simp [tupA, hpLt, tmLt, AV.lt, AE.lt, AC.lt, LL_cons, LL_nil, idOk, ABlk.lt, ints_LL, GB, tab64_LL, gC, wB, giC, noneB]), (by simp [tupA, hpLt, tmLt, AV.lt, AE.lt, AC.lt, LL_cons, LL_nil, idOk, ABlk.lt, ints_LL, GB, tab64_LL, gC, wB, giC, noneB])⟩ (by (repeat (first | exact trivial | refine ⟨trivial, ?_⟩ | refine ⟨rfl, ?_⟩))) (by (repeat (first | exact trivial | refine ⟨trivial, ?_⟩ | refine ⟨rfl, ?_⟩)))) (⟨by omega, by omega, hnext⟩) (by omega)
            | true =>
              rw [e3] at htb
              refine CallA.ro2 [0] (.c (.bool true)) (htb) ?_
              (conv => whnf); (repeat ((first | (refine ⟨rfl, ?_⟩) | (refine ⟨trivial, ?_⟩) | (refine Wk.yes ?_) | (refine Wk.no ?_) | (refine Wk.and ?_) | (refine ⟨by exact ⟨shr_nonneg _ _, by decide⟩, ?_⟩) | (refine ⟨by exact ⟨shr_nonneg' _ _, by decide⟩, ?_⟩)); (conv => whnf)))
              have hne := hi.1 ⟨a, b, g1, hb, ha, hF, e1, e2, e3⟩
              exact AH.Fin.nil2 ⟨by rw [decide_eq_true hne]; rfl, rfl, rfl⟩
          · have hba : b = a := by omega
            subst hba
            have hnext : ∀ x y, 1 ≤ y → y < x → x < b + 1 → okF g true x → ¬ okS g x y := fun x y q1 q2 q3 q4 => by
              by_cases e : x = b
              · subst e; exact g3 y q1 q2
              · exact h3 x y q1 q2 (by omega) q4
            (conv => whnf); (repeat ((first | (refine ⟨rfl, ?_⟩) | (refine ⟨trivial, ?_⟩) | (refine Wk.yes ?_) | (refine Wk.no ?_) | (refine Wk.and ?_) | (refine ⟨by exact ⟨shr_nonneg _ _, by decide⟩, ?_⟩) | (refine ⟨by exact ⟨shr_nonneg' _ _, by decide⟩, ?_⟩)); (conv => whnf)))
            rw [decide_eq_false (show ¬ ((b : Nat) : Int) < ((b : Nat) : Int) by omega)]
            (conv => whnf); (repeat ((first | (refine ⟨rfl, ?_⟩) | (refine ⟨trivial, ?_⟩) | (refine Wk.yes ?_) | (refine Wk.no ?_) | (refine Wk.and ?_) | (refine ⟨by exact ⟨shr_nonneg _ _, by decide⟩, ?_⟩) | (refine ⟨by exact ⟨shr_nonneg' _ _, by decide⟩, ?_⟩)); (conv => whnf)))
            intro _
            (conv => whnf); (repeat ((first | (refine ⟨rfl, ?_⟩) | (refine ⟨trivial, ?_⟩) | (refine Wk.yes ?_) | (refine Wk.no ?_) | (refine Wk.and ?_) | (refine ⟨by exact ⟨shr_nonneg _ _, by decide⟩, ?_⟩) | (refine ⟨by exact ⟨shr_nonneg' _ _, by decide⟩, ?_⟩)); (conv => whnf)))
            refine Again.mk (b + 1) (Sub.nil ⟨rfl, rfl, (by simp [tab64_LL, gC, wB, giC, noneB]), rfl, (by simp [tupA, hpLt, tmLt, AV.lt, AE.lt, AC.lt, LL_cons, LL_nil, idOk, ABlk.lt, ints_LL, GB, tab64_LL, gC, wB, giC, noneB]), (by simp [tupA, hpLt, tmLt, AV.lt, AE.lt, AC.lt, LL_cons, LL_nil, idOk, ABlk.lt, ints_LL, GB, tab64_LL, gC, wB, giC, noneB])⟩ (by (repeat (first | exact trivial | refine ⟨trivial, ?_⟩ | refine ⟨rfl, ?_⟩))) (by (repeat (first | exact trivial | refine ⟨trivial, ?_⟩ | refine ⟨rfl, ?_⟩)))) (⟨by omega, by omega, hnext⟩) (by omega)
    · have hno : ¬ treesF g (alS g) ≠ none := fun k => by
        obtain ⟨x, y, q1, q2, q3, q4, q5⟩ := hi.2 k
        exact h3 x y q1 q2 (by omega) q4 q5
      rw [decide_eq_false (show ¬ ((a : Nat) : Int) < ((N : Nat) : Int) by omega)]
      (conv => whnf); (repeat ((first | (refine ⟨rfl, ?_⟩) | (refine ⟨trivial, ?_⟩) | (refine Wk.yes ?_) | (refine Wk.no ?_) | (refine Wk.and ?_) | (refine ⟨by exact ⟨shr_nonneg _ _, by decide⟩, ?_⟩) | (refine ⟨by exact ⟨shr_nonneg' _ _, by decide⟩, ?_⟩)); (conv => whnf)))
      exact AH.Fin.nil2 ⟨by rw [decide_eq_false hno]; rfl, rfl, rfl⟩
end Go.Proofs.YtfphkpdobbffeaaDoor

/-
  Contract: the reference's IsTrees, on all places.
-/
namespace Go.Proofs.YtfphkpdobbffeaaDoor
open Go Go.AH Go.Wire
set_option maxRecDepth 100000
set_option maxHeartbeats 1000000

def areS (g : Gm) (x y : Bool) (a b : Nat) : Bool := x && (y && (decide (a &&& b = 0) && (decide (bit (placesN g a) g.s = 1) && (decide (bit (placesN g a) g.t = 1) && (decide (placesN g a = 2 ^ g.n - 1) && (treeR g a (placesN g a) && treeR g b (placesN g a)))))))
theorem isTreesS_spec {g : Gm} (hg : g.ok) (L0 L1 : List Int) (h0 : L0.length ≤ 1000) (h1 : L1.length ≤ 1000) : FDet Tryd.prog 30 [.g (gC g 0), .g [.rs 1 0 L0.length, .rs 2 0 L1.length], .c (.bool true)] [(0, wB g), (1, .ro (ints L0)), (2, .ro (ints L1))] 3
    (.c (.bool (areS g (setOk g.ws.length L0) (setOk g.ws.length L1) (setV g.ws.length L0) (setV g.ws.length L1)))) [] 3 := by
  have hgl := hg.len
  have s0 := setR_spec hg L0 h0
  have s1 := setR_spec hg L1 h1
  have ha := setV_lt g.ws.length L0
  have hb := setV_lt g.ws.length L1
  change FDet _ _ _ _ _ (.t [.c (.int .i64 (setV g.ws.length L0 : Nat)), .c (.bool (setOk g.ws.length L0))]) _ _ at s0
  change FDet _ _ _ _ _ (.t [.c (.int .i64 (setV g.ws.length L1 : Nat)), .c (.bool (setOk g.ws.length L1))]) _ _ at s1
  generalize setV g.ws.length L0 = a at *
  generalize setV g.ws.length L1 = b at *
  generalize setOk g.ws.length L0 = x at *
  generalize setOk g.ws.length L1 = y at *
  have hp2 : 2 ^ g.ws.length ≤ 1024 := Nat.pow_le_pow_right (by omega) hgl
  have hpl : placesN g a < 2 ^ 8 := placesN_lt hg _ fun y hy => (mem_lt hgl ha hy).2
  have hs8 := hg.s
  have ht8 := hg.t
  have hn8 := hg.n8
  have c1 := bit_01 (placesN g a) g.s
  have c2 := bit_01 (placesN g a) g.t
  have hta := tree_spec hg (set := a) (pl := placesN g a) (by omega) (by omega)
  have htb := tree_spec hg (set := b) (pl := placesN g a) (by omega) (by omega)
  have hare : areS g x y a b = (x && (y && (decide (a &&& b = 0) && (decide (bit (placesN g a) g.s = 1) && (decide (bit (placesN g a) g.t = 1) && (decide (placesN g a = 2 ^ g.n - 1) && (treeR g a (placesN g a) && treeR g b (placesN g a)))))))) := rfl
  obtain ⟨Q, hQ⟩ : ∃ Q, Q = 2 ^ g.n := ⟨_, rfl⟩
  have hQ8 : Q ≤ 256 := by rw [hQ]; exact Nat.pow_le_pow_right (j := 8) (by omega) (by omega)
  have hQ0 := pow_pos2 g.n
  rw [← hQ] at hQ0 hare
  generalize treeR g a (placesN g a) = ta at *
  generalize treeR g b (placesN g a) = tb at *
  refine FSpec.of_body tok true Tryd.func30 rfl (by kernel_rfl) (by decide) (by simp [tupA, hpLt, tmLt, AV.lt, AE.lt, AC.lt, LL_cons, LL_nil, idOk, ABlk.lt, ints_LL, GB, tab64_LL, gC, wB, giC, noneB]) (by simp [tupA, hpLt, tmLt, AV.lt, AE.lt, AC.lt, LL_cons, LL_nil, idOk, ABlk.lt, ints_LL, GB, tab64_LL, gC, wB, giC, noneB]) (by show 3 ≤ _; decide) ?_
  (conv => whnf); (repeat ((first | (refine ⟨rfl, ?_⟩) | (refine ⟨trivial, ?_⟩) | (refine Wk.yes ?_) | (refine Wk.no ?_) | (refine Wk.and ?_) | (refine ⟨by exact ⟨shr_nonneg _ _, by decide⟩, ?_⟩) | (refine ⟨by exact ⟨shr_nonneg' _ _, by decide⟩, ?_⟩)); (conv => whnf)))
  refine CallA.ro [0, 1] (.t [.c (.int .i64 a), .c (.bool x)]) (s0) (by first | rfl | exact congrArg AV.g (ints_ren _ _) | (simp [ints_ren, AV.ren, ABlk.ren, AC.ren, AE.ren, qq]; done)) rfl (by (repeat (first | exact trivial | refine ⟨⟨(by first | exact .inl (by decide) | exact .inr (by decide)), (by first | (refine Or.inl ?_; first | rfl | exact congrArg some (ints_ren _ _).symm | exact congrArg ABlk.own (ints_ren _ _).symm | exact congrArg some (tab64_ren _).symm) | rfl | exact congrArg some (ints_ren _ _).symm | exact congrArg ABlk.own (ints_ren _ _).symm | exact congrArg some (tab64_ren _).symm | exact Or.inr ⟨rfl, rfl⟩)⟩, ?_⟩))) (by first | rfl | exact congrArg AV.g (ints_ren _ _) | (simp [ints_ren, AV.ren, ABlk.ren, AC.ren, AE.ren, qq]; done)) ?_
  (conv => whnf); (repeat ((first | (refine ⟨rfl, ?_⟩) | (refine ⟨trivial, ?_⟩) | (refine Wk.yes ?_) | (refine Wk.no ?_) | (refine Wk.and ?_) | (refine ⟨by exact ⟨shr_nonneg _ _, by decide⟩, ?_⟩) | (refine ⟨by exact ⟨shr_nonneg' _ _, by decide⟩, ?_⟩)); (conv => whnf)))
  refine CallA.ro [0, 2] (.t [.c (.int .i64 b), .c (.bool y)]) (s1) (by first | rfl | exact congrArg AV.g (ints_ren _ _) | (simp [ints_ren, AV.ren, ABlk.ren, AC.ren, AE.ren, qq]; done)) rfl (by (repeat (first | exact trivial | refine ⟨⟨(by first | exact .inl (by decide) | exact .inr (by decide)), (by first | (refine Or.inl ?_; first | rfl | exact congrArg some (ints_ren _ _).symm | exact congrArg ABlk.own (ints_ren _ _).symm | exact congrArg some (tab64_ren _).symm) | rfl | exact congrArg some (ints_ren _ _).symm | exact congrArg ABlk.own (ints_ren _ _).symm | exact congrArg some (tab64_ren _).symm | exact Or.inr ⟨rfl, rfl⟩)⟩, ?_⟩))) (by first | rfl | exact congrArg AV.g (ints_ren _ _) | (simp [ints_ren, AV.ren, ABlk.ren, AC.ren, AE.ren, qq]; done)) ?_
  rw [hare]
  cases x with
  | false =>
    (conv => whnf); (repeat ((first | (refine ⟨rfl, ?_⟩) | (refine ⟨trivial, ?_⟩) | (refine Wk.yes ?_) | (refine Wk.no ?_) | (refine Wk.and ?_) | (refine ⟨by exact ⟨shr_nonneg _ _, by decide⟩, ?_⟩) | (refine ⟨by exact ⟨shr_nonneg' _ _, by decide⟩, ?_⟩)); (conv => whnf)))
    exact AH.Fin.nil [] ⟨rfl, rfl, rfl⟩ (by first | exact trivial | (simp [tupA, hpLt, tmLt, AV.lt, AE.lt, AC.lt, LL_cons, LL_nil, idOk, ABlk.lt, ints_LL, GB, tab64_LL, gC, wB, giC, noneB]; done) | (simp [tupA, hpLt, tmLt, AV.lt, AE.lt, AC.lt, LL_cons, LL_nil, idOk, ABlk.lt, ints_LL, GB, tab64_LL, gC, wB, giC, noneB, rdn, wrn]; done)) trivial trivial rfl (by simp [GB])
  | true =>
  cases y with
  | false =>
    (conv => whnf); (repeat ((first | (refine ⟨rfl, ?_⟩) | (refine ⟨trivial, ?_⟩) | (refine Wk.yes ?_) | (refine Wk.no ?_) | (refine Wk.and ?_) | (refine ⟨by exact ⟨shr_nonneg _ _, by decide⟩, ?_⟩) | (refine ⟨by exact ⟨shr_nonneg' _ _, by decide⟩, ?_⟩)); (conv => whnf)))
    exact AH.Fin.nil [] ⟨rfl, rfl, rfl⟩ (by first | exact trivial | (simp [tupA, hpLt, tmLt, AV.lt, AE.lt, AC.lt, LL_cons, LL_nil, idOk, ABlk.lt, ints_LL, GB, tab64_LL, gC, wB, giC, noneB]; done) | (simp [tupA, hpLt, tmLt, AV.lt, AE.lt, AC.lt, LL_cons, LL_nil, idOk, ABlk.lt, ints_LL, GB, tab64_LL, gC, wB, giC, noneB, rdn, wrn]; done)) trivial trivial rfl (by simp [GB])
  | true =>
  (conv => whnf); (repeat ((first | (refine ⟨rfl, ?_⟩) | (refine ⟨trivial, ?_⟩) | (refine Wk.yes ?_) | (refine Wk.no ?_) | (refine Wk.and ?_) | (refine ⟨by exact ⟨shr_nonneg _ _, by decide⟩, ?_⟩) | (refine ⟨by exact ⟨shr_nonneg' _ _, by decide⟩, ?_⟩)); (conv => whnf)))
  simp only [Int.toNat_natCast]
  by_cases d0 : a &&& b = 0
  rotate_left
  · rw [decide_eq_false d0, show (bif false then true else decide (((a &&& b : Nat) : Int) ≠ 0)) = true from by simp; omega]
    (conv => whnf); (repeat ((first | (refine ⟨rfl, ?_⟩) | (refine ⟨trivial, ?_⟩) | (refine Wk.yes ?_) | (refine Wk.no ?_) | (refine Wk.and ?_) | (refine ⟨by exact ⟨shr_nonneg _ _, by decide⟩, ?_⟩) | (refine ⟨by exact ⟨shr_nonneg' _ _, by decide⟩, ?_⟩)); (conv => whnf)))
    exact AH.Fin.nil [] ⟨rfl, rfl, rfl⟩ (by first | exact trivial | (simp [tupA, hpLt, tmLt, AV.lt, AE.lt, AC.lt, LL_cons, LL_nil, idOk, ABlk.lt, ints_LL, GB, tab64_LL, gC, wB, giC, noneB]; done) | (simp [tupA, hpLt, tmLt, AV.lt, AE.lt, AC.lt, LL_cons, LL_nil, idOk, ABlk.lt, ints_LL, GB, tab64_LL, gC, wB, giC, noneB, rdn, wrn]; done)) trivial trivial rfl (by simp [GB])
  rw [decide_eq_true d0, show (bif false then true else decide (((a &&& b : Nat) : Int) ≠ 0)) = false from by simp [d0]]
  (conv => whnf); (repeat ((first | (refine ⟨rfl, ?_⟩) | (refine ⟨trivial, ?_⟩) | (refine Wk.yes ?_) | (refine Wk.no ?_) | (refine Wk.and ?_) | (refine ⟨by exact ⟨shr_nonneg _ _, by decide⟩, ?_⟩) | (refine ⟨by exact ⟨shr_nonneg' _ _, by decide⟩, ?_⟩)); (conv => whnf)))
  refine CallA.ro [0] (.c (.int .i64 (placesN g a))) (placesR_spec hg ha) (by first | rfl | exact congrArg AV.g (ints_ren _ _) | (simp [ints_ren, AV.ren, ABlk.ren, AC.ren, AE.ren, qq]; done)) rfl (by (repeat (first | exact trivial | refine ⟨⟨(by first | exact .inl (by decide) | exact .inr (by decide)), (by first | (refine Or.inl ?_; first | rfl | exact congrArg some (ints_ren _ _).symm | exact congrArg ABlk.own (ints_ren _ _).symm | exact congrArg some (tab64_ren _).symm) | rfl | exact congrArg some (ints_ren _ _).symm | exact congrArg ABlk.own (ints_ren _ _).symm | exact congrArg some (tab64_ren _).symm | exact Or.inr ⟨rfl, rfl⟩)⟩, ?_⟩))) (by first | rfl | exact congrArg AV.g (ints_ren _ _) | (simp [ints_ren, AV.ren, ABlk.ren, AC.ren, AE.ren, qq]; done)) ?_
  (conv => whnf); (repeat ((first | (refine ⟨rfl, ?_⟩) | (refine ⟨trivial, ?_⟩) | (refine Wk.yes ?_) | (refine Wk.no ?_) | (refine Wk.and ?_) | (refine ⟨by exact ⟨shr_nonneg _ _, by decide⟩, ?_⟩) | (refine ⟨by exact ⟨shr_nonneg' _ _, by decide⟩, ?_⟩)); (conv => whnf)))
  rw [bitE]
  by_cases d1 : bit (placesN g a) g.s = 1
  rotate_left
  · rw [decide_eq_false d1, decide_eq_true (show ((bit (placesN g a) g.s : Nat) : Int) = 0 by omega)]
    (conv => whnf); (repeat ((first | (refine ⟨rfl, ?_⟩) | (refine ⟨trivial, ?_⟩) | (refine Wk.yes ?_) | (refine Wk.no ?_) | (refine Wk.and ?_) | (refine ⟨by exact ⟨shr_nonneg _ _, by decide⟩, ?_⟩) | (refine ⟨by exact ⟨shr_nonneg' _ _, by decide⟩, ?_⟩)); (conv => whnf)))
    exact AH.Fin.nil [] ⟨rfl, rfl, rfl⟩ (by first | exact trivial | (simp [tupA, hpLt, tmLt, AV.lt, AE.lt, AC.lt, LL_cons, LL_nil, idOk, ABlk.lt, ints_LL, GB, tab64_LL, gC, wB, giC, noneB]; done) | (simp [tupA, hpLt, tmLt, AV.lt, AE.lt, AC.lt, LL_cons, LL_nil, idOk, ABlk.lt, ints_LL, GB, tab64_LL, gC, wB, giC, noneB, rdn, wrn]; done)) trivial trivial rfl (by simp [GB])
  rw [decide_eq_true d1, decide_eq_false (show ¬ ((bit (placesN g a) g.s : Nat) : Int) = 0 by omega)]
  (conv => whnf); (repeat ((first | (refine ⟨rfl, ?_⟩) | (refine ⟨trivial, ?_⟩) | (refine Wk.yes ?_) | (refine Wk.no ?_) | (refine Wk.and ?_) | (refine ⟨by exact ⟨shr_nonneg _ _, by decide⟩, ?_⟩) | (refine ⟨by exact ⟨shr_nonneg' _ _, by decide⟩, ?_⟩)); (conv => whnf)))
  rw [bitE]
  by_cases d2 : bit (placesN g a) g.t = 1
  rotate_left
  · rw [decide_eq_false d2, decide_eq_true (show ((bit (placesN g a) g.t : Nat) : Int) = 0 by omega)]
    (conv => whnf); (repeat ((first | (refine ⟨rfl, ?_⟩) | (refine ⟨trivial, ?_⟩) | (refine Wk.yes ?_) | (refine Wk.no ?_) | (refine Wk.and ?_) | (refine ⟨by exact ⟨shr_nonneg _ _, by decide⟩, ?_⟩) | (refine ⟨by exact ⟨shr_nonneg' _ _, by decide⟩, ?_⟩)); (conv => whnf)))
    exact AH.Fin.nil [] ⟨rfl, rfl, rfl⟩ (by first | exact trivial | (simp [tupA, hpLt, tmLt, AV.lt, AE.lt, AC.lt, LL_cons, LL_nil, idOk, ABlk.lt, ints_LL, GB, tab64_LL, gC, wB, giC, noneB]; done) | (simp [tupA, hpLt, tmLt, AV.lt, AE.lt, AC.lt, LL_cons, LL_nil, idOk, ABlk.lt, ints_LL, GB, tab64_LL, gC, wB, giC, noneB, rdn, wrn]; done)) trivial trivial rfl (by simp [GB])
  rw [decide_eq_true d2, decide_eq_false (show ¬ ((bit (placesN g a) g.t : Nat) : Int) = 0 by omega)]
  (conv => whnf); (repeat ((first | (refine ⟨rfl, ?_⟩) | (refine ⟨trivial, ?_⟩) | (refine Wk.yes ?_) | (refine Wk.no ?_) | (refine Wk.and ?_) | (refine ⟨by exact ⟨shr_nonneg _ _, by decide⟩, ?_⟩) | (refine ⟨by exact ⟨shr_nonneg' _ _, by decide⟩, ?_⟩)); (conv => whnf)))
  refine ⟨⟨by omega, by omega, by rw [shl1 hQ]; unfold I64; omega⟩, ?_⟩
  rw [shl1 hQ]
  (conv => whnf); (repeat ((first | (refine ⟨rfl, ?_⟩) | (refine ⟨trivial, ?_⟩) | (refine Wk.yes ?_) | (refine Wk.no ?_) | (refine Wk.and ?_) | (refine ⟨by exact ⟨shr_nonneg _ _, by decide⟩, ?_⟩) | (refine ⟨by exact ⟨shr_nonneg' _ _, by decide⟩, ?_⟩)); (conv => whnf)))
  by_cases d3 : placesN g a = Q - 1
  rotate_left
  · rw [decide_eq_false d3, decide_eq_true (show ((placesN g a : Nat) : Int) ≠ ((Q : Nat) : Int) - 1 by omega)]
    (conv => whnf); (repeat ((first | (refine ⟨rfl, ?_⟩) | (refine ⟨trivial, ?_⟩) | (refine Wk.yes ?_) | (refine Wk.no ?_) | (refine Wk.and ?_) | (refine ⟨by exact ⟨shr_nonneg _ _, by decide⟩, ?_⟩) | (refine ⟨by exact ⟨shr_nonneg' _ _, by decide⟩, ?_⟩)); (conv => whnf)))
    exact AH.Fin.nil [] ⟨rfl, rfl, rfl⟩ (by first | exact trivial | (simp [tupA, hpLt, tmLt, AV.lt, AE.lt, AC.lt, LL_cons, LL_nil, idOk, ABlk.lt, ints_LL, GB, tab64_LL, gC, wB, giC, noneB]; done) | (simp [tupA, hpLt, tmLt, AV.lt, AE.lt, AC.lt, LL_cons, LL_nil, idOk, ABlk.lt, ints_LL, GB, tab64_LL, gC, wB, giC, noneB, rdn, wrn]; done)) trivial trivial rfl (by simp [GB])
  rw [decide_eq_true d3, decide_eq_false (show ¬ ((placesN g a : Nat) : Int) ≠ ((Q : Nat) : Int) - 1 by omega)]
  (conv => whnf); (repeat ((first | (refine ⟨rfl, ?_⟩) | (refine ⟨trivial, ?_⟩) | (refine Wk.yes ?_) | (refine Wk.no ?_) | (refine Wk.and ?_) | (refine ⟨by exact ⟨shr_nonneg _ _, by decide⟩, ?_⟩) | (refine ⟨by exact ⟨shr_nonneg' _ _, by decide⟩, ?_⟩)); (conv => whnf)))
  refine CallA.ro [0] (.c (.bool ta)) (hta) (by first | rfl | exact congrArg AV.g (ints_ren _ _) | (simp [ints_ren, AV.ren, ABlk.ren, AC.ren, AE.ren, qq]; done)) rfl (by (repeat (first | exact trivial | refine ⟨⟨(by first | exact .inl (by decide) | exact .inr (by decide)), (by first | (refine Or.inl ?_; first | rfl | exact congrArg some (ints_ren _ _).symm | exact congrArg ABlk.own (ints_ren _ _).symm | exact congrArg some (tab64_ren _).symm) | rfl | exact congrArg some (ints_ren _ _).symm | exact congrArg ABlk.own (ints_ren _ _).symm | exact congrArg some (tab64_ren _).symm | exact Or.inr ⟨rfl, rfl⟩)⟩, ?_⟩))) (by first | rfl | exact congrArg AV.g (ints_ren _ _) | (simp [ints_ren, AV.ren, ABlk.ren, AC.ren, AE.ren, qq]; done)) ?_
  cases ta with
  | false =>
    (conv => whnf); (repeat ((first | (refine ⟨rfl, ?_⟩) | (refine ⟨trivial, ?_⟩) | (refine Wk.yes ?_) | (refine Wk.no ?_) | (refine Wk.and ?_) | (refine ⟨by exact ⟨shr_nonneg _ _, by decide⟩, ?_⟩) | (refine ⟨by exact ⟨shr_nonneg' _ _, by decide⟩, ?_⟩)); (conv => whnf)))
    exact AH.Fin.nil [] ⟨rfl, rfl, rfl⟩ (by first | exact trivial | (simp [tupA, hpLt, tmLt, AV.lt, AE.lt, AC.lt, LL_cons, LL_nil, idOk, ABlk.lt, ints_LL, GB, tab64_LL, gC, wB, giC, noneB]; done) | (simp [tupA, hpLt, tmLt, AV.lt, AE.lt, AC.lt, LL_cons, LL_nil, idOk, ABlk.lt, ints_LL, GB, tab64_LL, gC, wB, giC, noneB, rdn, wrn]; done)) trivial trivial rfl (by simp [GB])
  | true =>
    (conv => whnf); (repeat ((first | (refine ⟨rfl, ?_⟩) | (refine ⟨trivial, ?_⟩) | (refine Wk.yes ?_) | (refine Wk.no ?_) | (refine Wk.and ?_) | (refine ⟨by exact ⟨shr_nonneg _ _, by decide⟩, ?_⟩) | (refine ⟨by exact ⟨shr_nonneg' _ _, by decide⟩, ?_⟩)); (conv => whnf)))
    refine CallA.ro [0] (.c (.bool tb)) (htb) (by first | rfl | exact congrArg AV.g (ints_ren _ _) | (simp [ints_ren, AV.ren, ABlk.ren, AC.ren, AE.ren, qq]; done)) rfl (by (repeat (first | exact trivial | refine ⟨⟨(by first | exact .inl (by decide) | exact .inr (by decide)), (by first | (refine Or.inl ?_; first | rfl | exact congrArg some (ints_ren _ _).symm | exact congrArg ABlk.own (ints_ren _ _).symm | exact congrArg some (tab64_ren _).symm) | rfl | exact congrArg some (ints_ren _ _).symm | exact congrArg ABlk.own (ints_ren _ _).symm | exact congrArg some (tab64_ren _).symm | exact Or.inr ⟨rfl, rfl⟩)⟩, ?_⟩))) (by first | rfl | exact congrArg AV.g (ints_ren _ _) | (simp [ints_ren, AV.ren, ABlk.ren, AC.ren, AE.ren, qq]; done)) ?_
    (conv => whnf); (repeat ((first | (refine ⟨rfl, ?_⟩) | (refine ⟨trivial, ?_⟩) | (refine Wk.yes ?_) | (refine Wk.no ?_) | (refine Wk.and ?_) | (refine ⟨by exact ⟨shr_nonneg _ _, by decide⟩, ?_⟩) | (refine ⟨by exact ⟨shr_nonneg' _ _, by decide⟩, ?_⟩)); (conv => whnf)))
    exact AH.Fin.nil [] ⟨rfl, rfl, rfl⟩ (by first | exact trivial | (simp [tupA, hpLt, tmLt, AV.lt, AE.lt, AC.lt, LL_cons, LL_nil, idOk, ABlk.lt, ints_LL, GB, tab64_LL, gC, wB, giC, noneB]; done) | (simp [tupA, hpLt, tmLt, AV.lt, AE.lt, AC.lt, LL_cons, LL_nil, idOk, ABlk.lt, ints_LL, GB, tab64_LL, gC, wB, giC, noneB, rdn, wrn]; done)) trivial trivial rfl (by simp [GB])
theorem Spn.areS {g : Gm} (hg : g.ok) (hst : g.s ≠ g.t) {a b : Nat} (h : Spn g a b) : areS g (setOk g.ws.length (mem a)) (setOk g.ws.length (mem b)) (setV g.ws.length (mem a)) (setV g.ws.length (mem b)) = true := by
  obtain ⟨a1, a2⟩ := mem_set hg.len h.la
  obtain ⟨b1, b2⟩ := mem_set hg.len h.lb
  have hpa := h.pa
  obtain ⟨e1, e2, _⟩ := (alX_iff hg false _).1 (show alX g false (placesN g a) = true from h.ends hg)
  have hpl := places_ltn hg h.la
  have hp2 := pop_two (placesN_lt8 hg h.la) hst e1 e2
  have h1 := h.ta
  have h2 := h.tb
  rw [← hpa, tree_pl hg h.la hpl hp2] at h1
  rw [← hpa, tree_pl hg h.lb hpl hp2] at h2
  rw [a1, a2, b1, b2, YtfphkpdobbffeaaDoor.areS, decide_eq_true h.dj, decide_eq_true ((bit_test _ _).2 e1), decide_eq_true ((bit_test _ _).2 e2), decide_eq_true hpa, h1, h2]
  rfl
end Go.Proofs.YtfphkpdobbffeaaDoor

/-
  The law SwitchTrees, as a contract.
-/
namespace Go.Proofs.YtfphkpdobbffeaaDoor
open Go Go.AH
set_option maxRecDepth 100000
set_option maxHeartbeats 1000000

theorem treesL_nil (x : Rw) (h4 : x.ws.length ≤ 9223372036854775807) (hws : (tame x 8 10).ws = []) : FDet Tryd.prog 5 [.g (rC x 0)] [(0, rB x), (100002, .ro tab64), (100000, noneB)] 1 (.c (.bool true)) [] 1 := by
  have hgm := tame_game x (pl := 8) (most := 10) (by omega) (by omega) (by omega)
  have ht := tame_nil (x := x) (pl := 8) (most := 10) (by omega) (by omega) (by omega) h4 hws
  generalize tame x 8 10 = g at *
  have hwB : wB g = .ro [] := by rw [wB, hws]; rfl
  have hl0 : g.ws.length = 0 := by rw [hws]; rfl
  have h8 := hgm.ok.n8
  have hS := nil_spans hgm.ok hws
  have hTe := nil_trees hgm.ok hws
  have hsp := nilW3 hws (SpanL_none hgm hS) trivial (fun v hv => by cases hv) (by intro e he; simp at he; rcases he with rfl | rfl | rfl <;> first | trivial | (intro x hx; simp at hx; subst hx; trivial))
  have hba := FSpec.wk (Barrier_yes hgm hS) (args' := [.g (gN g)]) (hp' := [(0, .ro [])]) ⟨.inr ⟨rfl, rfl, rfl, hl0, trivial⟩, trivial⟩ ⟨by rw [hwB]; exact .inl rfl, trivial⟩
  have hT := trees_nil hgm hws hTe
  have g1 := hasT_spec hgm.ok hgm.ends
  have g2 := hasS_spec hgm.ok hgm.ends
  have g3 := HasBarrier_spec hgm.ok
  rw [hasB_eq hgm.ok] at g3
  rw [hTe] at g1
  rw [hS] at g2 g3
  have hH1 := FDet.wk g1 (args' := [.g (gN g), .c (.bool false)]) (hp' := [(0, .ro [])]) ⟨.inr ⟨rfl, rfl, rfl, hl0, trivial⟩, rfl, trivial⟩ ⟨by rw [hwB]; exact .inl rfl, trivial⟩
  have hH2 := FDet.wk g2 (args' := [.g (gN g), .c (.bool true)]) (hp' := [(0, .ro [])]) ⟨.inr ⟨rfl, rfl, rfl, hl0, trivial⟩, rfl, trivial⟩ ⟨by rw [hwB]; exact .inl rfl, trivial⟩
  have hH3 := FDet.wk g3 (args' := [.g (gN g)]) (hp' := [(0, .ro [])]) ⟨.inr ⟨rfl, rfl, rfl, hl0, trivial⟩, trivial⟩ ⟨by rw [hwB]; exact .inl rfl, trivial⟩
  have hH1 : FDet Tryd.prog _ _ _ _ (.c (.bool false)) _ _ := hH1
  have hH2 : FDet Tryd.prog _ _ _ _ (.c (.bool false)) _ _ := hH2
  have hH3 : FDet Tryd.prog _ _ _ _ (.c (.bool true)) _ _ := hH3
  refine FSpec.of_body tok true Tryd.func5 rfl (by kernel_rfl) (by decide) (by simp [tupA, hpLt, tmLt, AV.lt, AE.lt, AC.lt, LL_cons, LL_nil, idOk, ABlk.lt, ints_LL, GB, tab64_LL, gC, wB, giC, noneB, gst, tC, pC, gN, gR, rC, rB, tvC_LL]) (by simp [tupA, hpLt, tmLt, AV.lt, AE.lt, AC.lt, LL_cons, LL_nil, idOk, ABlk.lt, ints_LL, GB, tab64_LL, gC, wB, giC, noneB, gst, tC, pC, gN, gR, rC, rB, tvC_LL]) (by show 1 ≤ _; decide) ?_
  refine Wk.on ?_
  refine CallA.ro2 [0] (.g (gN g)) (ht) ?_
  refine Wk.on ?_
  refine CallA.ro2 [2] (.g (gN g)) (given_nil) ?_
  refine Wk.on ?_
  refine CallA.ro2 [3] (.t [.g [.nils, .nils], .c (.bool false), .c (.int .i64 0)]) (hT) ?_
  refine Wk.on ?_
  refine CallA.ro2 [3] (.t [.g [.nils, .nils], .c (.bool false), .c (.int .i64 0)]) (hsp) ?_
  refine Wk.on ?_
  refine CallA.any (X := Nat → Nat) (I := fun v => RG v g.n ∧ Bar g v) [1] (r := fun v => .t [.c (.rs 1 0 (LV v g.n).length), .c (.bool true), .c (.int .i64 0)]) (hp1 := fun v => [(1, .own (tvC (LV v g.n)))]) (k1 := 2) (fun v => .t [.c (.rs 6 0 (LV v g.n).length), .c (.bool true), .c (.int .i64 0)]) (fun v => [(5, .own [.nils, .nils]), (4, .own [.nils, .nils]), (3, .own (gN g)), (2, .own (gN g)), (1, .own (rC x 0)), (0, rB x), (100002, .ro tab64), (100000, noneB), (6, .own (tvC (LV v g.n)))]) hba (by first | rfl | exact congrArg AV.g (ints_ren _ _) | (simp [ints_ren, AV.ren, ABlk.ren, AC.ren, AE.ren, tvC_ren, qq]; done)) rfl (by (repeat (first | exact trivial | refine ⟨⟨(by first | exact .inl (by decide) | exact .inr (by decide)), (by first | (refine Or.inl ?_; first | rfl | exact congrArg some (ints_ren _ _).symm | exact congrArg ABlk.own (ints_ren _ _).symm | exact congrArg some (tab64_ren _).symm | exact congrArg some (tvC_ren _ _).symm | exact congrArg (ABlk.row _ _) (ints_ren _ _).symm) | rfl | exact congrArg some (ints_ren _ _).symm | exact congrArg ABlk.own (ints_ren _ _).symm | exact congrArg some (tab64_ren _).symm | exact congrArg some (tvC_ren _ _).symm | exact congrArg (ABlk.row _ _) (ints_ren _ _).symm | exact Or.inr ⟨rfl, rfl⟩)⟩, ?_⟩))) (fun v => rfl) (fun v => by simp [behind, gone, lk, up, del, qq, ABlk.wr, GB, ABlk.ren, AC.ren, ints_ren, tvC_ren] <;> (repeat (first | rfl | refine ⟨rfl, ?_⟩))) ?_
  rintro v ⟨hv1, hv2⟩
  have hIB := isBarR_spec hgm.ok (LV v g.n) (by rw [LV_len]; have := mx_le hv1 g.n (by omega); omega) (fun a ha => by have := LV_mem ha; omega)
  rw [← isBar_eq hgm.ok, isBar_LV hgm.ok hv1 hv2] at hIB
  have hIN := FDet.wk hIB (args' := [.g (gN g), .c (.rs 1 0 (LV v g.n).length)]) (hp' := [(0, .ro []), (1, .ro (tvC (LV v g.n)))]) ⟨.inr ⟨rfl, rfl, rfl, hl0, trivial⟩, rfl, trivial⟩ ⟨by rw [hwB]; exact .inl rfl, .inl rfl, trivial⟩
  refine Wk.on ?_
  refine CallA.ro2 [1] (.c (.bool false)) (hH1) ?_
  refine Wk.on ?_
  refine CallA.ro2 [1] (.c (.bool false)) (hH2) ?_
  refine Wk.on ?_
  refine CallA.ro2 [1] (.c (.bool true)) (hH3) ?_
  refine Wk.on ?_
  refine CallA.ro2 [1, 6] (.c (.bool true)) (hIN) ?_
  refine Wk.on ?_
  refine CallA.ro2 [] (.c (.bool true)) (awake_spec) ?_
  refine Wk.on ?_
  exact AH.Fin.nil2 ⟨rfl, rfl, rfl⟩
theorem treesL_row (x : Rw) (h4 : x.ws.length ≤ 9223372036854775807) (hws : ¬ (tame x 8 10).ws = []) : FDet Tryd.prog 5 [.g (rC x 0)] [(0, rB x), (100002, .ro tab64), (100000, noneB)] 1 (.c (.bool true)) [] 1 := by
  have hgm := tame_game x (pl := 8) (most := 10) (by omega) (by omega) (by omega)
  have hgl := hgm.ok.len
  have hpos := List.length_pos_iff.2 hws
  have ht := tame_rs (x := x) (pl := 8) (most := 10) (by omega) (by omega) (by omega) h4 hpos
  have hgv := given_rs hpos hgl
  generalize tame x 8 10 = g at *
  have h8 := hgm.ok.n8
  have hH1 := hasT_spec hgm.ok hgm.ends
  have hH2 := hasS_spec hgm.ok hgm.ends
  have hH3 := HasBarrier_spec hgm.ok
  rw [hasB_eq hgm.ok] at hH3
  cases hS : treesF g (alS g) with
  | none =>
    rw [hS] at hH2 hH3
    have hH2 : FDet Tryd.prog _ _ _ _ (.c (.bool false)) _ _ := hH2
    have hH3 : FDet Tryd.prog _ _ _ _ (.c (.bool true)) _ _ := hH3
    have hsp := SpanL_none hgm hS
    have hba := Barrier_yes hgm hS
    cases hTe : treesF g (alT g) with
    | none =>
      rw [hTe] at hH1
      have hH1 : FDet Tryd.prog _ _ _ _ (.c (.bool false)) _ _ := hH1
      have hT := TreesL_none hgm hTe
      refine FSpec.of_body tok true Tryd.func5 rfl (by kernel_rfl) (by decide) (by simp [tupA, hpLt, tmLt, AV.lt, AE.lt, AC.lt, LL_cons, LL_nil, idOk, ABlk.lt, ints_LL, GB, tab64_LL, gC, wB, giC, noneB, gst, tC, pC, gN, gR, rC, rB, tvC_LL]) (by simp [tupA, hpLt, tmLt, AV.lt, AE.lt, AC.lt, LL_cons, LL_nil, idOk, ABlk.lt, ints_LL, GB, tab64_LL, gC, wB, giC, noneB, gst, tC, pC, gN, gR, rC, rB, tvC_LL]) (by show 1 ≤ _; decide) ?_
      refine Wk.on ?_
      refine CallA.det2 [0] (.g (gC g 2)) ([(1, .own (rC x 0)), (0, rB x), (100002, .ro tab64), (100000, noneB), (2, .row 60 2 (ints (fl g.ws)))]) (ht) ?_
      refine Wk.on ?_
      refine CallA.det2 [2] (.g (gC g 4)) ([(3, .own (gC g 2)), (1, .own (rC x 0)), (0, rB x), (100002, .ro tab64), (100000, noneB), (2, .row 60 2 (ints (fl g.ws))), (4, .row 60 2 (ints (fl g.ws)))]) (hgv) ?_
      refine Wk.on ?_
      refine CallA.ro2 [4] (.t [.g [.nils, .nils], .c (.bool false), .c (.int .i64 0)]) (hT) ?_
      refine Wk.on ?_
      refine CallA.ro2 [4] (.t [.g [.nils, .nils], .c (.bool false), .c (.int .i64 0)]) (hsp) ?_
      refine Wk.on ?_
      refine CallA.any (X := Nat → Nat) (I := fun v => RG v g.n ∧ Bar g v) [4] (r := fun v => .t [.c (.rs 1 0 (LV v g.n).length), .c (.bool true), .c (.int .i64 0)]) (hp1 := fun v => [(1, .own (tvC (LV v g.n)))]) (k1 := 2) (fun v => .t [.c (.rs 8 0 (LV v g.n).length), .c (.bool true), .c (.int .i64 0)]) (fun v => [(7, .own [.nils, .nils]), (6, .own [.nils, .nils]), (5, .own (gC g 4)), (3, .own (gC g 2)), (1, .own (rC x 0)), (0, rB x), (100002, .ro tab64), (100000, noneB), (2, .row 60 2 (ints (fl g.ws))), (4, .row 60 2 (ints (fl g.ws))), (8, .own (tvC (LV v g.n)))]) hba (by first | rfl | exact congrArg AV.g (ints_ren _ _) | (simp [ints_ren, AV.ren, ABlk.ren, AC.ren, AE.ren, tvC_ren, qq]; done)) rfl (by (repeat (first | exact trivial | refine ⟨⟨(by first | exact .inl (by decide) | exact .inr (by decide)), (by first | (refine Or.inl ?_; first | rfl | exact congrArg some (ints_ren _ _).symm | exact congrArg ABlk.own (ints_ren _ _).symm | exact congrArg some (tab64_ren _).symm | exact congrArg some (tvC_ren _ _).symm | exact congrArg (ABlk.row _ _) (ints_ren _ _).symm) | rfl | exact congrArg some (ints_ren _ _).symm | exact congrArg ABlk.own (ints_ren _ _).symm | exact congrArg some (tab64_ren _).symm | exact congrArg some (tvC_ren _ _).symm | exact congrArg (ABlk.row _ _) (ints_ren _ _).symm | exact Or.inr ⟨rfl, rfl⟩)⟩, ?_⟩))) (fun v => rfl) (fun v => by simp [behind, gone, lk, up, del, qq, ABlk.wr, GB, ABlk.ren, AC.ren, ints_ren, tvC_ren] <;> (repeat (first | rfl | refine ⟨rfl, ?_⟩))) ?_
      rintro v ⟨hv1, hv2⟩
      have hIB := isBarR_spec hgm.ok (LV v g.n) (by rw [LV_len]; have := mx_le hv1 g.n (by omega); omega) (fun a ha => by have := LV_mem ha; omega)
      rw [← isBar_eq hgm.ok, isBar_LV hgm.ok hv1 hv2] at hIB
      refine Wk.on ?_
      refine CallA.ro2 [2] (.c (.bool false)) (hH1) ?_
      refine Wk.on ?_
      refine CallA.ro2 [2] (.c (.bool false)) (hH2) ?_
      refine Wk.on ?_
      refine CallA.ro2 [2] (.c (.bool true)) (hH3) ?_
      refine Wk.on ?_
      refine CallA.ro2 [2, 8] (.c (.bool true)) (hIB) ?_
      refine Wk.on ?_
      refine CallA.ro2 [] (.c (.bool true)) (awake_spec) ?_
      refine Wk.on ?_
      exact AH.Fin.nil2 ⟨rfl, rfl, rfl⟩
    | some p =>
      obtain ⟨ta, tb⟩ := p
      rw [hTe] at hH1
      have hH1 : FDet Tryd.prog _ _ _ _ (.c (.bool true)) _ _ := hH1
      have hT := TreesL_some hgm hTe
      have hre := trees_are hgm.ok hgm.ends hTe
      obtain ⟨k1, k2, k3, _⟩ := treesF_lt hgl hTe
      have hp10 := ws1024 hgm.ok
      have hIT := isTreesR_spec hgm.ok (mem ta) (mem tb) (by have := mem_len (n := ta) (by omega); omega) (by have := mem_len (n := tb) (by omega); omega)
      rw [hre] at hIT
      refine FSpec.of_body tok true Tryd.func5 rfl (by kernel_rfl) (by decide) (by simp [tupA, hpLt, tmLt, AV.lt, AE.lt, AC.lt, LL_cons, LL_nil, idOk, ABlk.lt, ints_LL, GB, tab64_LL, gC, wB, giC, noneB, gst, tC, pC, gN, gR, rC, rB, tvC_LL]) (by simp [tupA, hpLt, tmLt, AV.lt, AE.lt, AC.lt, LL_cons, LL_nil, idOk, ABlk.lt, ints_LL, GB, tab64_LL, gC, wB, giC, noneB, gst, tC, pC, gN, gR, rC, rB, tvC_LL]) (by show 1 ≤ _; decide) ?_
      refine Wk.on ?_
      refine CallA.det2 [0] (.g (gC g 2)) ([(1, .own (rC x 0)), (0, rB x), (100002, .ro tab64), (100000, noneB), (2, .row 60 2 (ints (fl g.ws)))]) (ht) ?_
      refine Wk.on ?_
      refine CallA.det2 [2] (.g (gC g 4)) ([(3, .own (gC g 2)), (1, .own (rC x 0)), (0, rB x), (100002, .ro tab64), (100000, noneB), (2, .row 60 2 (ints (fl g.ws))), (4, .row 60 2 (ints (fl g.ws)))]) (hgv) ?_
      refine Wk.on ?_
      refine CallA.det2 [4] (.t [.g [.rs 6 0 (mem ta).length, .rs 7 0 (mem tb).length], .c (.bool true), .c (.int .i64 0)]) ([(5, .own (gC g 4)), (3, .own (gC g 2)), (1, .own (rC x 0)), (0, rB x), (100002, .ro tab64), (100000, noneB), (2, .row 60 2 (ints (fl g.ws))), (4, .row 60 2 (ints (fl g.ws))), (7, .row 3 1 (ints (mem tb))), (6, .row 3 1 (ints (mem ta)))]) (hT) ?_
      refine Wk.on ?_
      refine CallA.ro2 [4] (.t [.g [.nils, .nils], .c (.bool false), .c (.int .i64 0)]) (hsp) ?_
      refine Wk.on ?_
      refine CallA.any (X := Nat → Nat) (I := fun v => RG v g.n ∧ Bar g v) [4] (r := fun v => .t [.c (.rs 1 0 (LV v g.n).length), .c (.bool true), .c (.int .i64 0)]) (hp1 := fun v => [(1, .own (tvC (LV v g.n)))]) (k1 := 2) (fun v => .t [.c (.rs 10 0 (LV v g.n).length), .c (.bool true), .c (.int .i64 0)]) (fun v => [(9, .own [.nils, .nils]), (8, .own [.rs 6 0 (mem ta).length, .rs 7 0 (mem tb).length]), (5, .own (gC g 4)), (3, .own (gC g 2)), (1, .own (rC x 0)), (0, rB x), (100002, .ro tab64), (100000, noneB), (2, .row 60 2 (ints (fl g.ws))), (4, .row 60 2 (ints (fl g.ws))), (7, .row 3 1 (ints (mem tb))), (6, .row 3 1 (ints (mem ta))), (10, .own (tvC (LV v g.n)))]) hba (by first | rfl | exact congrArg AV.g (ints_ren _ _) | (simp [ints_ren, AV.ren, ABlk.ren, AC.ren, AE.ren, tvC_ren, qq]; done)) rfl (by (repeat (first | exact trivial | refine ⟨⟨(by first | exact .inl (by decide) | exact .inr (by decide)), (by first | (refine Or.inl ?_; first | rfl | exact congrArg some (ints_ren _ _).symm | exact congrArg ABlk.own (ints_ren _ _).symm | exact congrArg some (tab64_ren _).symm | exact congrArg some (tvC_ren _ _).symm | exact congrArg (ABlk.row _ _) (ints_ren _ _).symm) | rfl | exact congrArg some (ints_ren _ _).symm | exact congrArg ABlk.own (ints_ren _ _).symm | exact congrArg some (tab64_ren _).symm | exact congrArg some (tvC_ren _ _).symm | exact congrArg (ABlk.row _ _) (ints_ren _ _).symm | exact Or.inr ⟨rfl, rfl⟩)⟩, ?_⟩))) (fun v => rfl) (fun v => by simp [behind, gone, lk, up, del, qq, ABlk.wr, GB, ABlk.ren, AC.ren, ints_ren, tvC_ren] <;> (repeat (first | rfl | refine ⟨rfl, ?_⟩))) ?_
      rintro v ⟨hv1, hv2⟩
      have hIB := isBarR_spec hgm.ok (LV v g.n) (by rw [LV_len]; have := mx_le hv1 g.n (by omega); omega) (fun a ha => by have := LV_mem ha; omega)
      rw [← isBar_eq hgm.ok, isBar_LV hgm.ok hv1 hv2] at hIB
      refine Wk.on ?_
      refine CallA.ro2 [2] (.c (.bool true)) (hH1) ?_
      refine Wk.on ?_
      refine CallA.ro2 [2] (.c (.bool false)) (hH2) ?_
      refine Wk.on ?_
      refine CallA.ro2 [2] (.c (.bool true)) (hH3) ?_
      refine Wk.on ?_
      refine CallA.ro2 [2, 6, 7] (.c (.bool true)) (hIT) ?_
      refine Wk.on ?_
      refine CallA.ro2 [2, 10] (.c (.bool true)) (hIB) ?_
      refine Wk.on ?_
      refine CallA.ro2 [] (.c (.bool true)) (awake_spec) ?_
      refine Wk.on ?_
      exact AH.Fin.nil2 ⟨rfl, rfl, rfl⟩
  | some p =>
    obtain ⟨a, b⟩ := p
    rw [hS] at hH2 hH3
    have hH2 : FDet Tryd.prog _ _ _ _ (.c (.bool true)) _ _ := hH2
    have hH3 : FDet Tryd.prog _ _ _ _ (.c (.bool false)) _ _ := hH3
    have hsp := SpanL_some hgm hS
    have hba := Barrier_no hgm (by rw [hS]; simp)
    have hs := spn hgm.ok hS
    have hla : (mem a).length ≤ 1000 := by have := mem_len (n := a) (by have := hs.la; have := ws1024 hgm.ok; omega); omega
    have hlb : (mem b).length ≤ 1000 := by have := mem_len (n := b) (by have := hs.lb; have := ws1024 hgm.ok; omega); omega
    have hIS := isTreesS_spec hgm.ok (mem a) (mem b) hla hlb
    rw [hs.areS hgm.ok hgm.ends] at hIS
    obtain ⟨p, hTe⟩ := Option.ne_none_iff_exists'.1 (hs.trees hgm.ok)
    obtain ⟨ta, tb⟩ := p
    rw [hTe] at hH1
    have hH1 : FDet Tryd.prog _ _ _ _ (.c (.bool true)) _ _ := hH1
    have hT := TreesL_some hgm hTe
    have hre := trees_are hgm.ok hgm.ends hTe
    obtain ⟨k1, k2, k3, _⟩ := treesF_lt hgl hTe
    have hp10 := ws1024 hgm.ok
    have hIT := isTreesR_spec hgm.ok (mem ta) (mem tb) (by have := mem_len (n := ta) (by omega); omega) (by have := mem_len (n := tb) (by omega); omega)
    rw [hre] at hIT
    refine FSpec.of_body tok true Tryd.func5 rfl (by kernel_rfl) (by decide) (by simp [tupA, hpLt, tmLt, AV.lt, AE.lt, AC.lt, LL_cons, LL_nil, idOk, ABlk.lt, ints_LL, GB, tab64_LL, gC, wB, giC, noneB, gst, tC, pC, gN, gR, rC, rB, tvC_LL]) (by simp [tupA, hpLt, tmLt, AV.lt, AE.lt, AC.lt, LL_cons, LL_nil, idOk, ABlk.lt, ints_LL, GB, tab64_LL, gC, wB, giC, noneB, gst, tC, pC, gN, gR, rC, rB, tvC_LL]) (by show 1 ≤ _; decide) ?_
    refine Wk.on ?_
    refine CallA.det2 [0] (.g (gC g 2)) ([(1, .own (rC x 0)), (0, rB x), (100002, .ro tab64), (100000, noneB), (2, .row 60 2 (ints (fl g.ws)))]) (ht) ?_
    refine Wk.on ?_
    refine CallA.det2 [2] (.g (gC g 4)) ([(3, .own (gC g 2)), (1, .own (rC x 0)), (0, rB x), (100002, .ro tab64), (100000, noneB), (2, .row 60 2 (ints (fl g.ws))), (4, .row 60 2 (ints (fl g.ws)))]) (hgv) ?_
    refine Wk.on ?_
    refine CallA.det2 [4] (.t [.g [.rs 6 0 (mem ta).length, .rs 7 0 (mem tb).length], .c (.bool true), .c (.int .i64 0)]) ([(5, .own (gC g 4)), (3, .own (gC g 2)), (1, .own (rC x 0)), (0, rB x), (100002, .ro tab64), (100000, noneB), (2, .row 60 2 (ints (fl g.ws))), (4, .row 60 2 (ints (fl g.ws))), (7, .row 3 1 (ints (mem tb))), (6, .row 3 1 (ints (mem ta)))]) (hT) ?_
    refine Wk.on ?_
    refine CallA.det2 [4] (.t [.g [.rs 9 0 (mem a).length, .rs 10 0 (mem b).length], .c (.bool true), .c (.int .i64 0)]) ([(8, .own [.rs 6 0 (mem ta).length, .rs 7 0 (mem tb).length]), (5, .own (gC g 4)), (3, .own (gC g 2)), (1, .own (rC x 0)), (0, rB x), (100002, .ro tab64), (100000, noneB), (2, .row 60 2 (ints (fl g.ws))), (4, .row 60 2 (ints (fl g.ws))), (7, .row 3 1 (ints (mem tb))), (6, .row 3 1 (ints (mem ta))), (10, .row 3 1 (ints (mem b))), (9, .row 3 1 (ints (mem a)))]) (hsp) ?_
    refine Wk.on ?_
    refine CallA.det2 [4] (.t [.c .nils, .c (.bool false), .c (.int .i64 0)]) ([(11, .own [.rs 9 0 (mem a).length, .rs 10 0 (mem b).length]), (8, .own [.rs 6 0 (mem ta).length, .rs 7 0 (mem tb).length]), (5, .own (gC g 4)), (3, .own (gC g 2)), (1, .own (rC x 0)), (0, rB x), (100002, .ro tab64), (100000, noneB), (2, .row 60 2 (ints (fl g.ws))), (4, .row 60 2 (ints (fl g.ws))), (7, .row 3 1 (ints (mem tb))), (6, .row 3 1 (ints (mem ta))), (10, .row 3 1 (ints (mem b))), (9, .row 3 1 (ints (mem a)))]) (hba) ?_
    refine Wk.on ?_
    refine CallA.ro2 [2] (.c (.bool true)) (hH1) ?_
    refine Wk.on ?_
    refine CallA.ro2 [2] (.c (.bool true)) (hH2) ?_
    refine Wk.on ?_
    refine CallA.ro2 [2] (.c (.bool false)) (hH3) ?_
    refine Wk.on ?_
    refine CallA.ro2 [2, 6, 7] (.c (.bool true)) (hIT) ?_
    refine Wk.on ?_
    refine CallA.ro2 [2, 9, 10] (.c (.bool true)) (hIS) ?_
    refine Wk.on ?_
    refine CallA.ro2 [] (.c (.bool true)) (awake_spec) ?_
    refine Wk.on ?_
    exact AH.Fin.nil2 ⟨rfl, rfl, rfl⟩
theorem treesL_all (x : Rw) (h4 : x.ws.length ≤ 9223372036854775807) : FDet Tryd.prog 5 [.g (rC x 0)] [(0, rB x), (100002, .ro tab64), (100000, noneB)] 1 (.c (.bool true)) [] 1 := by
  by_cases h : (tame x 8 10).ws = []
  · exact treesL_nil x h4 h
  · exact treesL_row x h4 h
end Go.Proofs.YtfphkpdobbffeaaDoor
