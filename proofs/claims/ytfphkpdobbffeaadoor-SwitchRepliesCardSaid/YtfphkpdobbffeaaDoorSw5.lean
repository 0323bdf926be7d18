/-
  Contract: awake.
-/
import Derived.Test.YtfphkpdobbffeaaDoorSw3
import Derived.Test.YtfphkpdobbffeaaDoorSw4
import Derived.Test.YtfphkpdobbffeaaDoorCards
import Derived.Test.YtfphkpdobbffeaaDoorTie
import Derived.WalkKit
import Derived.ProofKit
import Derived.OpenShut
import Derived.Deep.DeepHandedRow
import Derived.Lib.LaidTab
import Derived.Stop.LaidErr
import Derived.Test.YtfphkpdobbffeaaDoorAh5
set_option linter.unusedSimpArgs false
set_option linter.unusedVariables false
namespace Go.Proofs.YtfphkpdobbffeaaDoor
open Go Go.AH
set_option maxRecDepth 100000
set_option maxHeartbeats 1000000

def one : Gm := ⟨2, 0, 1, [(0, 1)]⟩
def two : Gm := ⟨2, 0, 1, [(0, 1), (0, 1)]⟩
def nul : Gm := ⟨2, 0, 1, []⟩
def fou : Gm := ⟨3, 0, 2, [(0, 1), (0, 1), (1, 2), (1, 2)]⟩
theorem one_game : one.game := by unfold Gm.game isGame bad0 badW; decide +kernel
theorem two_game : two.game := by unfold Gm.game isGame bad0 badW; decide +kernel
theorem nul_game : nul.game := by unfold Gm.game isGame bad0 badW; decide +kernel
theorem fou_game : fou.game := by unfold Gm.game isGame bad0 badW; decide +kernel
theorem one_kind : kindB one = "first".toUTF8 := by
  rw [kindB, if_neg (by decide +kernel), if_pos (by decide +kernel)]
theorem two_kind : kindB two = "short".toUTF8 := by
  rw [kindB, if_pos (by decide +kernel)]
theorem nul_kind : kindB nul = "cut".toUTF8 := by
  rw [kindB, if_neg (by decide +kernel), if_neg (by decide +kernel)]
theorem fou_count : cntT fou 16 = 4 := by decide +kernel
theorem two_trees : treesF two (alT two) = some (1, 2) := by decide +kernel
def lit (n s t len : Nat) : List AC := [.int .i64 n, .int .i64 s, .int .i64 t, .sl 0 0 len (some len)]
theorem one_spec : FDet Tryd.prog 19 [.g (lit 2 0 1 1)] [(0, wB one), (100002, .ro tab64)] 1 (.t [.c (.str "first".toUTF8), .c (.int .i64 0)]) [] 1 := by
  rw [← one_kind]
  exact FDet.wk (kind_spec one_game) ⟨.inr ⟨rfl, rfl, rfl, ⟨rfl, rfl, rfl⟩, trivial⟩, trivial⟩ ⟨.inl rfl, .inl rfl, trivial⟩
theorem two_spec : FDet Tryd.prog 19 [.g (lit 2 0 1 2)] [(0, wB two), (100002, .ro tab64)] 1 (.t [.c (.str "short".toUTF8), .c (.int .i64 0)]) [] 1 := by
  rw [← two_kind]
  exact FDet.wk (kind_spec two_game) ⟨.inr ⟨rfl, rfl, rfl, ⟨rfl, rfl, rfl⟩, trivial⟩, trivial⟩ ⟨.inl rfl, .inl rfl, trivial⟩
theorem tab_all (p : Nat → Prop) : (ABlk.ro tab64).all p := fun x hx => by
  obtain ⟨y, _, rfl⟩ := List.mem_map.1 hx; trivial
theorem nul_spec : FDet Tryd.prog 19 [.g (gN nul)] [(100002, .ro tab64)] 1 (.t [.c (.str "cut".toUTF8), .c (.int .i64 0)]) [] 1 := by
  rw [← nul_kind]
  refine FDet.nil0 (kind_spec nul_game) _ 100002 tab64 rfl ⟨.inr ⟨rfl, rfl, rfl, rfl, trivial⟩, trivial⟩ ?_ ?_ ?_
  · intro v hv; simp at hv; subst hv; intro x hx; simp [gN] at hx; rcases hx with rfl | rfl | rfl | rfl <;> trivial
  · intro p hp; simp at hp; subst hp; exact ⟨by decide, tab_all _⟩
  · intro e he; simp at he; rcases he with rfl | rfl <;> trivial
theorem fou_spec : FDet Tryd.prog 23 [.g (lit 3 0 2 4)] [(0, wB fou), (100002, .ro tab64)] 1 (.t [.c (.int .i64 4), .c (.int .i64 0)]) [] 1 := by
  have := count_spec fou_game
  rw [show cntT fou (2 ^ fou.ws.length) = 4 from fou_count] at this
  exact FDet.wk this ⟨.inr ⟨rfl, rfl, rfl, ⟨rfl, rfl, rfl⟩, trivial⟩, trivial⟩ ⟨.inl rfl, .inl rfl, trivial⟩
theorem trees2_spec : FDet Tryd.prog 25 [.g (lit 2 0 1 2)] [(0, wB two), (100002, .ro tab64), (100000, noneB)] 1 (.t [.g [.row 1 1, .row 2 1], .c (.bool true), .c (.int .i64 0)]) [(1, .row 3 1 (ints [0])), (2, .row 3 1 (ints [1]))] 3 := by
  have := Trees_spec two_game
  rw [two_trees] at this
  exact FDet.wk this ⟨.inr ⟨rfl, rfl, rfl, ⟨rfl, rfl, rfl⟩, trivial⟩, trivial⟩ ⟨.inl rfl, .inl rfl, .inl rfl, trivial⟩
theorem chk_spec : FDet Tryd.prog 55 [.g [.int .i64 0, .int .i64 0, .int .i64 0, .nils]] [(100002, .ro tab64)] 1 (.c (.int .i64 80)) [] 1 := by
  have h : FDet Tryd.prog 55 [.g (giC 0 0 0 0 0)] [(0, .ro []), (100002, .ro tab64)] 1 (.c (.int .i64 80)) [] 1 :=
    FSpec.imp (FSpec.wk (hp' := [(0, .ro []), (100002, .ro tab64)]) (args' := [.g (giC 0 0 0 0 0)]) (check_spec 0 0 0 [] 0 rfl) ⟨.inl rfl, trivial⟩ ⟨.inl rfl, trivial⟩) fun r hq k' ⟨h1, h2, h3⟩ => by
      rcases h1 with ⟨h1, _⟩ | ⟨_, h1⟩
      · exact absurd h1 (by unfold isGame bad0; simp)
      · exact ⟨h1, h2, h3⟩
  refine FDet.nil0 h _ 100002 tab64 rfl ⟨.inr ⟨rfl, rfl, rfl, rfl, trivial⟩, trivial⟩ ?_ ?_ trivial
  · intro v hv; simp at hv; subst hv; intro x hx; simp at hx; rcases hx with rfl | rfl <;> trivial
  · intro p hp; simp at hp; subst hp; exact ⟨by decide, tab_all _⟩
def lit4 (id : Nat) : List AC := [.int .i64 2, .int .i64 0, .int .i64 1, .sl id 0 2 (some 2)]
theorem awake_spec : FDet Tryd.prog 22 [] [(100002, .ro tab64), (100000, noneB)] 0 (.c (.bool true)) [] 0 := by
  refine FSpec.of_body tok true Tryd.func22 rfl (by kernel_rfl) (by decide) (by simp [tupA, hpLt, tmLt, AV.lt, AE.lt, AC.lt, LL_cons, LL_nil, idOk, ABlk.lt, ints_LL, GB, tab64_LL, gC, wB, giC, noneB, gst, tC, pC, gN, gR]) (by simp [tupA, hpLt, tmLt, AV.lt, AE.lt, AC.lt, LL_cons, LL_nil, idOk, ABlk.lt, ints_LL, GB, tab64_LL, gC, wB, giC, noneB, gst, tC, pC, gN, gR]) (by show 0 ≤ _; decide) ?_
  (conv => whnf); (repeat ((first | (refine ⟨rfl, ?_⟩) | (refine ⟨trivial, ?_⟩) | (refine Wk.yes ?_) | (refine Wk.no ?_) | (refine Wk.and ?_)); (conv => whnf)))
  refine CallA.ro [0] (.t [.c (.str "first".toUTF8), .c (.int .i64 0)]) (one_spec) (by first | rfl | exact congrArg AV.g (ints_ren _ _) | (simp [ints_ren, AV.ren, ABlk.ren, AC.ren, AE.ren, qq]; done)) rfl (by (repeat (first | exact trivial | refine ⟨⟨(by first | exact .inl (by decide) | exact .inr (by decide)), (by first | (refine Or.inl ?_; first | rfl | exact congrArg some (ints_ren _ _).symm | exact congrArg ABlk.own (ints_ren _ _).symm | exact congrArg some (tab64_ren _).symm) | rfl | exact congrArg some (ints_ren _ _).symm | exact congrArg ABlk.own (ints_ren _ _).symm | exact congrArg some (tab64_ren _).symm | exact Or.inr ⟨rfl, rfl⟩)⟩, ?_⟩))) (by first | rfl | exact congrArg AV.g (ints_ren _ _) | (simp [ints_ren, AV.ren, ABlk.ren, AC.ren, AE.ren, qq]; done)) ?_
  (conv => whnf); (repeat ((first | (refine ⟨rfl, ?_⟩) | (refine ⟨trivial, ?_⟩) | (refine Wk.yes ?_) | (refine Wk.no ?_) | (refine Wk.and ?_)); (conv => whnf)))
  refine CallA.ro [2] (.t [.c (.str "short".toUTF8), .c (.int .i64 0)]) (two_spec) (by first | rfl | exact congrArg AV.g (ints_ren _ _) | (simp [ints_ren, AV.ren, ABlk.ren, AC.ren, AE.ren, qq]; done)) rfl (by (repeat (first | exact trivial | refine ⟨⟨(by first | exact .inl (by decide) | exact .inr (by decide)), (by first | (refine Or.inl ?_; first | rfl | exact congrArg some (ints_ren _ _).symm | exact congrArg ABlk.own (ints_ren _ _).symm | exact congrArg some (tab64_ren _).symm) | rfl | exact congrArg some (ints_ren _ _).symm | exact congrArg ABlk.own (ints_ren _ _).symm | exact congrArg some (tab64_ren _).symm | exact Or.inr ⟨rfl, rfl⟩)⟩, ?_⟩))) (by first | rfl | exact congrArg AV.g (ints_ren _ _) | (simp [ints_ren, AV.ren, ABlk.ren, AC.ren, AE.ren, qq]; done)) ?_
  (conv => whnf); (repeat ((first | (refine ⟨rfl, ?_⟩) | (refine ⟨trivial, ?_⟩) | (refine Wk.yes ?_) | (refine Wk.no ?_) | (refine Wk.and ?_)); (conv => whnf)))
  refine CallA.ro [0] (.t [.c (.str "cut".toUTF8), .c (.int .i64 0)]) (nul_spec) (by first | rfl | exact congrArg AV.g (ints_ren _ _) | (simp [ints_ren, AV.ren, ABlk.ren, AC.ren, AE.ren, qq]; done)) rfl (by (repeat (first | exact trivial | refine ⟨⟨(by first | exact .inl (by decide) | exact .inr (by decide)), (by first | (refine Or.inl ?_; first | rfl | exact congrArg some (ints_ren _ _).symm | exact congrArg ABlk.own (ints_ren _ _).symm | exact congrArg some (tab64_ren _).symm) | rfl | exact congrArg some (ints_ren _ _).symm | exact congrArg ABlk.own (ints_ren _ _).symm | exact congrArg some (tab64_ren _).symm | exact Or.inr ⟨rfl, rfl⟩)⟩, ?_⟩))) (by first | rfl | exact congrArg AV.g (ints_ren _ _) | (simp [ints_ren, AV.ren, ABlk.ren, AC.ren, AE.ren, qq]; done)) ?_
  (conv => whnf); (repeat ((first | (refine ⟨rfl, ?_⟩) | (refine ⟨trivial, ?_⟩) | (refine Wk.yes ?_) | (refine Wk.no ?_) | (refine Wk.and ?_)); (conv => whnf)))
  refine CallA.ro [4] (.t [.c (.int .i64 4), .c (.int .i64 0)]) (fou_spec) (by first | rfl | exact congrArg AV.g (ints_ren _ _) | (simp [ints_ren, AV.ren, ABlk.ren, AC.ren, AE.ren, qq]; done)) rfl (by (repeat (first | exact trivial | refine ⟨⟨(by first | exact .inl (by decide) | exact .inr (by decide)), (by first | (refine Or.inl ?_; first | rfl | exact congrArg some (ints_ren _ _).symm | exact congrArg ABlk.own (ints_ren _ _).symm | exact congrArg some (tab64_ren _).symm) | rfl | exact congrArg some (ints_ren _ _).symm | exact congrArg ABlk.own (ints_ren _ _).symm | exact congrArg some (tab64_ren _).symm | exact Or.inr ⟨rfl, rfl⟩)⟩, ?_⟩))) (by first | rfl | exact congrArg AV.g (ints_ren _ _) | (simp [ints_ren, AV.ren, ABlk.ren, AC.ren, AE.ren, qq]; done)) ?_
  (conv => whnf); (repeat ((first | (refine ⟨rfl, ?_⟩) | (refine ⟨trivial, ?_⟩) | (refine Wk.yes ?_) | (refine Wk.no ?_) | (refine Wk.and ?_)); (conv => whnf)))
  refine CallA.det [2] (.t [.g [.row 5 1, .row 6 1], .c (.bool true), .c (.int .i64 0)]) ([(4, .own (ints [0, 1, 0, 1, 1, 2, 1, 2])), (3, .own (lit4 2)), (2, .own (ints [0, 1, 0, 1])), (1, .own (lit 2 0 1 1)), (0, .own (ints [0, 1])), (100002, .ro tab64), (100000, noneB), (6, .row 3 1 (ints [1])), (5, .row 3 1 (ints [0]))]) (trees2_spec) (by first | rfl | exact congrArg AV.g (ints_ren _ _) | (simp [ints_ren, AV.ren, ABlk.ren, AC.ren, AE.ren, qq]; done)) rfl (by (repeat (first | exact trivial | refine ⟨⟨(by first | exact .inl (by decide) | exact .inr (by decide)), (by first | (refine Or.inl ?_; first | rfl | exact congrArg some (ints_ren _ _).symm | exact congrArg ABlk.own (ints_ren _ _).symm | exact congrArg some (tab64_ren _).symm) | rfl | exact congrArg some (ints_ren _ _).symm | exact congrArg ABlk.own (ints_ren _ _).symm | exact congrArg some (tab64_ren _).symm | exact Or.inr ⟨rfl, rfl⟩)⟩, ?_⟩))) (by first | rfl | exact congrArg AV.g (ints_ren _ _) | (simp [ints_ren, AV.ren, ABlk.ren, AC.ren, AE.ren, qq]; done)) (by first | rfl | (simp [behind, gone, lk, up, del, qq, ABlk.wr, GB, ints_ren, AV.ren, ABlk.ren, AC.ren, AE.ren]; done) | (simp [behind, gone, lk, up, del, qq, ABlk.wr, GB, ints_ren, AV.ren, ABlk.ren, AC.ren, AE.ren]; rfl)) ?_
  (conv => whnf); (repeat ((first | (refine ⟨rfl, ?_⟩) | (refine ⟨trivial, ?_⟩) | (refine Wk.yes ?_) | (refine Wk.no ?_) | (refine Wk.and ?_)); (conv => whnf)))
  refine ⟨fun _ => ?_, fun h => absurd h (by decide +kernel)⟩
  (conv => whnf); (repeat ((first | (refine ⟨rfl, ?_⟩) | (refine ⟨trivial, ?_⟩) | (refine Wk.yes ?_) | (refine Wk.no ?_) | (refine Wk.and ?_)); (conv => whnf)))
  refine ⟨fun _ => ?_, fun h => absurd h (by decide +kernel)⟩
  (conv => whnf); (repeat ((first | (refine ⟨rfl, ?_⟩) | (refine ⟨trivial, ?_⟩) | (refine Wk.yes ?_) | (refine Wk.no ?_) | (refine Wk.and ?_)); (conv => whnf)))
  refine ⟨fun _ => ?_, fun h => absurd h (by decide +kernel)⟩
  (conv => whnf); (repeat ((first | (refine ⟨rfl, ?_⟩) | (refine ⟨trivial, ?_⟩) | (refine Wk.yes ?_) | (refine Wk.no ?_) | (refine Wk.and ?_)); (conv => whnf)))
  refine CallA.ro [0] (.c (.int .i64 80)) (chk_spec) (by first | rfl | exact congrArg AV.g (ints_ren _ _) | (simp [ints_ren, AV.ren, ABlk.ren, AC.ren, AE.ren, qq]; done)) rfl (by (repeat (first | exact trivial | refine ⟨⟨(by first | exact .inl (by decide) | exact .inr (by decide)), (by first | (refine Or.inl ?_; first | rfl | exact congrArg some (ints_ren _ _).symm | exact congrArg ABlk.own (ints_ren _ _).symm | exact congrArg some (tab64_ren _).symm) | rfl | exact congrArg some (ints_ren _ _).symm | exact congrArg ABlk.own (ints_ren _ _).symm | exact congrArg some (tab64_ren _).symm | exact Or.inr ⟨rfl, rfl⟩)⟩, ?_⟩))) (by first | rfl | exact congrArg AV.g (ints_ren _ _) | (simp [ints_ren, AV.ren, ABlk.ren, AC.ren, AE.ren, qq]; done)) ?_
  (conv => whnf); (repeat ((first | (refine ⟨rfl, ?_⟩) | (refine ⟨trivial, ?_⟩) | (refine Wk.yes ?_) | (refine Wk.no ?_) | (refine Wk.and ?_)); (conv => whnf)))
  exact AH.Fin.nil [] ⟨by show AV.c (.bool _) = AV.c (.bool true); rfl, rfl, rfl⟩ (by first | exact trivial | (simp [tupA, hpLt, tmLt, AV.lt, AE.lt, AC.lt, LL_cons, LL_nil, idOk, ABlk.lt, ints_LL, GB, tab64_LL, gC, wB, giC, noneB, gst, tC, pC, gN, gR]; done) | (simp [tupA, hpLt, tmLt, AV.lt, AE.lt, AC.lt, LL_cons, LL_nil, idOk, ABlk.lt, ints_LL, GB, tab64_LL, gC, wB, giC, noneB, gst, tC, pC, gN, gR, rdn, wrn]; done)) trivial trivial rfl (by simp [GB])
end Go.Proofs.YtfphkpdobbffeaaDoor

/-
  Plain law: the two ways to say what a tree is agree.
-/
namespace Go.Proofs.YtfphkpdobbffeaaDoor
open Go Go.AH
set_option maxRecDepth 100000
set_option maxHeartbeats 1000000

theorem root_self {xs : List Int} (h : Grp xs) : ∀ u, u < 8 → xs.getD (root xs u) 0 = (root xs u : Nat) := by
  intro u
  induction u using Nat.strongRecOn with
  | _ u ih =>
    intro hu
    have h1 := h.2 u hu
    by_cases e : xs.getD u 0 = (u : Nat)
    · rw [root_stop e]; exact e
    · rw [root_go h hu e]
      exact ih _ (by omega) (by omega)
theorem root_root {xs : List Int} (h : Grp xs) {u : Nat} (hu : u < 8) : root xs (root xs u) = root xs u := root_stop (root_self h u hu)
theorem joinL_getD {xs : List Int} (a b u : Nat) (hl : max (root xs a) (root xs b) < xs.length) : (joinL xs a b).getD u 0 = if u = max (root xs a) (root xs b) then ((min (root xs a) (root xs b) : Nat) : Int) else xs.getD u 0 := by
  simp only [joinL, List.getD_eq_getElem?_getD, List.getElem?_set]
  by_cases e : max (root xs a) (root xs b) = u
  · rw [if_pos e, if_pos e.symm, if_pos hl]; rfl
  · rw [if_neg e, if_neg (fun h => e h.symm)]
theorem root_joinL {xs : List Int} (h : Grp xs) {a b : Nat} (ha : a < 8) (hb : b < 8) : ∀ u, u < 8 → root (joinL xs a b) u = if root xs u = max (root xs a) (root xs b) then min (root xs a) (root xs b) else root xs u := by
  have hra := root_le h ha
  have hrb := root_le h hb
  have hG := h.join ha hb
  have hM : root xs (max (root xs a) (root xs b)) = max (root xs a) (root xs b) := by
    rcases Nat.le_total (root xs a) (root xs b) with e | e
    · rw [Nat.max_eq_right e]; exact root_root h hb
    · rw [Nat.max_eq_left e]; exact root_root h ha
  have hm : root xs (min (root xs a) (root xs b)) = min (root xs a) (root xs b) := by
    rcases Nat.le_total (root xs a) (root xs b) with e | e
    · rw [Nat.min_eq_left e]; exact root_root h ha
    · rw [Nat.min_eq_right e]; exact root_root h hb
  have hms : xs.getD (min (root xs a) (root xs b)) 0 = ((min (root xs a) (root xs b) : Nat) : Int) := by
    rcases Nat.le_total (root xs a) (root xs b) with e | e
    · rw [Nat.min_eq_left e]; exact root_self h a ha
    · rw [Nat.min_eq_right e]; exact root_self h b hb
  have hg := fun u => joinL_getD (xs := xs) a b u (by rw [h.1]; omega)
  generalize hMe : max (root xs a) (root xs b) = M at *
  generalize hme : min (root xs a) (root xs b) = m at *
  have hmM : m ≤ M := by omega
  have rm : root (joinL xs a b) m = m := by
    refine root_stop ?_
    rw [hg m]
    split
    · omega
    · exact hms
  intro u
  induction u using Nat.strongRecOn with
  | _ u ih =>
    intro hu
    have h1 := h.2 u hu
    by_cases e : u = M
    · subst e
      rw [hM, if_pos rfl]
      by_cases e2 : m = u
      · rw [← e2]; exact rm
      · rw [root_go hG hu (by rw [hg u, if_pos rfl]; omega), hg u, if_pos rfl]
        exact rm
    · by_cases e2 : xs.getD u 0 = (u : Nat)
      · rw [root_stop (xs := xs) e2, if_neg e]
        exact root_stop (by rw [hg u, if_neg e]; exact e2)
      · rw [root_go h hu e2, root_go hG hu (by rw [hg u, if_neg e]; exact e2), hg u, if_neg e]
        exact ih _ (by omega) (by omega)
/-- How many groups there are. -/
def comps (xs : List Int) (n : Nat) : Nat := (List.range n).countP fun u => decide (root xs u = u)
theorem cnt_rm (p : Nat → Bool) (M : Nat) (hp : p M = true) : ∀ n, (List.range n).countP (fun u => p u && decide (u ≠ M)) + (if M < n then 1 else 0) = (List.range n).countP p
  | 0 => rfl
  | n + 1 => by
    have ih := cnt_rm p M hp n
    simp only [List.range_succ, List.countP_append, List.countP_cons, List.countP_nil]
    by_cases e : n = M
    · subst e
      simp [hp] at ih ⊢
      omega
    · simp only [show (decide (n ≠ M)) = true by simp [e], Bool.and_true]
      rw [show (if M < n + 1 then 1 else 0) = (if M < n then 1 else 0) from by simp only [show (M < n + 1) ↔ M < n by omega]]
      omega
theorem comps_join {xs : List Int} (h : Grp xs) {a b n : Nat} (hn : n ≤ 8) (ha : a < n) (hb : b < n) : comps (joinL xs a b) n + (if root xs a = root xs b then 0 else 1) = comps xs n := by
  have hra := root_le h (show a < 8 by omega)
  have hrb := root_le h (show b < 8 by omega)
  have hr := root_joinL h (show a < 8 by omega) (show b < 8 by omega)
  by_cases e : root xs a = root xs b
  · rw [if_pos e]
    unfold comps
    refine List.countP_congr fun u hu => ?_
    have hu := List.mem_range.1 hu
    rw [hr u (by omega)]
    split
    · rename_i h2; rw [h2, e]; simp
    · rfl
  · rw [if_neg e]
    have hM : root xs (max (root xs a) (root xs b)) = max (root xs a) (root xs b) := by
      rcases Nat.le_total (root xs a) (root xs b) with e | e
      · rw [Nat.max_eq_right e]; exact root_root h (by omega)
      · rw [Nat.max_eq_left e]; exact root_root h (by omega)
    have hm : root xs (min (root xs a) (root xs b)) = min (root xs a) (root xs b) := by
      rcases Nat.le_total (root xs a) (root xs b) with e | e
      · rw [Nat.min_eq_left e]; exact root_root h (by omega)
      · rw [Nat.min_eq_right e]; exact root_root h (by omega)
    have := cnt_rm (fun u => decide (root xs u = u)) (max (root xs a) (root xs b)) (by simp [hM]) n
    rw [if_pos (by omega)] at this
    unfold comps
    rw [← this]
    congr 1
    refine List.countP_congr fun u hu => ?_
    have hu := List.mem_range.1 hu
    rw [hr u (by omega)]
    simp only [decide_eq_true_eq, Bool.and_eq_true]
    split
    · rename_i h2
      constructor
      · intro h3; rw [← h3, hm] at h2; omega
      · rintro ⟨h3, h4⟩; omega
    · rename_i h2
      constructor
      · intro h3; exact ⟨h3, fun h4 => by rw [h4] at h2; exact h2 hM⟩
      · exact fun h3 => h3.1
theorem acy_comps {g : Gm} (hg : g.ok) : ∀ (l : List Int) (xs : List Int), Grp xs → (∀ y ∈ l, y.toNat < g.ws.length) → comps xs g.n ≤ comps (l.foldl (joinF g) xs) g.n + l.length ∧ (acyF g xs l = true ↔ comps (l.foldl (joinF g) xs) g.n + l.length = comps xs g.n)
  | [], xs, h, _ => by simp [acyF]
  | i :: l, xs, h, hl => by
    have he := hg.ends _ (hl i (by simp))
    have h8 := hg.n8
    have ih := acy_comps hg l (joinF g xs i) (h.join (by omega) (by omega)) fun y hy => hl y (by simp [hy])
    have hj := comps_join h (a := (g.ws.getD i.toNat (0, 0)).1) (b := (g.ws.getD i.toNat (0, 0)).2) h8 (by omega) (by omega)
    rw [show joinL xs (g.ws.getD i.toNat (0, 0)).1 (g.ws.getD i.toNat (0, 0)).2 = joinF g xs i from rfl] at hj
    simp only [List.foldl_cons, List.length_cons, acyF, Bool.and_eq_true, decide_eq_true_eq, ih.2]
    split at hj
    · rename_i e
      refine ⟨by omega, ⟨fun h => absurd e h.1, fun h => by omega⟩⟩
    · rename_i e
      exact ⟨by omega, ⟨fun h => by omega, fun h => ⟨e, by omega⟩⟩⟩

/-- The union–find's roots are the labels of the groups. -/
def keptTo (g : Gm) (a : Nat) (i : Nat) : List Int := (((List.range i).filter a.testBit).map Int.ofNat).foldl (joinF g) (aloneSt 8)
theorem keptTo_succ (g : Gm) (a i : Nat) : keptTo g a (i + 1) = if a.testBit i then joinF g (keptTo g a i) (i : Int) else keptTo g a i := by
  simp only [keptTo, List.range_succ, List.filter_append, List.map_append, List.foldl_append]
  cases h : a.testBit i <;> simp [h, List.filter_cons]
theorem keptTo_Grp {g : Gm} (hg : g.ok) (a i : Nat) (hi : i ≤ g.ws.length) : Grp (keptTo g a i) :=
  Grp.fold hg _ _ Grp.alone fun y hy => by
    obtain ⟨j, hj, rfl⟩ := List.mem_map.1 hy
    have := List.mem_range.1 (List.mem_filter.1 hj).1
    show j < _
    omega
theorem bit_test (a i : Nat) : (bit a i = 1) ↔ a.testBit i = true := by
  rw [Nat.testBit_eq_decide_div_mod_eq, decide_eq_true_eq]; rfl
theorem repTo_getD (xs : List Int) (mx mn : Int) : ∀ k j, j < xs.length → (repTo xs mx mn k).getD j 0 = if j < k ∧ xs.getD j 0 = mx then mn else xs.getD j 0
  | 0, j, _ => by simp [repTo]
  | k + 1, j, hj => by
    have ihj := repTo_getD xs mx mn k j hj
    simp only [repTo]
    by_cases hk : k < xs.length
    · have ihk := repTo_getD xs mx mn k k hk
      rw [if_neg (by omega)] at ihk
      rw [ihk]
      by_cases e : j = k
      · subst e
        split
        · rename_i h
          rw [if_pos ⟨by omega, h⟩, List.getD_eq_getElem?_getD, List.getElem?_set, if_pos rfl, if_pos (by rw [repTo_len]; exact hj)]; rfl
        · rename_i h
          rw [ihj, if_neg (by omega), if_neg (fun h2 => h h2.2)]
      · have : (j < k + 1 ∧ xs.getD j 0 = mx) ↔ (j < k ∧ xs.getD j 0 = mx) := by omega
        simp only [this]
        split
        · rw [List.getD_eq_getElem?_getD, List.getElem?_set, if_neg (fun h => e h.symm), ← List.getD_eq_getElem?_getD]; exact ihj
        · exact ihj
    · have : (j < k + 1 ∧ xs.getD j 0 = mx) ↔ (j < k ∧ xs.getD j 0 = mx) := by omega
      simp only [this]
      split
      · rw [List.set_eq_of_length_le (by rw [repTo_len]; omega)]; exact ihj
      · exact ihj
theorem alone_root {u : Nat} (h : u < 8) : root (aloneSt 8) u = u := by
  have : u = 0 ∨ u = 1 ∨ u = 2 ∨ u = 3 ∨ u = 4 ∨ u = 5 ∨ u = 6 ∨ u = 7 := by omega
  rcases this with rfl | rfl | rfl | rfl | rfl | rfl | rfl | rfl <;> decide
theorem labels {g : Gm} (hg : g.ok) (a : Nat) : ∀ i, i ≤ g.ws.length → ∀ u, u < g.n → (grpR g a i).getD u 0 = (root (keptTo g a i) u : Nat)
  | 0, _, u, hu => by
    have h8 := hg.n8
    rw [show keptTo g a 0 = aloneSt 8 from rfl, alone_root (by omega)]
    simp [grpR, iota, hu, List.getD_eq_getElem?_getD]
  | i + 1, hi, u, hu => by
    have h8 := hg.n8
    have he := hg.ends i (by omega)
    have ih := labels hg a i (by omega)
    have hG := keptTo_Grp hg a i (by omega)
    rw [keptTo_succ, grpR, grpS]
    by_cases hb : a.testBit i = true
    · rw [if_pos ((bit_test a i).2 hb), if_pos hb, repTo_getD _ _ _ _ _ (by rw [grpR_len]; exact hu), ih u hu, ih _ (by omega), ih _ (by omega)]
      rw [show joinF g (keptTo g a i) (i : Int) = joinL (keptTo g a i) (g.ws.getD i (0, 0)).1 (g.ws.getD i (0, 0)).2 by rw [joinF, Int.toNat_natCast]]
      rw [root_joinL hG (by omega) (by omega) u (by omega)]
      generalize root (keptTo g a i) (g.ws.getD i (0, 0)).1 = r1
      generalize root (keptTo g a i) (g.ws.getD i (0, 0)).2 = r2
      generalize root (keptTo g a i) u = r
      by_cases e : r = max r1 r2
      · rw [if_pos e, if_pos ⟨hu, by omega⟩]; omega
      · rw [if_neg e, if_neg (by omega)]
    · rw [if_neg (fun h => hb ((bit_test a i).1 h)), if_neg hb]
      exact ih u hu
theorem lt_len {a k i : Nat} (h : a < 2 ^ k) (ht : a.testBit i = true) : i < k := by
  refine Nat.lt_of_not_le fun hk => ?_
  have h2 : a < 2 ^ i := Nat.lt_of_lt_of_le h (Nat.pow_le_pow_right (by omega) hk)
  rw [Nat.testBit_lt_two_pow h2] at ht; cases ht
theorem range_filter (p : Nat → Bool) {k : Nat} : ∀ m, k ≤ m → (∀ i, k ≤ i → p i = false) → (List.range m).filter p = (List.range k).filter p
  | 0, h, _ => by rw [show k = 0 by omega]
  | m + 1, h, hp => by
    by_cases e : k = m + 1
    · rw [e]
    · rw [List.range_succ, List.filter_append, range_filter p m (by omega) hp]
      simp [List.filter_cons, hp m (by omega)]
theorem kept_eq {g : Gm} (hg : g.ok) {a : Nat} (ha : a < 2 ^ g.ws.length) : keptL g a = keptTo g a g.ws.length := by
  rw [keptL, keptTo, mem, memN, range_filter _ 10 hg.len fun i hi => by
    cases h : a.testBit i with
    | false => rfl
    | true => have := lt_len ha h; omega]
def endOf (g : Gm) (u : Nat) (i : Int) : Bool := decide ((g.ws.getD i.toNat (0, 0)).1 = u) || decide ((g.ws.getD i.toNat (0, 0)).2 = u)
theorem places_bit (g : Gm) (u : Nat) : ∀ (l : List Int) (z : Nat), (l.foldl (placesF g) z).testBit u = (z.testBit u || l.any (endOf g u))
  | [], z => by simp
  | i :: l, z => by
    rw [List.foldl_cons, places_bit g u l, List.any_cons]
    simp only [placesF, Nat.testBit_or, Nat.testBit_two_pow, endOf, Bool.or_assoc]
theorem lone {g : Gm} (hg : g.ok) {u : Nat} (hu : u < 8) : ∀ (l : List Int) (xs : List Int), Grp xs → (∀ y ∈ l, y.toNat < g.ws.length) → (∀ y ∈ l, endOf g u y = false) → root xs u = u → (∀ v, v < 8 → v ≠ u → root xs v ≠ u) →
    root (l.foldl (joinF g) xs) u = u ∧ ∀ v, v < 8 → v ≠ u → root (l.foldl (joinF g) xs) v ≠ u
  | [], xs, _, _, _, h1, h2 => ⟨h1, h2⟩
  | i :: l, xs, h, hl, hn, h1, h2 => by
    have he := hg.ends _ (hl i (by simp))
    have h8 := hg.n8
    have hi := hn i (by simp)
    simp only [endOf, Bool.or_eq_false_iff, decide_eq_false_iff_not] at hi
    have ra := h2 _ (show (g.ws.getD i.toNat (0, 0)).1 < 8 by omega) hi.1
    have rb := h2 _ (show (g.ws.getD i.toNat (0, 0)).2 < 8 by omega) hi.2
    have hr := root_joinL h (show (g.ws.getD i.toNat (0, 0)).1 < 8 by omega) (show (g.ws.getD i.toNat (0, 0)).2 < 8 by omega)
    rw [show joinL xs (g.ws.getD i.toNat (0, 0)).1 (g.ws.getD i.toNat (0, 0)).2 = joinF g xs i from rfl] at hr
    refine lone hg hu l (joinF g xs i) (h.join (by omega) (by omega)) (fun y hy => hl y (by simp [hy])) (fun y hy => hn y (by simp [hy])) ?_ ?_
    · rw [hr u hu, h1, if_neg (by omega)]
    · intro v hv hvu
      have := h2 v hv hvu
      rw [hr v hv]
      split <;> omega
theorem touched {g : Gm} (hg : g.ok) {a : Nat} (ha : a < 2 ^ g.ws.length) (hc : ∀ u, u < g.n → root (keptL g a) u = 0) {u : Nat} (hu : u < g.n) : (mem a).any (endOf g u) = true := by
  have h8 := hg.n8
  have h2 := hg.n2
  refine Bool.not_eq_false _ ▸ fun hf => ?_
  have hl := lone hg (show u < 8 by omega) (mem a) (aloneSt 8) Grp.alone (fun y hy => (mem_lt hg.len ha hy).2) (fun y hy => by
    cases h : endOf g u y with
    | false => rfl
    | true => rw [List.any_eq_false] at hf; exact absurd h (hf y hy)) (alone_root (by omega)) (fun v hv hne => by rw [alone_root hv]; exact hne)
  have h0 := hc u hu
  rw [show (mem a).foldl (joinF g) (aloneSt 8) = keptL g a from rfl] at hl
  have hu0 : u = 0 := by omega
  exact hl.2 1 (by omega) (by omega) (by rw [hc 1 (by omega), hu0])
theorem ends_lt {g : Gm} (hg : g.ok) {a : Nat} (ha : a < 2 ^ g.ws.length) {u : Nat} (h : (mem a).any (endOf g u) = true) : u < g.n := by
  obtain ⟨y, hy, h⟩ := List.any_eq_true.1 h
  have he := hg.ends _ (mem_lt hg.len ha hy).2
  simp only [endOf, Bool.or_eq_true, decide_eq_true_eq] at h
  omega
theorem places_all {g : Gm} (hg : g.ok) {a : Nat} (ha : a < 2 ^ g.ws.length) (hc : ∀ u, u < g.n → root (keptL g a) u = 0) : placesN g a = 2 ^ g.n - 1 := by
  refine Nat.eq_of_testBit_eq fun u => ?_
  rw [placesN, places_bit, Nat.testBit_two_pow_sub_one, Nat.zero_testBit, Bool.false_or]
  by_cases hu : u < g.n
  · rw [touched hg ha hc hu, decide_eq_true hu]
  · rw [decide_eq_false hu]
    exact Bool.eq_false_iff.2 fun h => hu (ends_lt hg ha h)
theorem bit_full {n k : Nat} (h : k < n) : bit (2 ^ n - 1) k = 1 := by
  rw [bit_test, Nat.testBit_two_pow_sub_one]; simp [h]
theorem scan_iff (l : List Int) (n : Nat) : ∀ f k (first : Int), f + k = n → 0 ≤ first → (scanF l (2 ^ n - 1) f k first = true ↔ ∀ j, k ≤ j → j < n → l.getD j 0 = first)
  | 0, k, first, h, _ => by
    simp only [scanF, true_iff]
    exact fun j h1 h2 => by omega
  | f + 1, k, first, h, h0 => by
    rw [scanF, if_neg (by rw [bit_full (by omega)]; omega)]
    simp only [if_neg (show ¬ first < 0 by omega)]
    split
    · rename_i e
      rw [scan_iff l n f (k + 1) first (by omega) h0]
      constructor
      · intro h j h1 h2
        by_cases hj : j = k
        · rw [hj]; exact e
        · exact h j (by omega) h2
      · exact fun h j h1 h2 => h j (by omega) h2
    · rename_i e
      simp only [Bool.false_eq_true, false_iff]
      exact fun h => e (h k (by omega) (by omega))
theorem pop_full : ∀ n, n ≤ 8 → pop (2 ^ n - 1) = n := by decide +kernel
theorem comps_alone {n : Nat} (h : n ≤ 8) : comps (aloneSt 8) n = n := by
  unfold comps
  rw [List.countP_eq_length.2 fun u hu => by have := List.mem_range.1 hu; rw [alone_root (by omega)]; simp]
  simp
theorem comps_one {xs : List Int} (h : Grp xs) {n : Nat} (hn : 0 < n) (hn8 : n ≤ 8) : comps xs n = 1 ↔ ∀ u, u < n → root xs u = 0 := by
  have h0 : root xs 0 = 0 := by have := root_le h (show 0 < 8 by omega); omega
  have := cnt_rm (fun u => decide (root xs u = u)) 0 (by simp [h0]) n
  rw [if_pos hn] at this
  unfold comps
  rw [← this]
  constructor
  · intro h1 u hu
    have hz : (List.range n).countP (fun u => decide (root xs u = u) && decide (u ≠ 0)) = 0 := by omega
    rw [List.countP_eq_zero] at hz
    have hr := root_le h (show u < 8 by omega)
    have := hz (root xs u) (List.mem_range.2 (by omega))
    rw [root_root h (by omega)] at this
    simp at this
    exact this
  · intro h1
    have hz : (List.range n).countP (fun u => decide (root xs u = u) && decide (u ≠ 0)) = 0 := by
      rw [List.countP_eq_zero]
      intro u hu
      rw [h1 u (List.mem_range.1 hu)]
      simp
      omega
    omega
theorem tree_eq {g : Gm} (hg : g.ok) {a : Nat} (ha : a < 2 ^ g.ws.length) : isTreeB g a (2 ^ g.n - 1) = treeR g a (2 ^ g.n - 1) := by
  have h8 := hg.n8
  have h2 := hg.n2
  have hpf := pop_full g.n h8
  have hG : Grp (keptL g a) := Grp.fold hg (mem a) _ Grp.alone fun y hy => (mem_lt hg.len ha hy).2
  have hac := acy_comps hg (mem a) (aloneSt 8) Grp.alone fun y hy => (mem_lt hg.len ha hy).2
  rw [show (mem a).foldl (joinF g) (aloneSt 8) = keptL g a from rfl, comps_alone h8, show (mem a).length = pop a from by simp [mem, pop]] at hac
  have hco := comps_one hG (n := g.n) (by omega) h8
  have hlab := labels hg a g.ws.length (Nat.le_refl _)
  rw [← kept_eq hg ha] at hlab
  have hwok : ∀ i, i < g.ws.length → wOk g a (2 ^ g.n - 1) i = true := fun i hi => by
    have he := hg.ends i hi
    simp only [wOk, bit_full (show (g.ws.getD i (0, 0)).1 < g.n by omega), bit_full (show (g.ws.getD i (0, 0)).2 < g.n by omega)]
    simp
  have hsc : scanF (grpR g a g.ws.length) (2 ^ g.n - 1) g.n 0 (-1) = true ↔ ∀ u, u < g.n → root (keptL g a) u = 0 := by
    obtain ⟨m, hm⟩ : ∃ m, g.n = m + 1 := ⟨g.n - 1, by omega⟩
    have h0 : root (keptL g a) 0 = 0 := by have := root_le hG (show 0 < 8 by omega); omega
    have hl0 := hlab 0 (by omega)
    rw [h0] at hl0
    rw [show scanF (grpR g a g.ws.length) (2 ^ g.n - 1) g.n 0 (-1) = scanF (grpR g a g.ws.length) (2 ^ g.n - 1) m 1 0 by
      rw [hm, scanF, ← hm, if_neg (by rw [bit_full (by omega)]; omega), if_pos (by simp), if_pos (by omega), hl0]; rfl]
    rw [scan_iff _ _ m 1 0 (by omega) (by omega)]
    constructor
    · intro h u hu
      by_cases e : u = 0
      · rw [e]; exact h0
      · have := h u (by omega) hu
        rw [hlab u hu] at this; omega
    · intro h u _ hu
      rw [hlab u hu, h u hu]; rfl
  rw [Bool.eq_iff_iff]
  simp only [isTreeB, treeR, Bool.and_eq_true, decide_eq_true_eq, hac.2, hsc, hpf]
  constructor
  · rintro ⟨⟨h3, h4⟩, h5⟩
    exact ⟨⟨hwok, hco.1 (by omega)⟩, h4⟩
  · rintro ⟨⟨_, h3⟩, h4⟩
    have := hco.2 h3
    exact ⟨⟨places_all hg ha h3, h4⟩, by omega⟩
theorem cnt_eq {g : Gm} (hg : g.ok) : cntT g (2 ^ g.ws.length) = cntR g (2 ^ g.ws.length) := by
  unfold cntT cntR
  refine List.countP_congr fun a ha => ?_
  rw [tree_eq hg (List.mem_range.1 ha)]
end Go.Proofs.YtfphkpdobbffeaaDoor

/-
  The law SwitchCounts, as a contract.
-/
namespace Go.Proofs.YtfphkpdobbffeaaDoor
open Go Go.AH
set_option maxRecDepth 100000
set_option maxHeartbeats 1000000

theorem putW_cons (u w : Nat × Nat) (l : List (Nat × Nat)) : putW (u :: l) w = if leW u w = true then u :: putW l w else w :: u :: l := by
  by_cases h : leW u w = true
  · rw [if_pos h, putW, putW, show posW (u :: l) w = posW l w + 1 by simp [posW, List.takeWhile_cons, h]]
    rfl
  · rw [if_neg h, putW, show posW (u :: l) w = 0 by simp [posW, List.takeWhile_cons, h]]
    rfl
theorem putW_mem {v w : Nat × Nat} : ∀ {l : List (Nat × Nat)}, v ∈ putW l w → v = w ∨ v ∈ l
  | [], h => by simp [putW] at h; exact .inl h
  | u :: l, h => by
    rw [putW_cons] at h
    split at h
    · rcases List.mem_cons.1 h with h | h
      · exact .inr (by simp [h])
      · rcases putW_mem h with h | h
        · exact .inl h
        · exact .inr (by simp [h])
    · rcases List.mem_cons.1 h with h | h
      · exact .inl h
      · exact .inr h
theorem leW_iff (u w : Nat × Nat) : leW u w = true ↔ u.1 < w.1 ∨ (u.1 = w.1 ∧ u.2 ≤ w.2) := by simp [leW]
theorem putW_sorted {w : Nat × Nat} : ∀ {l : List (Nat × Nat)}, l.Pairwise (fun u w => leW u w = true) → (putW l w).Pairwise (fun u w => leW u w = true)
  | [], _ => by simp [putW]
  | u :: l, h => by
    obtain ⟨h1, h2⟩ := List.pairwise_cons.1 h
    rw [putW_cons]
    split
    · rename_i hu
      refine List.pairwise_cons.2 ⟨fun v hv => ?_, putW_sorted h2⟩
      rcases putW_mem hv with rfl | hv
      · exact hu
      · exact h1 v hv
    · rename_i hu
      rw [leW_iff] at hu
      refine List.pairwise_cons.2 ⟨fun v hv => ?_, h⟩
      rcases List.mem_cons.1 hv with rfl | hv
      · rw [leW_iff]; omega
      · have := (leW_iff _ _).1 (h1 v hv)
        rw [leW_iff]; omega
def Tm (n : Nat) (l : List (Nat × Nat)) : Prop := (∀ w ∈ l, w.1 < w.2 ∧ w.2 < n) ∧ l.Pairwise (fun u w => leW u w = true)
theorem tameF_Tm {n most : Nat} (hn : 0 < n) {l : List (Nat × Nat)} (h : Tm n l) (p : Int × Int) : Tm n (tameF n most l p) := by
  have ha := um_lt p.1 hn
  have hb := um_lt p.2 hn
  unfold tameF
  split
  · split
    · exact h
    · refine ⟨fun w hw => ?_, putW_sorted h.2⟩
      rcases putW_mem hw with rfl | hw
      · dsimp only; omega
      · exact h.1 w hw
  · exact h
theorem tameA_Tm (x : Rw) {n most : Nat} (hn : 0 < n) : ∀ k, k ≤ x.ws.length → Tm n (tameA x n most k) ∧ (tameA x n most k).length ≤ most
  | 0, _ => ⟨⟨fun w hw => by simp [tameA] at hw, by simp [tameA]⟩, by simp [tameA]⟩
  | k + 1, hk => by
    obtain ⟨h1, h2⟩ := tameA_Tm x (most := most) hn k (by omega)
    rw [tameA_succ x n most (by omega)]
    exact ⟨tameF_Tm hn h1 _, tameF_len _ _ _ _ h2⟩
theorem tame_game (x : Rw) {pl most : Nat} (h1 : 2 ≤ pl) (h2 : pl ≤ 8) (h3 : most ≤ 10) : (tame x pl most).game := by
  have hN : tameN x pl = 2 + um x.n (pl - 1) := rfl
  have hu := um_lt x.n (n := pl - 1) (by omega)
  have hs : tameS x pl < tameN x pl := um_lt _ (by omega)
  have ht0 := um_lt x.t (n := tameN x pl) (by omega)
  have ht : tameT x pl < tameN x pl ∧ tameT x pl ≠ tameS x pl := by
    unfold tameT
    split
    · refine ⟨Nat.mod_lt _ (by omega), ?_⟩
      by_cases e : tameS x pl + 1 = tameN x pl
      · rw [e, Nat.mod_self]; omega
      · rw [Nat.mod_eq_of_lt (by omega)]; omega
    · exact ⟨ht0, fun h => by omega⟩
  obtain ⟨⟨hw, hp⟩, hl⟩ := tameA_Tm x (n := tameN x pl) (most := most) (by omega) _ (Nat.le_refl _)
  generalize hL : tameA x (tameN x pl) most x.ws.length = L at hw hp hl
  show isGame (tameN x pl) (tameS x pl) (tameT x pl) (fl (tameA x (tameN x pl) most x.ws.length)) (tameA x (tameN x pl) most x.ws.length).length
  rw [hL]
  refine ⟨by unfold bad0; omega, fun i hi => ?_⟩
  have hg : ∀ j, j < L.length → (L.getD j (0, 0)) ∈ L := fun j hj => by
    rw [List.getD_eq_getElem?_getD, List.getElem?_eq_getElem hj]; exact List.getElem_mem hj
  have hwi := hw _ (hg i hi)
  unfold badW
  rw [(fl_get L i).1, (fl_get L i).2]
  have hc : 0 < i → ¬ 0 < cmpL (win (fl L) ((i - 1) * 2) 2) (win (fl L) (i * 2) 2) := fun h0 => by
    have hle : leW (L.getD (i - 1) (0, 0)) (L.getD i (0, 0)) = true := by
      have := List.pairwise_iff_getElem.1 hp (i - 1) i (by omega) hi (by omega)
      rw [List.getD_eq_getElem?_getD, List.getD_eq_getElem?_getD, List.getElem?_eq_getElem hi, List.getElem?_eq_getElem (show i - 1 < L.length by omega)]
      exact this
    rw [leW_iff] at hle
    have hfl := fl_len L
    rw [win2 (by omega), win2 (by omega), (fl_get L i).1, (fl_get L i).2, (fl_get L (i - 1)).1, (fl_get L (i - 1)).2]
    simp only [cmpL]
    unfold cmpI
    split <;> omega
  omega

theorem tame_nil {x : Rw} {pl most : Nat} (h1 : 2 ≤ pl) (h2 : pl ≤ 10) (h3 : most ≤ 10) (h4 : x.ws.length ≤ 9223372036854775807) (h : (tame x pl most).ws = []) : FDet Tryd.prog 18 [.g (rC x 0), .c (.int .i64 pl), .c (.int .i64 most)] [(0, rB x)] 1 (.g (gN (tame x pl most))) [] 1 := by
  have := tame_spec h1 h2 h3 h4
  rw [show tameR (tame x pl most) = .g (gN (tame x pl most)) by rw [tameR, h], show tameH (tame x pl most) = [] by rw [tameH, h], show tameK (tame x pl most) = 1 by rw [tameK, h]] at this
  exact this
theorem gC_LL {g : Gm} {k id : Nat} (h : idOk k id) : LL k (gC g id) := by
  intro x hx
  simp [gC] at hx
  rcases hx with rfl | rfl | rfl | rfl
  · trivial
  · trivial
  · trivial
  · exact h
theorem tame_rs {x : Rw} {pl most : Nat} (h1 : 2 ≤ pl) (h2 : pl ≤ 10) (h3 : most ≤ 10) (h4 : x.ws.length ≤ 9223372036854775807) (h : 0 < (tame x pl most).ws.length) : FDet Tryd.prog 18 [.g (rC x 0), .c (.int .i64 pl), .c (.int .i64 most)] [(0, rB x)] 1 (.g (gC (tame x pl most) 1)) [(1, .row 60 2 (ints (fl (tame x pl most).ws)))] 2 := by
  have := tame_spec h1 h2 h3 h4
  generalize tame x pl most = g at *
  obtain ⟨w, l, hw⟩ : ∃ w l, g.ws = w :: l := by
    cases hq : g.ws with
    | nil => rw [hq] at h; simp at h
    | cons w l => exact ⟨w, l, rfl⟩
  rw [show tameR g = .g (gR g 1) by rw [tameR, hw], show tameH g = [(1, .row 60 2 (ints (fl g.ws)))] by rw [tameH, hw], show tameK g = 2 by rw [tameK, hw]] at this
  exact FDet.post this _ _ (.inr ⟨rfl, rfl, rfl, ⟨⟨rfl, rfl, rfl⟩, trivial⟩, trivial⟩) ⟨⟨⟨rfl, rfl⟩, .inl rfl⟩, trivial⟩ (gC_LL (.inl (by decide))) (by simp [tupA, hpLt, tmLt, AV.lt, AE.lt, AC.lt, LL_cons, LL_nil, idOk, ABlk.lt, ints_LL, GB, tab64_LL, gC, wB, giC, noneB, gst, tC, pC, gN, gR, rC, rB, gO, gOH, gOK]) rfl
theorem given_rs {g : Gm} (h : 0 < g.ws.length) (hl : g.ws.length ≤ 10) : FDet Tryd.prog 20 [.g (gC g 0)] [(0, wB g)] 1 (.g (gC g 1)) [(1, .row 60 2 (ints (fl g.ws)))] 2 :=
  FDet.post (given_row h hl) _ _ (.inr ⟨rfl, rfl, rfl, ⟨⟨rfl, rfl, rfl⟩, trivial⟩, trivial⟩) ⟨⟨⟨rfl, rfl⟩, .inl rfl⟩, trivial⟩ (gC_LL (.inl (by decide))) (by simp [tupA, hpLt, tmLt, AV.lt, AE.lt, AC.lt, LL_cons, LL_nil, idOk, ABlk.lt, ints_LL, GB, tab64_LL, gC, wB, giC, noneB, gst, tC, pC, gN, gR, rC, rB, gO, gOH, gOK]) rfl
theorem gN_all (g : Gm) (p : Nat → Prop) : ∀ v ∈ [AV.g (gN g)], v.all p := by
  intro v hv; simp at hv; subst hv; intro x hx; simp [gN] at hx; rcases hx with rfl | rfl | rfl | rfl <;> trivial
theorem count_nil {g : Gm} (hg : g.game) (h : g.ws = []) : FDet Tryd.prog 23 [.g (gN g)] [(100002, .ro tab64)] 1 (.t [.c (.int .i64 (cntT g (2 ^ g.ws.length))), .c (.int .i64 0)]) [] 1 := by
  have h1 := count_spec hg
  rw [show wB g = .ro [] by rw [wB, h]; rfl] at h1
  refine FDet.nil0 h1 _ 100002 tab64 rfl ⟨.inr ⟨rfl, rfl, rfl, by show g.ws.length = 0; rw [h]; rfl, trivial⟩, trivial⟩ (gN_all g _) ?_ ?_
  · intro p hp; simp at hp; subst hp; exact ⟨by decide, tab_all _⟩
  · intro e he; simp at he; rcases he with rfl | rfl <;> trivial
theorem countR_nil {g : Gm} (hg : g.ok) (h : g.ws = []) : FDet Tryd.prog 24 [.g (gN g)] [(100002, .ro tab64)] 1 (.c (.int .i64 (cntR g (2 ^ g.ws.length)))) [] 1 := by
  have h1 := countR_spec hg
  rw [show wB g = .ro [] by rw [wB, h]; rfl] at h1
  have h2 := FDet.wk h1 (args' := [.g (gC g 0)]) (hp' := [(0, .ro []), (100002, .ro tab64)]) ⟨.inl rfl, trivial⟩ ⟨.inl rfl, trivial⟩
  refine FDet.nil0 h2 _ 100002 tab64 rfl ⟨.inr ⟨rfl, rfl, rfl, by show g.ws.length = 0; rw [h]; rfl, trivial⟩, trivial⟩ (gN_all g _) ?_ trivial
  · intro p hp; simp at hp; subst hp; exact ⟨by decide, tab_all _⟩
theorem counts_nil (x : Rw) (h4 : x.ws.length ≤ 9223372036854775807) (hws : (tame x 8 10).ws = []) : FDet Tryd.prog 4 [.g (rC x 0)] [(0, rB x), (100002, .ro tab64), (100000, noneB)] 1 (.c (.bool true)) [] 1 := by
  have hgm := tame_game x (pl := 8) (most := 10) (by omega) (by omega) (by omega)
  have heq := cnt_eq hgm.ok
  have ht := tame_nil (x := x) (pl := 8) (most := 10) (by omega) (by omega) (by omega) h4 hws
  have hc := count_nil hgm hws
  have hr := countR_nil hgm.ok hws
  generalize tame x 8 10 = g at *
  rw [← heq] at hr
  generalize cntT g (2 ^ g.ws.length) = C at *
  refine FSpec.of_body tok true Tryd.func4 rfl (by kernel_rfl) (by decide) (by simp [tupA, hpLt, tmLt, AV.lt, AE.lt, AC.lt, LL_cons, LL_nil, idOk, ABlk.lt, ints_LL, GB, tab64_LL, gC, wB, giC, noneB, gst, tC, pC, gN, gR, rC, rB, gO, gOH, gOK]) (by simp [tupA, hpLt, tmLt, AV.lt, AE.lt, AC.lt, LL_cons, LL_nil, idOk, ABlk.lt, ints_LL, GB, tab64_LL, gC, wB, giC, noneB, gst, tC, pC, gN, gR, rC, rB, gO, gOH, gOK]) (by show 1 ≤ _; decide) ?_
  (conv => whnf); (repeat ((first | (refine ⟨rfl, ?_⟩) | (refine ⟨trivial, ?_⟩) | (refine Wk.yes ?_) | (refine Wk.no ?_) | (refine Wk.and ?_)); (conv => whnf)))
  refine CallA.ro [0] (.g (gN g)) (ht) (by first | rfl | exact congrArg AV.g (ints_ren _ _) | (simp [ints_ren, AV.ren, ABlk.ren, AC.ren, AE.ren, qq]; done)) rfl (by (repeat (first | exact trivial | refine ⟨⟨(by first | exact .inl (by decide) | exact .inr (by decide)), (by first | (refine Or.inl ?_; first | rfl | exact congrArg some (ints_ren _ _).symm | exact congrArg ABlk.own (ints_ren _ _).symm | exact congrArg some (tab64_ren _).symm) | rfl | exact congrArg some (ints_ren _ _).symm | exact congrArg ABlk.own (ints_ren _ _).symm | exact congrArg some (tab64_ren _).symm | exact Or.inr ⟨rfl, rfl⟩)⟩, ?_⟩))) (by first | rfl | exact congrArg AV.g (ints_ren _ _) | (simp [ints_ren, AV.ren, ABlk.ren, AC.ren, AE.ren, qq]; done)) ?_
  (conv => whnf); (repeat ((first | (refine ⟨rfl, ?_⟩) | (refine ⟨trivial, ?_⟩) | (refine Wk.yes ?_) | (refine Wk.no ?_) | (refine Wk.and ?_)); (conv => whnf)))
  refine CallA.ro [0] (.g (gN g)) (given_nil) (by first | rfl | exact congrArg AV.g (ints_ren _ _) | (simp [ints_ren, AV.ren, ABlk.ren, AC.ren, AE.ren, qq]; done)) rfl (by (repeat (first | exact trivial | refine ⟨⟨(by first | exact .inl (by decide) | exact .inr (by decide)), (by first | (refine Or.inl ?_; first | rfl | exact congrArg some (ints_ren _ _).symm | exact congrArg ABlk.own (ints_ren _ _).symm | exact congrArg some (tab64_ren _).symm) | rfl | exact congrArg some (ints_ren _ _).symm | exact congrArg ABlk.own (ints_ren _ _).symm | exact congrArg some (tab64_ren _).symm | exact Or.inr ⟨rfl, rfl⟩)⟩, ?_⟩))) (by first | rfl | exact congrArg AV.g (ints_ren _ _) | (simp [ints_ren, AV.ren, ABlk.ren, AC.ren, AE.ren, qq]; done)) ?_
  (conv => whnf); (repeat ((first | (refine ⟨rfl, ?_⟩) | (refine ⟨trivial, ?_⟩) | (refine Wk.yes ?_) | (refine Wk.no ?_) | (refine Wk.and ?_)); (conv => whnf)))
  refine CallA.ro [0] (.t [.c (.int .i64 C), .c (.int .i64 0)]) (hc) (by first | rfl | exact congrArg AV.g (ints_ren _ _) | (simp [ints_ren, AV.ren, ABlk.ren, AC.ren, AE.ren, qq]; done)) rfl (by (repeat (first | exact trivial | refine ⟨⟨(by first | exact .inl (by decide) | exact .inr (by decide)), (by first | (refine Or.inl ?_; first | rfl | exact congrArg some (ints_ren _ _).symm | exact congrArg ABlk.own (ints_ren _ _).symm | exact congrArg some (tab64_ren _).symm) | rfl | exact congrArg some (ints_ren _ _).symm | exact congrArg ABlk.own (ints_ren _ _).symm | exact congrArg some (tab64_ren _).symm | exact Or.inr ⟨rfl, rfl⟩)⟩, ?_⟩))) (by first | rfl | exact congrArg AV.g (ints_ren _ _) | (simp [ints_ren, AV.ren, ABlk.ren, AC.ren, AE.ren, qq]; done)) ?_
  (conv => whnf); (repeat ((first | (refine ⟨rfl, ?_⟩) | (refine ⟨trivial, ?_⟩) | (refine Wk.yes ?_) | (refine Wk.no ?_) | (refine Wk.and ?_)); (conv => whnf)))
  refine CallA.ro [0] (.c (.int .i64 C)) (hr) (by first | rfl | exact congrArg AV.g (ints_ren _ _) | (simp [ints_ren, AV.ren, ABlk.ren, AC.ren, AE.ren, qq]; done)) rfl (by (repeat (first | exact trivial | refine ⟨⟨(by first | exact .inl (by decide) | exact .inr (by decide)), (by first | (refine Or.inl ?_; first | rfl | exact congrArg some (ints_ren _ _).symm | exact congrArg ABlk.own (ints_ren _ _).symm | exact congrArg some (tab64_ren _).symm) | rfl | exact congrArg some (ints_ren _ _).symm | exact congrArg ABlk.own (ints_ren _ _).symm | exact congrArg some (tab64_ren _).symm | exact Or.inr ⟨rfl, rfl⟩)⟩, ?_⟩))) (by first | rfl | exact congrArg AV.g (ints_ren _ _) | (simp [ints_ren, AV.ren, ABlk.ren, AC.ren, AE.ren, qq]; done)) ?_
  (conv => whnf); (repeat ((first | (refine ⟨rfl, ?_⟩) | (refine ⟨trivial, ?_⟩) | (refine Wk.yes ?_) | (refine Wk.no ?_) | (refine Wk.and ?_)); (conv => whnf)))
  refine ⟨fun _ => ?_, fun h => by simp at h⟩
  (conv => whnf); (repeat ((first | (refine ⟨rfl, ?_⟩) | (refine ⟨trivial, ?_⟩) | (refine Wk.yes ?_) | (refine Wk.no ?_) | (refine Wk.and ?_)); (conv => whnf)))
  refine CallA.ro [] (.c (.bool true)) (awake_spec) (by first | rfl | exact congrArg AV.g (ints_ren _ _) | (simp [ints_ren, AV.ren, ABlk.ren, AC.ren, AE.ren, qq]; done)) rfl (by (repeat (first | exact trivial | refine ⟨⟨(by first | exact .inl (by decide) | exact .inr (by decide)), (by first | (refine Or.inl ?_; first | rfl | exact congrArg some (ints_ren _ _).symm | exact congrArg ABlk.own (ints_ren _ _).symm | exact congrArg some (tab64_ren _).symm) | rfl | exact congrArg some (ints_ren _ _).symm | exact congrArg ABlk.own (ints_ren _ _).symm | exact congrArg some (tab64_ren _).symm | exact Or.inr ⟨rfl, rfl⟩)⟩, ?_⟩))) (by first | rfl | exact congrArg AV.g (ints_ren _ _) | (simp [ints_ren, AV.ren, ABlk.ren, AC.ren, AE.ren, qq]; done)) ?_
  (conv => whnf); (repeat ((first | (refine ⟨rfl, ?_⟩) | (refine ⟨trivial, ?_⟩) | (refine Wk.yes ?_) | (refine Wk.no ?_) | (refine Wk.and ?_)); (conv => whnf)))
  exact AH.Fin.nil [] ⟨rfl, rfl, rfl⟩ (by first | exact trivial | (simp [tupA, hpLt, tmLt, AV.lt, AE.lt, AC.lt, LL_cons, LL_nil, idOk, ABlk.lt, ints_LL, GB, tab64_LL, gC, wB, giC, noneB, gst, tC, pC, gN, gR, rC, rB, gO, gOH, gOK]; done) | (simp [tupA, hpLt, tmLt, AV.lt, AE.lt, AC.lt, LL_cons, LL_nil, idOk, ABlk.lt, ints_LL, GB, tab64_LL, gC, wB, giC, noneB, gst, tC, pC, gN, gR, rC, rB, gO, gOH, gOK, rdn, wrn]; done)) trivial trivial rfl (by simp [GB])
theorem counts_row (x : Rw) (h4 : x.ws.length ≤ 9223372036854775807) (hws : ¬ (tame x 8 10).ws = []) : FDet Tryd.prog 4 [.g (rC x 0)] [(0, rB x), (100002, .ro tab64), (100000, noneB)] 1 (.c (.bool true)) [] 1 := by
  have hgm := tame_game x (pl := 8) (most := 10) (by omega) (by omega) (by omega)
  have heq := cnt_eq hgm.ok
  have hgl := hgm.ok.len
  have hpos := List.length_pos_iff.2 hws
  have ht := tame_rs (x := x) (pl := 8) (most := 10) (by omega) (by omega) (by omega) h4 hpos
  have hc := count_spec hgm
  have hr := countR_spec hgm.ok
  generalize tame x 8 10 = g at *
  rw [← heq] at hr
  generalize cntT g (2 ^ g.ws.length) = C at *
  have hgv := given_rs hpos hgl
  refine FSpec.of_body tok true Tryd.func4 rfl (by kernel_rfl) (by decide) (by simp [tupA, hpLt, tmLt, AV.lt, AE.lt, AC.lt, LL_cons, LL_nil, idOk, ABlk.lt, ints_LL, GB, tab64_LL, gC, wB, giC, noneB, gst, tC, pC, gN, gR, rC, rB, gO, gOH, gOK]) (by simp [tupA, hpLt, tmLt, AV.lt, AE.lt, AC.lt, LL_cons, LL_nil, idOk, ABlk.lt, ints_LL, GB, tab64_LL, gC, wB, giC, noneB, gst, tC, pC, gN, gR, rC, rB, gO, gOH, gOK]) (by show 1 ≤ _; decide) ?_
  (conv => whnf); (repeat ((first | (refine ⟨rfl, ?_⟩) | (refine ⟨trivial, ?_⟩) | (refine Wk.yes ?_) | (refine Wk.no ?_) | (refine Wk.and ?_)); (conv => whnf)))
  refine CallA.det [0] (.g (gC g 2)) ([(1, .own (rC x 0)), (0, rB x), (100002, .ro tab64), (100000, noneB), (2, .row 60 2 (ints (fl g.ws)))]) (ht) (by first | rfl | exact congrArg AV.g (ints_ren _ _) | (simp [ints_ren, AV.ren, ABlk.ren, AC.ren, AE.ren, qq]; done)) rfl (by (repeat (first | exact trivial | refine ⟨⟨(by first | exact .inl (by decide) | exact .inr (by decide)), (by first | (refine Or.inl ?_; first | rfl | exact congrArg some (ints_ren _ _).symm | exact congrArg ABlk.own (ints_ren _ _).symm | exact congrArg some (tab64_ren _).symm) | rfl | exact congrArg some (ints_ren _ _).symm | exact congrArg ABlk.own (ints_ren _ _).symm | exact congrArg some (tab64_ren _).symm | exact Or.inr ⟨rfl, rfl⟩)⟩, ?_⟩))) (by first | rfl | exact congrArg AV.g (ints_ren _ _) | (simp [ints_ren, AV.ren, ABlk.ren, AC.ren, AE.ren, qq]; done)) (by first | rfl | (simp [behind, gone, lk, up, del, qq, ABlk.wr, GB, ints_ren, AV.ren, ABlk.ren, AC.ren, AE.ren]; done) | (simp [behind, gone, lk, up, del, qq, ABlk.wr, GB, ints_ren, AV.ren, ABlk.ren, AC.ren, AE.ren]; rfl)) ?_
  (conv => whnf); (repeat ((first | (refine ⟨rfl, ?_⟩) | (refine ⟨trivial, ?_⟩) | (refine Wk.yes ?_) | (refine Wk.no ?_) | (refine Wk.and ?_)); (conv => whnf)))
  refine CallA.det [2] (.g (gC g 4)) ([(3, .own (gC g 2)), (1, .own (rC x 0)), (0, rB x), (100002, .ro tab64), (100000, noneB), (2, .row 60 2 (ints (fl g.ws))), (4, .row 60 2 (ints (fl g.ws)))]) (hgv) (by first | rfl | exact congrArg AV.g (ints_ren _ _) | (simp [ints_ren, AV.ren, ABlk.ren, AC.ren, AE.ren, qq]; done)) rfl (by (repeat (first | exact trivial | refine ⟨⟨(by first | exact .inl (by decide) | exact .inr (by decide)), (by first | (refine Or.inl ?_; first | rfl | exact congrArg some (ints_ren _ _).symm | exact congrArg ABlk.own (ints_ren _ _).symm | exact congrArg some (tab64_ren _).symm) | rfl | exact congrArg some (ints_ren _ _).symm | exact congrArg ABlk.own (ints_ren _ _).symm | exact congrArg some (tab64_ren _).symm | exact Or.inr ⟨rfl, rfl⟩)⟩, ?_⟩))) (by first | rfl | exact congrArg AV.g (ints_ren _ _) | (simp [ints_ren, AV.ren, ABlk.ren, AC.ren, AE.ren, qq]; done)) (by first | rfl | (simp [behind, gone, lk, up, del, qq, ABlk.wr, GB, ints_ren, AV.ren, ABlk.ren, AC.ren, AE.ren]; done) | (simp [behind, gone, lk, up, del, qq, ABlk.wr, GB, ints_ren, AV.ren, ABlk.ren, AC.ren, AE.ren]; rfl)) ?_
  (conv => whnf); (repeat ((first | (refine ⟨rfl, ?_⟩) | (refine ⟨trivial, ?_⟩) | (refine Wk.yes ?_) | (refine Wk.no ?_) | (refine Wk.and ?_)); (conv => whnf)))
  refine CallA.ro [4] (.t [.c (.int .i64 C), .c (.int .i64 0)]) (hc) (by first | rfl | exact congrArg AV.g (ints_ren _ _) | (simp [ints_ren, AV.ren, ABlk.ren, AC.ren, AE.ren, qq]; done)) rfl (by (repeat (first | exact trivial | refine ⟨⟨(by first | exact .inl (by decide) | exact .inr (by decide)), (by first | (refine Or.inl ?_; first | rfl | exact congrArg some (ints_ren _ _).symm | exact congrArg ABlk.own (ints_ren _ _).symm | exact congrArg some (tab64_ren _).symm) | rfl | exact congrArg some (ints_ren _ _).symm | exact congrArg ABlk.own (ints_ren _ _).symm | exact congrArg some (tab64_ren _).symm | exact Or.inr ⟨rfl, rfl⟩)⟩, ?_⟩))) (by first | rfl | exact congrArg AV.g (ints_ren _ _) | (simp [ints_ren, AV.ren, ABlk.ren, AC.ren, AE.ren, qq]; done)) ?_
  (conv => whnf); (repeat ((first | (refine ⟨rfl, ?_⟩) | (refine ⟨trivial, ?_⟩) | (refine Wk.yes ?_) | (refine Wk.no ?_) | (refine Wk.and ?_)); (conv => whnf)))
  refine CallA.ro [2] (.c (.int .i64 C)) (hr) (by first | rfl | exact congrArg AV.g (ints_ren _ _) | (simp [ints_ren, AV.ren, ABlk.ren, AC.ren, AE.ren, qq]; done)) rfl (by (repeat (first | exact trivial | refine ⟨⟨(by first | exact .inl (by decide) | exact .inr (by decide)), (by first | (refine Or.inl ?_; first | rfl | exact congrArg some (ints_ren _ _).symm | exact congrArg ABlk.own (ints_ren _ _).symm | exact congrArg some (tab64_ren _).symm) | rfl | exact congrArg some (ints_ren _ _).symm | exact congrArg ABlk.own (ints_ren _ _).symm | exact congrArg some (tab64_ren _).symm | exact Or.inr ⟨rfl, rfl⟩)⟩, ?_⟩))) (by first | rfl | exact congrArg AV.g (ints_ren _ _) | (simp [ints_ren, AV.ren, ABlk.ren, AC.ren, AE.ren, qq]; done)) ?_
  (conv => whnf); (repeat ((first | (refine ⟨rfl, ?_⟩) | (refine ⟨trivial, ?_⟩) | (refine Wk.yes ?_) | (refine Wk.no ?_) | (refine Wk.and ?_)); (conv => whnf)))
  refine ⟨fun _ => ?_, fun h => by simp at h⟩
  (conv => whnf); (repeat ((first | (refine ⟨rfl, ?_⟩) | (refine ⟨trivial, ?_⟩) | (refine Wk.yes ?_) | (refine Wk.no ?_) | (refine Wk.and ?_)); (conv => whnf)))
  refine CallA.ro [] (.c (.bool true)) (awake_spec) (by first | rfl | exact congrArg AV.g (ints_ren _ _) | (simp [ints_ren, AV.ren, ABlk.ren, AC.ren, AE.ren, qq]; done)) rfl (by (repeat (first | exact trivial | refine ⟨⟨(by first | exact .inl (by decide) | exact .inr (by decide)), (by first | (refine Or.inl ?_; first | rfl | exact congrArg some (ints_ren _ _).symm | exact congrArg ABlk.own (ints_ren _ _).symm | exact congrArg some (tab64_ren _).symm) | rfl | exact congrArg some (ints_ren _ _).symm | exact congrArg ABlk.own (ints_ren _ _).symm | exact congrArg some (tab64_ren _).symm | exact Or.inr ⟨rfl, rfl⟩)⟩, ?_⟩))) (by first | rfl | exact congrArg AV.g (ints_ren _ _) | (simp [ints_ren, AV.ren, ABlk.ren, AC.ren, AE.ren, qq]; done)) ?_
  (conv => whnf); (repeat ((first | (refine ⟨rfl, ?_⟩) | (refine ⟨trivial, ?_⟩) | (refine Wk.yes ?_) | (refine Wk.no ?_) | (refine Wk.and ?_)); (conv => whnf)))
  exact AH.Fin.nil [] ⟨rfl, rfl, rfl⟩ (by first | exact trivial | (simp [tupA, hpLt, tmLt, AV.lt, AE.lt, AC.lt, LL_cons, LL_nil, idOk, ABlk.lt, ints_LL, GB, tab64_LL, gC, wB, giC, noneB, gst, tC, pC, gN, gR, rC, rB, gO, gOH, gOK]; done) | (simp [tupA, hpLt, tmLt, AV.lt, AE.lt, AC.lt, LL_cons, LL_nil, idOk, ABlk.lt, ints_LL, GB, tab64_LL, gC, wB, giC, noneB, gst, tC, pC, gN, gR, rC, rB, gO, gOH, gOK, rdn, wrn]; done)) trivial trivial rfl (by simp [GB])
end Go.Proofs.YtfphkpdobbffeaaDoor

/-
  From a row's condition to the contracts: a game as the row reads it, and the tables.
-/
namespace Go.Proofs.YtfphkpdobbffeaaDoor
open Go Go.AH Go.ChangeShapes Go.WideShapes Go.ChangeAt Go.RowKit
set_option maxRecDepth 100000

theorem cells60 : Tryd.prog.cellsOf 60 = 2 := by kernel_rfl
theorem cells3 : Tryd.prog.cellsOf 3 = 1 := by kernel_rfl
theorem cells22 : Tryd.prog.cellsOf 22 = 1 := by kernel_rfl
theorem cells24 : Tryd.prog.cellsOf 24 = 4 := by kernel_rfl
theorem laidOut : laidOutB Tryd.prog = true := by kernel_rfl

theorem cell_inv {W : World} {a : Addr} {v : Value} (h : W.cell? a = some v) : ∃ c t z, W.heap[a.block]? = some (.cells c t z) ∧ a.spot = none ∧ c[a.off]? = some v := by
  unfold World.cell? at h
  split at h
  · rename_i c t z hh
    split at h
    · cases h
    · rename_i hs
      exact ⟨c, t, z, hh, by simpa using hs, h⟩
  · cases h
section
variable {H : Type} {enc : TypeId × Value → H} {W : World} {base : Nat} {spare : Nat → Bool} {held : Bool}
theorem one_of_take {cs : List Value} {i : Nat} {v : Value} (h : (cs.drop i).take 1 = [v]) : cs[i]? = some v := by
  have := congrArg (·[0]?) h
  simpa [List.getElem?_take, List.getElem?_drop] using this
theorem trod_pair {fuel : Nat} {cs : List Value} {x : DataW H × List MemPlace} (h : DataW.trod enc Tryd.prog W base spare held fuel 60 cs = some x) : ∃ z0 z1, cs = [.int .i64 z0, .int .i64 z1] := by
  cases fuel with
  | zero => simp [DataW.trod] at h
  | succ fuel =>
    simp only [DataW.trod, Tryd.underlying60, cells60, cells3, Nat.mul_one] at h
    split at h
    · rename_i hl
      obtain ⟨xs, hm, _⟩ := Option.map_eq_some_iff.1 h
      obtain ⟨b0, _, hf0⟩ := Lib.mapM_at hm 0 0 rfl
      obtain ⟨b1, _, hf1⟩ := Lib.mapM_at hm 1 1 rfl
      obtain ⟨z0, hc0, _⟩ := DataW.trod_int Tryd.underlying3 hf0
      obtain ⟨z1, hc1, _⟩ := DataW.trod_int Tryd.underlying3 hf1
      refine ⟨z0, z1, ?_⟩
      match cs, hl with
      | [u, v], _ =>
        simp at hc0 hc1
        rw [hc0, hc1]
    · cases h
theorem choose_ws {len : Nat} {p : Nat → Int × Int → Prop} (h : ∀ i, i < len → ∃ w, p i w) : ∃ ws : List (Int × Int), ws.length = len ∧ ∀ i, i < len → p i (ws.getD i (0, 0)) := by
  induction len with
  | zero => exact ⟨[], rfl, fun i hi => by omega⟩
  | succ n ih =>
    obtain ⟨ws, h1, h2⟩ := ih fun i hi => h i (by omega)
    obtain ⟨w, hw⟩ := h n (by omega)
    refine ⟨ws ++ [w], by simp [h1], fun i hi => ?_⟩
    by_cases e : i < n
    · rw [List.getD_eq_getElem?_getD, List.getElem?_append_left (by omega), ← List.getD_eq_getElem?_getD]; exact h2 i e
    · obtain rfl : i = n := by omega
      rw [List.getD_eq_getElem?_getD, List.getElem?_append_right (by omega)]
      simpa [h1] using hw
/-- What a game reads as. -/
theorem open_game {v : Value} {d : DataW H} {ps : List MemPlace} (hv : Value.okWide Tryd.prog W .any base 24 v) (h : DataW.Trod enc Tryd.prog W 0 spare held 24 v d ps) :
    ∃ (x : Rw) (sv : Value), v = .agg #[.int .i64 x.n, .int .i64 x.s, .int .i64 x.t, sv] ∧ x.ws.length ≤ 9223372036854775807 ∧
      ((sv = .slice none 0 0 ∧ x.ws = []) ∨ ∃ a c, sv = .slice (some a) x.ws.length c ∧ x.ws.length ≤ c ∧ ∀ i, i < x.ws.length → W.cell? (a.add (i * 2)) = some (.int .i64 (x.ws.getD i (0, 0)).1) ∧ W.cell? (a.add (i * 2 + 1)) = some (.int .i64 (x.ws.getD i (0, 0)).2)) := by
  obtain ⟨fuel, h⟩ := h
  obtain ⟨cs, rfl, hsz, _⟩ : ∃ cs, v = .agg cs ∧ cs.size = Tryd.prog.cellsOf 24 ∧ Row.okWide Tryd.prog W .any base 24 cs := by
    unfold Value.okWide at hv
    rw [Tryd.underlying24] at hv
    exact hv
  obtain ⟨xs, n, _, _, hl, hlen, hf⟩ := DataW.trod_struct Tryd.underlying24 h
  rw [cells24] at hsz
  have f0 : DataW.trod enc Tryd.prog W 0 spare held n 3 (List.take (Tryd.prog.cellsOf 3) (List.drop 0 (Value.agg cs).cells.toList)) = xs[0]? := hf 0 _ rfl
  rw [cells3] at f0
  have f1 : DataW.trod enc Tryd.prog W 0 spare held n 3 (List.take (Tryd.prog.cellsOf 3) (List.drop 1 (Value.agg cs).cells.toList)) = xs[1]? := hf 1 _ rfl
  rw [cells3] at f1
  have f2 : DataW.trod enc Tryd.prog W 0 spare held n 3 (List.take (Tryd.prog.cellsOf 3) (List.drop 2 (Value.agg cs).cells.toList)) = xs[2]? := hf 2 _ rfl
  rw [cells3] at f2
  have f3 : DataW.trod enc Tryd.prog W 0 spare held n 22 (List.take (Tryd.prog.cellsOf 22) (List.drop 3 (Value.agg cs).cells.toList)) = xs[3]? := hf 3 _ rfl
  rw [cells22] at f3
  have ex : ∀ i, i < 4 → ∃ y, xs[i]? = some y := fun i hi => ⟨xs[i]'(by rw [hlen]; exact hi), List.getElem?_eq_getElem _⟩
  obtain ⟨y0, e0⟩ := ex 0 (by omega)
  obtain ⟨y1, e1⟩ := ex 1 (by omega)
  obtain ⟨y2, e2⟩ := ex 2 (by omega)
  obtain ⟨y3, e3⟩ := ex 3 (by omega)
  rw [e0] at f0; rw [e1] at f1; rw [e2] at f2; rw [e3] at f3
  obtain ⟨n0, hc0, _⟩ := DataW.trod_int Tryd.underlying3 f0
  obtain ⟨n1, hc1, _⟩ := DataW.trod_int Tryd.underlying3 f1
  obtain ⟨n2, hc2, _⟩ := DataW.trod_int Tryd.underlying3 f2
  have hcs : ∀ sv, (List.take 1 (List.drop 3 (Value.agg cs).cells.toList)) = [sv] → Value.agg cs = .agg #[.int .i64 n0, .int .i64 n1, .int .i64 n2, sv] := fun sv h3 => by
    have g0 := one_of_take hc0
    have g1 := one_of_take hc1
    have g2 := one_of_take hc2
    have g3 := one_of_take h3
    congr 1
    apply Array.ext'
    match hq : cs.toList, (show cs.toList.length = 4 by simpa using hsz) with
    | [a, b, c, d], _ =>
      simp [Value.cells, hq] at g0 g1 g2 g3
      simp [g0, g1, g2, g3]
  rcases DataW.trod_slice Tryd.underlying22 f3 with ⟨h3, _⟩ | ⟨a, len, cap, elems, rest, m, _, h3, _, _, hlc, hcm, hel, hall, _⟩
  · exact ⟨⟨n0, n1, n2, []⟩, _, hcs _ h3, by simp, .inl ⟨rfl, rfl⟩⟩
  · have hw : ∀ i, i < len → ∃ w : Int × Int, W.cell? (a.add (i * 2)) = some (.int .i64 w.1) ∧ W.cell? (a.add (i * 2 + 1)) = some (.int .i64 w.2) := fun i hi => by
      have h4 := hall i hi
      rw [cells60, List.getElem?_eq_getElem (by omega)] at h4
      obtain ⟨cs', g1, g2⟩ := Option.bind_eq_some_iff.1 h4
      obtain ⟨z0, z1, rfl⟩ := trod_pair g2
      obtain ⟨_, _, g3⟩ := World.cells?_some g1
      have k0 := g3 0 (by omega)
      have k1 := g3 1 (by omega)
      rw [Addr.add_add] at k0 k1
      exact ⟨(z0, z1), k0, k1⟩
    obtain ⟨ws, hws, hp⟩ := choose_ws hw
    have hcap : cap ≤ 9223372036854775807 := hcm
    exact ⟨⟨n0, n1, n2, ws⟩, _, hcs _ h3, by show ws.length ≤ _; omega, .inr ⟨a, cap, by rw [hws], by show ws.length ≤ cap; omega, fun i hi => hp i (by rw [← hws]; exact hi)⟩⟩
end

theorem add_cell {W : World} {a : Addr} {n : Nat} {v : Value} (h : W.cell? (a.add n) = some v) : ∃ c t z, W.heap[a.block]? = some (.cells c t z) ∧ c[a.off + n]? = some v := by
  obtain ⟨c, t, z, h1, _, h3⟩ := cell_inv h
  unfold Addr.add at h1 h3
  split at h1
  · rename_i e; subst e
    rw [if_pos rfl] at h3
    exact ⟨c, t, z, h1, h3⟩
  · rename_i e
    rw [if_neg e] at h3
    exact ⟨c, t, z, h1, h3⟩
/-- The caller's numbers: block 0 is the game's wires. -/
def renG (b off : Nat) : Ren := ⟨fun i => if i < GB then b else i - GB, fun i => if i < GB then off else 0, fun i => if i < GB then 0 else 0⟩
theorem renG_ok (b off : Nat) : (renG b off).ok := ⟨fun i => by show (if GB + i < GB then b else GB + i - GB) = i; rw [if_neg (by omega)]; omega, fun i => by show (if GB + i < GB then off else 0) = 0; rw [if_neg (by omega)], fun i => by simp [renG]⟩
theorem flI_all (x : Rw) {p : Nat → Int → Prop} (h : ∀ i, i < x.ws.length → p (i * 2) (x.ws.getD i (0, 0)).1 ∧ p (i * 2 + 1) (x.ws.getD i (0, 0)).2) : ∀ i, i < (flI x.ws).length → p i ((flI x.ws).getD i 0) := fun i hi => by
  rw [flI_len] at hi
  obtain ⟨h0, h1⟩ := h (i / 2) (by omega)
  obtain ⟨g0, g1⟩ := flI_get x.ws (i / 2)
  by_cases e : i % 2 = 0
  · rw [show i / 2 * 2 = i by omega] at g0 h0
    rw [g0]; exact h0
  · rw [show i / 2 * 2 + 1 = i by omega] at g1 h1
    rw [g1]; exact h1
theorem conL_ints {R : Ren} {xs : List Int} {c : Array Value} {o : Nat} (h : ∀ i, i < xs.length → c[o + i]? = some (.int .i64 (xs.getD i 0))) : conL R (ints xs) c o := fun i y hi => by
  have hl : i < xs.length := by have := (List.getElem?_eq_some_iff.1 hi).1; rwa [ints_len] at this
  refine ⟨_, h i hl, ?_⟩
  have e : (ints xs).getD i (.int .i64 0) = .int .i64 (xs.getD i 0) := ints_getD _ _ _
  rw [List.getD_eq_getElem?_getD, hi] at e
  simp at e
  rw [e]; rfl
theorem spot0 {W : World} {a : Addr} {v : Value} (h : W.cell? (a.add (0 * 2)) = some v) : a.spot = none := by
  have e : a.add (0 * 2) = a := by simp [Addr.add]
  rw [e] at h
  obtain ⟨_, _, _, _, h2, _⟩ := cell_inv h
  exact h2
/-- The world as the contracts want it. -/
theorem rel_game {W : World} {x : Rw} {sv : Value} (hsv : (sv = .slice none 0 0 ∧ x.ws = []) ∨ ∃ a c, sv = .slice (some a) x.ws.length c ∧ x.ws.length ≤ c ∧ ∀ i, i < x.ws.length → W.cell? (a.add (i * 2)) = some (.int .i64 (x.ws.getD i (0, 0)).1) ∧ W.cell? (a.add (i * 2 + 1)) = some (.int .i64 (x.ws.getD i (0, 0)).2))
    (h64 : ∃ c t z, W.heap[2]? = some (.cells c t z) ∧ ∀ R : Ren, conL R tab64 c 0) (hno : ∃ c t z, W.heap[0]? = some (.cells c t z) ∧ ∀ R : Ren, conL R [.int .i64 (-1), .int .i64 (-1)] c 0) :
    ∃ b off, HRel (renG b off) [(0, rB x), (100002, .ro tab64), (100000, noneB)] W ∧ conC (renG b off) (.rs 0 0 x.ws.length) sv := by
  have fin : ∀ b off c t z, W.heap[b]? = some (.cells c t z) → conL (renG b off) (ints (flI x.ws)) c off → HRel (renG b off) [(0, rB x), (100002, .ro tab64), (100000, noneB)] W := fun b off c t z hh hc => by
    refine ⟨fun i bl hi => ?_, fun i j bl cl hi hj hne hw => ?_⟩
    · simp only [lk] at hi
      split at hi
      · rename_i e; subst e; injection hi with hi; subst hi
        exact ⟨c, t, z, hh, hc⟩
      · split at hi
        · rename_i e; subst e; injection hi with hi; subst hi
          obtain ⟨c, t, z, h1, h2⟩ := h64
          exact ⟨c, t, z, h1, h2 _⟩
        · split at hi
          · rename_i e; subst e; injection hi with hi; subst hi
            obtain ⟨c, t, z, h1, h2⟩ := hno
            exact ⟨c, t, z, h1, h2 _⟩
          · cases hi
    · simp only [lk] at hi
      split at hi
      · injection hi with hi; subst hi; cases hw
      · split at hi
        · injection hi with hi; subst hi; cases hw
        · split at hi
          · injection hi with hi; subst hi; cases hw
          · cases hi
  have none0 : x.ws = [] → ∀ R : Ren, ∀ c o, conL R (ints (flI x.ws)) c o := fun h R c o i y hi => by rw [h] at hi; simp [flI, ints] at hi
  rcases hsv with ⟨rfl, hws⟩ | ⟨a, cap, rfl, hcap, hcell⟩
  · obtain ⟨c, t, z, h1, _⟩ := hno
    exact ⟨0, 0, fin 0 0 c t z h1 (none0 hws _ _ _), .inr ⟨by rw [hws]; rfl, rfl⟩⟩
  · by_cases h0 : x.ws.length = 0
    · obtain ⟨c, t, z, h1, _⟩ := hno
      exact ⟨0, 0, fin 0 0 c t z h1 (none0 (List.length_eq_zero_iff.1 h0) _ _ _), .inl ⟨a, cap, rfl, fun h => by omega, hcap⟩⟩
    · have hs := spot0 (hcell 0 (by omega)).1
      obtain ⟨c, t, z, hh, _⟩ := add_cell (hcell 0 (by omega)).1
      have get : ∀ n v, W.cell? (a.add n) = some v → c[a.off + n]? = some v := fun n v h => by
        obtain ⟨c', t', z', hh', hv⟩ := add_cell h
        rw [hh] at hh'
        injection hh' with hh'
        injection hh' with e1 e2 e3
        rw [e1]; exact hv
      refine ⟨a.block, a.off, fin _ _ c t z hh (conL_ints (flI_all x (p := fun i v => c[a.off + i]? = some (.int .i64 v)) fun i hi => ⟨get _ _ (hcell i hi).1, get _ _ (hcell i hi).2⟩)), .inl ⟨a, cap, rfl, fun _ => ?_, hcap⟩⟩
      obtain ⟨b, o, sp⟩ := a
      simp only at hs
      subst hs
      rfl
theorem gTab32 : Tryd.prog.globalNamed "math/bits.deBruijn32tab" = some 1 := by kernel_rfl
theorem gTab64 : Tryd.prog.globalNamed "math/bits.deBruijn64tab" = some 2 := by kernel_rfl
theorem gNone : Tryd.prog.globalNamed "bibelot/switches.none" = some 0 := by kernel_rfl
end Go.Proofs.YtfphkpdobbffeaaDoor

/-
  The tables, and the statement SwitchCounts.
-/
namespace Go.Proofs.YtfphkpdobbffeaaDoor
open Go Go.AH Go.ChangeShapes Go.WideShapes Go.ChangeAt Go.RowKit
set_option maxRecDepth 100000

theorem own : ownKnob Tryd.prog.godebug = none := by kernel_rfl
theorem gTab64Type : (Tryd.prog.globals[2]?).map (·.type) = some 162 := by kernel_rfl
theorem gNoneType : (Tryd.prog.globals[0]?).map (·.type) = some 91 := by kernel_rfl
theorem cells162 : Tryd.prog.cellsOf 162 = 64 := by kernel_rfl
theorem cells91 : Tryd.prog.cellsOf 91 = 2 := by kernel_rfl
theorem cells5 : Tryd.prog.cellsOf 5 = 1 := by kernel_rfl
def lays : List (String × DataW Unit) := [("math/bits.deBruijn32tab", Rows.laid_math_bits_deBruijn32tab), ("math/bits.deBruijn64tab", Rows.laid_math_bits_deBruijn64tab), ("bibelot/switches.none", Rows.laid_bibelot_switches_none)]
theorem tab64_is {W : World} (h : laidMet Tryd.prog lays W) : Lib.TabIs Tryd.prog W "math/bits.deBruijn64tab" .u8 tabI :=
  Lib.tabIs_of_head (rest := [("bibelot/switches.none", Rows.laid_bibelot_switches_none)]) gTab64 gTab64Type Tryd.underlying162 Tryd.underlying5 cells5 cells162 (laidMet.tail h)
theorem none_is {W : World} (h : laidMet Tryd.prog lays W) : Lib.TabIs Tryd.prog W "bibelot/switches.none" .i64 [-1, -1] := by
  obtain ⟨ps, ⟨g', t', cs, fuel, p, q, hg', ht', hvar, hd, _, _⟩, _⟩ := laidMet.tail (laidMet.tail h)
  obtain rfl := Option.some.inj (gNone.symm.trans hg')
  obtain rfl := Option.some.inj (gNoneType.symm.trans ht')
  obtain ⟨y0, y1, n, he, hl, h0, h1⟩ := trod_struct2 Tryd.underlying91 hd
  have h0 : DataW.trod _ Tryd.prog W _ _ _ n 3 (List.take (Tryd.prog.cellsOf 3) (List.drop 0 cs.toList)) = some y0 := h0
  have h1 : DataW.trod _ Tryd.prog W _ _ _ n 3 (List.take (Tryd.prog.cellsOf 3) (List.drop 1 cs.toList)) = some y1 := h1
  rw [cells3] at h0 h1
  obtain ⟨z0, c0, e0, _⟩ := DataW.trod_int Tryd.underlying3 h0
  obtain ⟨z1, c1, e1, _⟩ := DataW.trod_int Tryd.underlying3 h1
  rw [cells91] at hl
  subst e0; subst e1
  have he : (DataW.agg [.lit (.int .i64 (-1)), .lit (.int .i64 (-1))] : DataW Unit) = .agg [.lit (.int .i64 z0), .lit (.int .i64 z1)] := congrArg Prod.fst he
  simp at he
  obtain ⟨rfl, rfl⟩ := he
  unfold Lib.TabIs
  rw [hvar]
  congr 1
  apply Array.ext'
  match hq : cs.toList, hl with
  | [u, v], _ =>
    rw [hq] at c0 c1
    simp at c0 c1
    simp [c0, c1]
theorem tab_cells {W : World} {g : Nat} {k : IntKind} {zs : List Int} (hl : 0 < zs.length) (h : ∀ i, i < zs.length → W.cell? ⟨g, i, none⟩ = some (.int k (zs.getD i 0))) : ∃ c t z, W.heap[g]? = some (.cells c t z) ∧ ∀ R : Ren, conL R (zs.map (AC.int k)) c 0 := by
  obtain ⟨c, t, z, hh, _, _⟩ := cell_inv (h 0 hl)
  refine ⟨c, t, z, hh, fun R i x hx => ?_⟩
  have hi : i < zs.length := by have := (List.getElem?_eq_some_iff.1 hx).1; simpa using this
  obtain ⟨c', t', z', hh', _, hv⟩ := cell_inv (h i hi)
  rw [show (⟨g, 0, none⟩ : Addr).block = (⟨g, i, none⟩ : Addr).block from rfl, hh'] at hh
  injection hh with hh
  injection hh with e1 _ _
  refine ⟨.int k (zs.getD i 0), by rw [Nat.zero_add, ← e1]; exact hv, ?_⟩
  simp only [List.getElem?_map] at hx
  rw [List.getD_eq_getElem?_getD]
  obtain ⟨y, hy, rfl⟩ := Option.map_eq_some_iff.1 hx
  rw [hy]; rfl
theorem tab64_cells {W : World} (h : laidMet Tryd.prog lays W) : ∃ c t z, W.heap[2]? = some (.cells c t z) ∧ ∀ R : Ren, conL R tab64 c 0 :=
  tab_cells (zs := tabI) (by decide) fun i hi => (tab64_is h).cell gTab64 i hi
theorem none_cells {W : World} (h : laidMet Tryd.prog lays W) : ∃ c t z, W.heap[0]? = some (.cells c t z) ∧ ∀ R : Ren, conL R [.int .i64 (-1), .int .i64 (-1)] c 0 :=
  tab_cells (zs := [-1, -1]) (by decide) fun i hi => (none_is h).cell gNone i hi

/-- A law of one game: from its contract to its calls. -/
theorem calls_game {f : FuncId} {W : World} {x : Rw} {sv : Value} (hc : FDet Tryd.prog f [.g (rC x 0)] [(0, rB x), (100002, .ro tab64), (100000, noneB)] 1 (.c (.bool true)) [] 1)
    (hsv : (sv = .slice none 0 0 ∧ x.ws = []) ∨ ∃ a c, sv = .slice (some a) x.ws.length c ∧ x.ws.length ≤ c ∧ ∀ i, i < x.ws.length → W.cell? (a.add (i * 2)) = some (.int .i64 (x.ws.getD i (0, 0)).1) ∧ W.cell? (a.add (i * 2 + 1)) = some (.int .i64 (x.ws.getD i (0, 0)).2))
    (hL : laidMet Tryd.prog lays W) : Calls Tryd.prog f #[.agg #[.int .i64 x.n, .int .i64 x.s, .int .i64 x.t, sv]] W fun e W' => e = .returned (.bool true) ∧ Below W.heap.size W W' := by
  obtain ⟨b, off, hR, hs⟩ := rel_game hsv (tab64_cells hL) (none_cells hL)
  refine (hc.run W (renG b off) _ (renG_ok _ _) rfl (fun i v hi => ?_) hR).mono ?_
  · match i, hi with
    | 0, hi =>
      injection hi with hi
      subst hi
      refine ⟨_, rfl, _, rfl, rfl, fun j y hj => ?_⟩
      match j, hj with
      | 0, hj => injection hj with hj; subst hj; exact ⟨_, rfl, rfl⟩
      | 1, hj => injection hj with hj; subst hj; exact ⟨_, rfl, rfl⟩
      | 2, hj => injection hj with hj; subst hj; exact ⟨_, rfl, rfl⟩
      | 3, hj => injection hj with hj; subst hj; exact ⟨_, rfl, hs⟩
      | _ + 4, hj => simp [rC] at hj
    | _ + 1, hi => simp at hi
  · rintro e w' ⟨u, r, hp', k', R', h1, ⟨h2, _, _⟩, _, _, _, h6, _, _, _, _, _, h12⟩
    subst h2
    have hu : u = .bool true := h6
    subst hu
    refine ⟨h1, (h12.mono ?_).below⟩
    rintro j ⟨i, bl, g1, g2, _⟩
    simp only [lk] at g1
    split at g1
    · injection g1 with g1; subst g1; cases g2
    · split at g1
      · injection g1 with g1; subst g1; cases g2
      · split at g1
        · injection g1 with g1; subst g1; cases g2
        · cases g1
def lay (vs : Array Value) : Obj → Obj
  | .cells _ t z => .cells vs t z
  | o => o
/-- A world for the witness: the settled one, with the tables as they are laid. -/
noncomputable def laidWorld (os : Os) : World :=
  { World.holding Tryd.prog os ⟨#[], #[], []⟩ with heap := (((World.holding Tryd.prog os ⟨#[], #[], []⟩).heap.modify 0 (lay #[.int .i64 (-1), .int .i64 (-1)])).modify 1 (lay ((([0, 1, 28, 2, 29, 14, 24, 3, 30, 22, 20, 15, 25, 17, 4, 8, 31, 27, 13, 23, 21, 19, 16, 7, 26, 12, 18, 6, 11, 5, 10, 9] : List Int).map (Value.int .u8)).toArray))).modify 2 (lay ((tabI.map (Value.int .u8)).toArray)) }
def wit : Value := .agg #[.int .i64 0, .int .i64 0, .int .i64 0, .slice none 0 0]
theorem laid_met (os : Os) : laidMet Tryd.prog lays ((laidWorld os).forCall (fun _ _ => 0) ⟨#[], #[wit], []⟩).memory :=
  laidMet_of_run' 8 (by kernel_rfl) (by kernel_rfl)
end Go.Proofs.YtfphkpdobbffeaaDoor

/-
  Laws of a game and of prime values; the tables of five.
-/
namespace Go.Proofs.YtfphkpdobbffeaaDoor
open Go Go.AH Go.ChangeShapes Go.WideShapes Go.ChangeAt Go.RowKit
set_option maxRecDepth 100000

def lays5 : List (String × DataW Unit) := [("math/bits.deBruijn32tab", Rows.laid_math_bits_deBruijn32tab), ("math/bits.deBruijn64tab", Rows.laid_math_bits_deBruijn64tab), ("unicode/utf8.acceptRanges", Rows.laid_unicode_utf8_acceptRanges), ("bibelot/switches.none", Rows.laid_bibelot_switches_none), ("unicode/utf8.first", Rows.laid_unicode_utf8_first)]
theorem none_of {W : World} {rest : List (String × DataW Unit)} (h : laidMet Tryd.prog (("bibelot/switches.none", Rows.laid_bibelot_switches_none) :: rest) W) : Lib.TabIs Tryd.prog W "bibelot/switches.none" .i64 [-1, -1] := by
  obtain ⟨ps, ⟨g', t', cs, fuel, p, q, hg', ht', hvar, hd, _, _⟩, _⟩ := h
  obtain rfl := Option.some.inj (gNone.symm.trans hg')
  obtain rfl := Option.some.inj (gNoneType.symm.trans ht')
  obtain ⟨y0, y1, n, he, hl, h0, h1⟩ := trod_struct2 Tryd.underlying91 hd
  have h0 : DataW.trod _ Tryd.prog W _ _ _ n 3 (List.take (Tryd.prog.cellsOf 3) (List.drop 0 cs.toList)) = some y0 := h0
  have h1 : DataW.trod _ Tryd.prog W _ _ _ n 3 (List.take (Tryd.prog.cellsOf 3) (List.drop 1 cs.toList)) = some y1 := h1
  rw [cells3] at h0 h1
  obtain ⟨z0, c0, e0, _⟩ := DataW.trod_int Tryd.underlying3 h0
  obtain ⟨z1, c1, e1, _⟩ := DataW.trod_int Tryd.underlying3 h1
  rw [cells91] at hl
  subst e0; subst e1
  have he : (DataW.agg [.lit (.int .i64 (-1)), .lit (.int .i64 (-1))] : DataW Unit) = .agg [.lit (.int .i64 z0), .lit (.int .i64 z1)] := congrArg Prod.fst he
  simp at he
  obtain ⟨rfl, rfl⟩ := he
  unfold Lib.TabIs
  rw [hvar]
  congr 1
  apply Array.ext'
  match hq : cs.toList, hl with
  | [u, v], _ =>
    rw [hq] at c0 c1
    simp at c0 c1
    simp [c0, c1]
theorem tab64_cells5 {W : World} (h : laidMet Tryd.prog lays5 W) : ∃ c t z, W.heap[2]? = some (.cells c t z) ∧ ∀ R : Ren, conL R tab64 c 0 :=
  tab_cells (zs := tabI) (by decide) fun i hi => (show Lib.TabIs Tryd.prog W "math/bits.deBruijn64tab" .u8 tabI from Lib.tabIs_of_head (rest := [("unicode/utf8.acceptRanges", Rows.laid_unicode_utf8_acceptRanges), ("bibelot/switches.none", Rows.laid_bibelot_switches_none), ("unicode/utf8.first", Rows.laid_unicode_utf8_first)]) gTab64 gTab64Type Tryd.underlying162 Tryd.underlying5 cells5 cells162 (laidMet.tail h)).cell gTab64 i hi
theorem none_cells5 {W : World} (h : laidMet Tryd.prog lays5 W) : ∃ c t z, W.heap[0]? = some (.cells c t z) ∧ ∀ R : Ren, conL R [.int .i64 (-1), .int .i64 (-1)] c 0 :=
  tab_cells (zs := [-1, -1]) (by decide) fun i hi => (none_of (laidMet.tail (laidMet.tail (laidMet.tail h)))).cell gNone i hi

/-- A law of one game and of prime values: from its contract to its calls. -/
theorem calls_more {f : FuncId} {W : World} {x : Rw} {sv : Value} {args : List AV} {us : List Value} (hc : FDet Tryd.prog f (.g (rC x 0) :: args) [(0, rB x), (100002, .ro tab64), (100000, noneB)] 1 (.c (.bool true)) [] 1)
    (hsv : (sv = .slice none 0 0 ∧ x.ws = []) ∨ ∃ a c, sv = .slice (some a) x.ws.length c ∧ x.ws.length ≤ c ∧ ∀ i, i < x.ws.length → W.cell? (a.add (i * 2)) = some (.int .i64 (x.ws.getD i (0, 0)).1) ∧ W.cell? (a.add (i * 2 + 1)) = some (.int .i64 (x.ws.getD i (0, 0)).2))
    (hl : us.length = args.length) (hA : ∀ (R : Ren) (i : Nat) (v : AV), args[i]? = some v → ∃ u : Value, us[i]? = some u ∧ conV R v u)
    (h64 : ∃ c t z, W.heap[2]? = some (.cells c t z) ∧ ∀ R : Ren, conL R tab64 c 0) (hno : ∃ c t z, W.heap[0]? = some (.cells c t z) ∧ ∀ R : Ren, conL R [.int .i64 (-1), .int .i64 (-1)] c 0) : Calls Tryd.prog f ((Value.agg #[.int .i64 x.n, .int .i64 x.s, .int .i64 x.t, sv]) :: us).toArray W fun e W' => e = .returned (.bool true) ∧ Below W.heap.size W W' := by
  obtain ⟨b, off, hR, hs⟩ := rel_game hsv h64 hno
  refine (hc.run W (renG b off) _ (renG_ok _ _) (by simp [hl]) (fun i v hi => ?_) hR).mono ?_
  · match i, hi with
    | 0, hi =>
      injection hi with hi
      subst hi
      refine ⟨_, rfl, _, rfl, rfl, fun j y hj => ?_⟩
      match j, hj with
      | 0, hj => injection hj with hj; subst hj; exact ⟨_, rfl, rfl⟩
      | 1, hj => injection hj with hj; subst hj; exact ⟨_, rfl, rfl⟩
      | 2, hj => injection hj with hj; subst hj; exact ⟨_, rfl, rfl⟩
      | 3, hj => injection hj with hj; subst hj; exact ⟨_, rfl, hs⟩
      | _ + 4, hj => simp [rC] at hj
    | i + 1, hi =>
      obtain ⟨u, hu, hcv⟩ := hA (renG b off) i v (by simpa using hi)
      exact ⟨u, by simpa using hu, hcv⟩
  · rintro e w' ⟨u, r, hp', k', R', h1, ⟨h2, _, _⟩, _, _, _, h6, _, _, _, _, _, h12⟩
    subst h2
    have hu : u = .bool true := h6
    subst hu
    refine ⟨h1, (h12.mono ?_).below⟩
    rintro j ⟨i, bl, g1, g2, _⟩
    simp only [lk] at g1
    split at g1
    · injection g1 with g1; subst g1; cases g2
    · split at g1
      · injection g1 with g1; subst g1; cases g2
      · split at g1
        · injection g1 with g1; subst g1; cases g2
        · cases g1
def litV : DataW Unit → List Value
  | .lit (.int k n) => [.int k n]
  | _ => []
def litVs : DataW Unit → List Value
  | .lit (.int k n) => [.int k n]
  | .agg l => l.flatMap litV
  | _ => []
def flatV : DataW Unit → Array Value
  | .agg l => (l.flatMap litVs).toArray
  | _ => #[]
/-- A world for the witness: the settled one, with the tables as they are laid. -/
noncomputable def laidWorld5 (os : Os) : World :=
  { laidWorld os with heap := ((laidWorld os).heap.modify 3 (lay (flatV Rows.laid_unicode_utf8_first))).modify 4 (lay (flatV Rows.laid_unicode_utf8_acceptRanges)) }
theorem laid_met5 (os : Os) : laidMet Tryd.prog lays5 ((laidWorld5 os).forCall (fun _ _ => 0) ⟨#[], #[wit, .string ⟨#[]⟩], []⟩).memory :=
  laidMet_of_run' 8 (by kernel_rfl) (by kernel_rfl)
theorem open_str {W : World} {base : Nat} {v : Value} (hv : Value.okWide Tryd.prog W .any base 9 v) : ∃ s, v = .string s := by
  unfold Value.okWide at hv
  rw [Tryd.underlying9] at hv
  have hv : Cell.okWide Tryd.prog W .any base 9 v := hv
  unfold Cell.okWide at hv
  rw [Tryd.underlying9] at hv
  have hv : Cell.ok Tryd.prog W .any base 9 v := by cases v <;> exact hv
  unfold Cell.ok at hv
  rw [Tryd.underlying9] at hv
  cases v <;> first | exact ⟨_, rfl⟩ | exact absurd hv (by simp)
end Go.Proofs.YtfphkpdobbffeaaDoor

/-
  Laws of a game, of a list of numbers, and of prime values.
-/
namespace Go.Proofs.YtfphkpdobbffeaaDoor
open Go Go.AH Go.ChangeShapes Go.WideShapes Go.ChangeAt Go.RowKit
set_option maxRecDepth 100000

section
variable {H : Type} {enc : TypeId × Value → H} {W : World} {base : Nat} {spare : Nat → Bool} {held : Bool}
theorem choose_ints {len : Nat} {p : Nat → Int → Prop} (h : ∀ i, i < len → ∃ w, p i w) : ∃ L : List Int, L.length = len ∧ ∀ i, i < len → p i (L.getD i 0) := by
  induction len with
  | zero => exact ⟨[], rfl, fun i hi => by omega⟩
  | succ n ih =>
    obtain ⟨ws, h1, h2⟩ := ih fun i hi => h i (by omega)
    obtain ⟨w, hw⟩ := h n (by omega)
    refine ⟨ws ++ [w], by simp [h1], fun i hi => ?_⟩
    by_cases e : i < n
    · rw [List.getD_eq_getElem?_getD, List.getElem?_append_left (by omega), ← List.getD_eq_getElem?_getD]; exact h2 i e
    · obtain rfl : i = n := by omega
      rw [List.getD_eq_getElem?_getD, List.getElem?_append_right (by omega)]
      simpa [h1] using hw
/-- A list of numbers, as it lies. -/
def intsAt (W : World) (v : Value) (L : List Int) : Prop := (v = .slice none 0 0 ∧ L = []) ∨ ∃ a c, v = .slice (some a) L.length c ∧ L.length ≤ c ∧ ∀ i, i < L.length → W.cell? (a.add i) = some (.int .i64 (L.getD i 0))
theorem open_ints {v : Value} {d : DataW H} {ps : List MemPlace} (hv : Value.okWide Tryd.prog W .any base 37 v) (h : DataW.Trod enc Tryd.prog W 0 spare held 37 v d ps) : ∃ L : List Int, L.length ≤ 9223372036854775807 ∧ intsAt W v L := by
  obtain ⟨fuel, h⟩ := h
  have hsl : v.cells = #[v] := by
    unfold Value.okWide at hv
    rw [Tryd.underlying37] at hv
    have hv : Cell.okWide Tryd.prog W .any base 37 v := hv
    unfold Cell.okWide at hv
    rw [Tryd.underlying37] at hv
    have hv : Cell.ok Tryd.prog W .any base 37 v := by cases v <;> exact hv
    unfold Cell.ok at hv
    rw [Tryd.underlying37] at hv
    cases v <;> first | rfl | exact absurd hv (by simp)
  have h : DataW.trod enc Tryd.prog W 0 spare held fuel 37 v.cells.toList = some (d, ps) := h
  rw [hsl] at h
  rcases DataW.trod_slice Tryd.underlying37 h with ⟨h3, _⟩ | ⟨a, len, cap, elems, rest, m, _, h3, _, _, hlc, hcm, hel, hall, _⟩
  · have h3 : [v] = [Value.slice none 0 0] := h3
    injection h3 with h3
    exact ⟨[], by simp, .inl ⟨h3, rfl⟩⟩
  · have h3 : [v] = [Value.slice (some a) len cap] := h3
    injection h3 with h3
    have hw : ∀ i, i < len → ∃ w : Int, W.cell? (a.add i) = some (.int .i64 w) := fun i hi => by
      have h4 := hall i hi
      rw [cells3, List.getElem?_eq_getElem (by omega)] at h4
      obtain ⟨cs', g1, g2⟩ := Option.bind_eq_some_iff.1 h4
      obtain ⟨z0, rfl, _⟩ := DataW.trod_int Tryd.underlying3 g2
      obtain ⟨_, _, g3⟩ := World.cells?_some g1
      have k0 := g3 0 (by omega)
      rw [Addr.add_add, Nat.mul_one, Nat.add_zero] at k0
      exact ⟨z0, k0⟩
    obtain ⟨L, hL, hp⟩ := choose_ints hw
    have hcap : cap ≤ 9223372036854775807 := hcm
    exact ⟨L, by omega, .inr ⟨a, cap, by rw [h3, hL], by omega, fun i hi => hp i (by omega)⟩⟩
end
/-- The caller's numbers: block 0 is the game's wires, block 1 the list. -/
def renG2 (b off b1 off1 : Nat) : Ren := ⟨fun i => if i < GB then (if i = 0 then b else b1) else i - GB, fun i => if i < GB then (if i = 0 then off else off1) else 0, fun i => if i < GB then 0 else 0⟩
theorem renG2_ok (b off b1 off1 : Nat) : (renG2 b off b1 off1).ok := ⟨fun i => by show (if GB + i < GB then (if GB + i = 0 then b else b1) else GB + i - GB) = i; rw [if_neg (by omega)]; omega, fun i => by show (if GB + i < GB then (if GB + i = 0 then off else off1) else 0) = 0; rw [if_neg (by omega)], fun i => by simp [renG2]⟩
theorem renG2_agree (b off b1 off1 : Nat) : AgreeOn (fun i => i = 0 ∨ GB ≤ i) (renG b off) (renG2 b off b1 off1) := fun i hi => by
  rcases hi with rfl | hi
  · exact ⟨rfl, rfl, rfl⟩
  · have : ¬ i < GB := by omega
    simp [renG2, renG, this]
theorem rel_ints {W : World} {v : Value} {L : List Int} (h : intsAt W v L) (b off : Nat) (h0 : ∃ c t z, W.heap[0]? = some (.cells c t z)) : ∃ b1 off1, BRel (renG2 b off b1 off1) 1 W (.ro (ints L)) ∧ conC (renG2 b off b1 off1) (.rs 1 0 L.length) v := by
  obtain ⟨c0, t0, z0, hh0⟩ := h0
  have nil : ∀ R : Ren, ∀ c o, L = [] → conL R (ints L) c o := fun R c o e i y hi => by rw [e] at hi; simp [ints] at hi
  rcases h with ⟨rfl, hL⟩ | ⟨a, cap, rfl, hcap, hcell⟩
  · exact ⟨0, 0, ⟨c0, t0, z0, hh0, nil _ _ _ hL⟩, .inr ⟨by rw [hL]; rfl, rfl⟩⟩
  · by_cases e0 : L.length = 0
    · exact ⟨0, 0, ⟨c0, t0, z0, hh0, nil _ _ _ (List.length_eq_zero_iff.1 e0)⟩, .inl ⟨a, cap, rfl, fun h => by omega, hcap⟩⟩
    · obtain ⟨c, t, z, hh, _⟩ := add_cell (hcell 0 (by omega))
      have hs : a.spot = none := by
        have h2 := hcell 0 (by omega)
        have e : a.add 0 = a := by simp [Addr.add]
        rw [e] at h2
        obtain ⟨_, _, _, _, h3, _⟩ := cell_inv h2
        exact h3
      have get : ∀ n v, W.cell? (a.add n) = some v → c[a.off + n]? = some v := fun n v h => by
        obtain ⟨c', t', z', hh', hv⟩ := add_cell h
        rw [hh] at hh'
        injection hh' with hh'
        injection hh' with e1 e2 e3
        rw [e1]; exact hv
      refine ⟨a.block, a.off, ⟨c, t, z, hh, conL_ints fun i hi => get _ _ (hcell i hi)⟩, .inl ⟨a, cap, rfl, fun _ => ?_, hcap⟩⟩
      obtain ⟨b', o, sp⟩ := a
      simp only at hs
      subst hs
      rfl
theorem rB_all (x : Rw) (p : Nat → Prop) : (rB x).all p := fun y hy => by
  obtain ⟨n, _, rfl⟩ := List.mem_map.1 hy; trivial
theorem noneB_all (p : Nat → Prop) : noneB.all p := fun y hy => by
  simp at hy; subst hy; trivial
/-- A law of one game, of a list of numbers and of prime values: from its contract to its calls. -/
theorem calls_list {f : FuncId} {W : World} {x : Rw} {sv lv : Value} {L : List Int} {args : List AV} {us : List Value} (hc : FDet Tryd.prog f (.g (rC x 0) :: args) [(0, rB x), (1, .ro (ints L)), (100002, .ro tab64), (100000, noneB)] 2 (.c (.bool true)) [] 2)
    (hsv : (sv = .slice none 0 0 ∧ x.ws = []) ∨ ∃ a c, sv = .slice (some a) x.ws.length c ∧ x.ws.length ≤ c ∧ ∀ i, i < x.ws.length → W.cell? (a.add (i * 2)) = some (.int .i64 (x.ws.getD i (0, 0)).1) ∧ W.cell? (a.add (i * 2 + 1)) = some (.int .i64 (x.ws.getD i (0, 0)).2))
    (hlv : intsAt W lv L) (hl : us.length = args.length) (hA : ∀ (R : Ren), conC R (.rs 1 0 L.length) lv → ∀ (i : Nat) (v : AV), args[i]? = some v → ∃ u : Value, us[i]? = some u ∧ conV R v u)
    (h64 : ∃ c t z, W.heap[2]? = some (.cells c t z) ∧ ∀ R : Ren, conL R tab64 c 0) (hno : ∃ c t z, W.heap[0]? = some (.cells c t z) ∧ ∀ R : Ren, conL R [.int .i64 (-1), .int .i64 (-1)] c 0) : Calls Tryd.prog f ((Value.agg #[.int .i64 x.n, .int .i64 x.s, .int .i64 x.t, sv]) :: us).toArray W fun e W' => e = .returned (.bool true) ∧ Below W.heap.size W W' := by
  obtain ⟨b, off, hR, hs⟩ := rel_game hsv h64 hno
  obtain ⟨b1, off1, hB1, hs1⟩ := rel_ints hlv b off (by obtain ⟨c, t, z, h, _⟩ := hno; exact ⟨c, t, z, h⟩)
  have hag := renG2_agree b off b1 off1
  have hR2 : HRel (renG2 b off b1 off1) [(0, rB x), (1, .ro (ints L)), (100002, .ro tab64), (100000, noneB)] W := by
    refine ⟨fun i bl hi => ?_, fun i j bl cl hi hj hne hw => ?_⟩
    · simp only [lk] at hi
      split at hi
      · rename_i e; subst e; injection hi with hi; subst hi
        exact BRel.agreeOn hag (.inl rfl) (rB_all x _) (hR.blk 0 _ rfl)
      · split at hi
        · rename_i e; subst e; injection hi with hi; subst hi; exact hB1
        · split at hi
          · rename_i e; subst e; injection hi with hi; subst hi
            exact BRel.agreeOn hag (.inr (by decide)) (tab_all _) (hR.blk 100002 _ rfl)
          · split at hi
            · rename_i e; subst e; injection hi with hi; subst hi
              exact BRel.agreeOn hag (.inr (by decide)) (noneB_all _) (hR.blk 100000 _ rfl)
            · cases hi
    · simp only [lk] at hi
      split at hi
      · injection hi with hi; subst hi; cases hw
      · split at hi
        · injection hi with hi; subst hi; cases hw
        · split at hi
          · injection hi with hi; subst hi; cases hw
          · split at hi
            · injection hi with hi; subst hi; cases hw
            · cases hi
  have hs2 : conC (renG2 b off b1 off1) (.rs 0 0 x.ws.length) sv := conC.agreeOn hag (show (AC.rs 0 0 x.ws.length).all _ from .inl rfl) hs
  refine (hc.run W (renG2 b off b1 off1) _ (renG2_ok _ _ _ _) (by simp [hl]) (fun i v hi => ?_) hR2).mono ?_
  · match i, hi with
    | 0, hi =>
      injection hi with hi
      subst hi
      refine ⟨_, rfl, _, rfl, rfl, fun j y hj => ?_⟩
      match j, hj with
      | 0, hj => injection hj with hj; subst hj; exact ⟨_, rfl, rfl⟩
      | 1, hj => injection hj with hj; subst hj; exact ⟨_, rfl, rfl⟩
      | 2, hj => injection hj with hj; subst hj; exact ⟨_, rfl, rfl⟩
      | 3, hj => injection hj with hj; subst hj; exact ⟨_, rfl, hs2⟩
      | _ + 4, hj => simp [rC] at hj
    | i + 1, hi =>
      obtain ⟨u, hu, hcv⟩ := hA (renG2 b off b1 off1) hs1 i v (by simpa using hi)
      exact ⟨u, by simpa using hu, hcv⟩
  · rintro e w' ⟨u, r, hp', k', R', h1, ⟨h2, _, _⟩, _, _, _, h6, _, _, _, _, _, h12⟩
    subst h2
    have hu : u = .bool true := h6
    subst hu
    refine ⟨h1, (h12.mono ?_).below⟩
    rintro j ⟨i, bl, g1, g2, _⟩
    simp only [lk] at g1
    split at g1
    · injection g1 with g1; subst g1; cases g2
    · split at g1
      · injection g1 with g1; subst g1; cases g2
      · split at g1
        · injection g1 with g1; subst g1; cases g2
        · split at g1
          · injection g1 with g1; subst g1; cases g2
          · cases g1
theorem laid_met5L (os : Os) : laidMet Tryd.prog lays5 ((laidWorld5 os).forCall (fun _ _ => 0) ⟨#[], #[wit, .string ⟨#[]⟩, .slice none 0 0], []⟩).memory :=
  laidMet_of_run' 8 (by kernel_rfl) (by kernel_rfl)
end Go.Proofs.YtfphkpdobbffeaaDoor

/-
  Plain law: who wins, without shortcuts.
-/
namespace Go.Proofs.YtfphkpdobbffeaaDoor
open Go Go.AH
set_option maxRecDepth 100000
set_option maxHeartbeats 1000000

theorem fold_root {g : Gm} (hg : g.ok) (ρ : Nat → Nat) : ∀ (l : List Int) (xs : List Int), Grp xs → (∀ y ∈ l, y.toNat < g.ws.length) → (∀ y ∈ l, ρ (g.ws.getD y.toNat (0, 0)).1 = ρ (g.ws.getD y.toNat (0, 0)).2) →
    (∀ u v, u < 8 → v < 8 → root xs u = root xs v → ρ u = ρ v) → ∀ u v, u < 8 → v < 8 → root (l.foldl (joinF g) xs) u = root (l.foldl (joinF g) xs) v → ρ u = ρ v
  | [], xs, _, _, _, h => h
  | i :: l, xs, hG, hl, hρ, h => by
    have he := hg.ends _ (hl i (by simp))
    have h8 := hg.n8
    have ha : (g.ws.getD i.toNat (0, 0)).1 < 8 := by omega
    have hb : (g.ws.getD i.toNat (0, 0)).2 < 8 := by omega
    refine fold_root hg ρ l (joinF g xs i) (hG.join ha hb) (fun y hy => hl y (by simp [hy])) (fun y hy => hρ y (by simp [hy])) fun u v hu hv huv => ?_
    have hr := root_joinL hG ha hb
    rw [show joinL xs (g.ws.getD i.toNat (0, 0)).1 (g.ws.getD i.toNat (0, 0)).2 = joinF g xs i from rfl] at hr
    rw [hr u hu, hr v hv] at huv
    have hab := hρ i (by simp)
    have hA := fun u hu => h u _ hu ha
    have hB := fun u hu => h u _ hu hb
    have hra := root_le hG ha
    have hrb := root_le hG hb
    generalize root xs (g.ws.getD i.toNat (0, 0)).1 = ra at *
    generalize root xs (g.ws.getD i.toNat (0, 0)).2 = rb at *
    generalize (g.ws.getD i.toNat (0, 0)).1 = a at *
    generalize (g.ws.getD i.toNat (0, 0)).2 = b at *
    have key : ∀ u, u < 8 → (root xs u = ra ∨ root xs u = rb) → ρ u = ρ a := fun u hu h => by
      rcases h with h | h
      · exact hA u hu h
      · rw [hB u hu h, hab]
    by_cases e1 : root xs u = max ra rb
    · rw [if_pos e1] at huv
      by_cases e2 : root xs v = max ra rb
      · exact h u v hu hv (by omega)
      · rw [if_neg e2] at huv
        rw [key u hu (by omega), key v hv (by omega)]
    · rw [if_neg e1] at huv
      by_cases e2 : root xs v = max ra rb
      · rw [if_pos e2] at huv
        rw [key u hu (by omega), key v hv (by omega)]
      · rw [if_neg e2] at huv
        exact h u v hu hv huv
theorem fold_keep {g : Gm} (hg : g.ok) : ∀ (l : List Int) (xs : List Int), Grp xs → (∀ y ∈ l, y.toNat < g.ws.length) → ∀ u v, u < 8 → v < 8 → root xs u = root xs v → root (l.foldl (joinF g) xs) u = root (l.foldl (joinF g) xs) v
  | [], xs, _, _, u, v, _, _, h => h
  | i :: l, xs, hG, hl, u, v, hu, hv, h => by
    have he := hg.ends _ (hl i (by simp))
    have h8 := hg.n8
    refine fold_keep hg l (joinF g xs i) (hG.join (by omega) (by omega)) (fun y hy => hl y (by simp [hy])) u v hu hv ?_
    have hr := root_joinL hG (show (g.ws.getD i.toNat (0, 0)).1 < 8 by omega) (show (g.ws.getD i.toNat (0, 0)).2 < 8 by omega)
    rw [show joinL xs (g.ws.getD i.toNat (0, 0)).1 (g.ws.getD i.toNat (0, 0)).2 = joinF g xs i from rfl] at hr
    rw [hr u hu, hr v hv, h]
theorem fold_ends {g : Gm} (hg : g.ok) : ∀ (l : List Int) (xs : List Int), Grp xs → (∀ y ∈ l, y.toNat < g.ws.length) → ∀ i ∈ l, root (l.foldl (joinF g) xs) (g.ws.getD i.toNat (0, 0)).1 = root (l.foldl (joinF g) xs) (g.ws.getD i.toNat (0, 0)).2
  | [], _, _, _, i, hi => by simp at hi
  | j :: l, xs, hG, hl, i, hi => by
    have he := hg.ends _ (hl j (by simp))
    have h8 := hg.n8
    have ha : (g.ws.getD j.toNat (0, 0)).1 < 8 := by omega
    have hb : (g.ws.getD j.toNat (0, 0)).2 < 8 := by omega
    rcases List.mem_cons.1 hi with e | hi
    · subst e
      refine fold_keep hg l (joinF g xs i) (hG.join ha hb) (fun y hy => hl y (by simp [hy])) _ _ ha hb ?_
      have hr := root_joinL hG ha hb
      rw [show joinL xs (g.ws.getD i.toNat (0, 0)).1 (g.ws.getD i.toNat (0, 0)).2 = joinF g xs i from rfl] at hr
      rw [hr _ ha, hr _ hb]
      split <;> split <;> omega
    · exact fold_ends hg l (joinF g xs j) (hG.join ha hb) (fun y hy => hl y (by simp [hy])) i hi
theorem mem_iff {n : Nat} (hn : n < 1024) {y : Int} : y ∈ mem n ↔ ∃ i : Nat, y = (i : Int) ∧ n.testBit i = true := by
  constructor
  · intro h
    obtain ⟨i, hi, rfl⟩ := List.mem_map.1 h
    exact ⟨i, rfl, (List.mem_filter.1 hi).2⟩
  · rintro ⟨i, rfl, hi⟩
    exact List.mem_map.2 ⟨i, List.mem_filter.2 ⟨List.mem_range.2 (lt_len (k := 10) (by omega) hi), hi⟩, rfl⟩
/-- More wires kept join no less. -/
theorem joined_mono {g : Gm} (hg : g.ok) {n m : Nat} (hn : n < 2 ^ g.ws.length) (hm : m < 2 ^ g.ws.length) (h : ∀ i, n.testBit i = true → m.testBit i = true) (hj : joinedB g n = true) : joinedB g m = true := by
  have hp : 2 ^ g.ws.length ≤ 1024 := Nat.pow_le_pow_right (by omega) hg.len
  have h8 := hg.n8
  have hs := hg.s
  have ht := hg.t
  have hl : ∀ k, k < 2 ^ g.ws.length → ∀ y ∈ mem k, y.toNat < g.ws.length := fun k hk y hy => (mem_lt hg.len hk hy).2
  unfold joinedB at hj ⊢
  rw [decide_eq_true_eq] at hj ⊢
  refine fold_root hg (root (keptL g m)) (mem n) (aloneSt 8) Grp.alone (hl n hn) (fun y hy => ?_) (fun u v hu hv huv => ?_) g.s g.t (by omega) (by omega) hj
  · obtain ⟨i, rfl, hi⟩ := (mem_iff (by omega)).1 hy
    exact fold_ends hg (mem m) (aloneSt 8) Grp.alone (hl m hm) i ((mem_iff (by omega)).2 ⟨i, rfl, h i hi⟩)
  · rw [alone_root hu, alone_root hv] at huv
    rw [huv]

/-- Who wins, by playing to the end. -/
def WR (g : Gm) : Nat → Nat → Nat → Bool → Bool
  | 0, _, k, _ => joinedB g k
  | n + 1, f, k, c => if f = 0 then joinedB g k else ((mem f).any fun w => WR g n (offN f w.toNat) (if c then k else k ||| 2 ^ w.toNat) (!c) != c) != c
theorem offN_bit {f w i : Nat} (hf : f < 1024) (hw : w < 10) : (offN f w).testBit i = (f.testBit i && decide (i ≠ w)) := by
  have : ∀ f, f < 1024 → ∀ w, w < 10 → ∀ i, i < 10 → (offN f w).testBit i = (f.testBit i && decide (i ≠ w)) := by decide +kernel
  have hlt : ∀ f, f < 1024 → ∀ w, w < 10 → offN f w < 1024 := by decide +kernel
  by_cases hi : i < 10
  · exact this f hf w hw i hi
  · have a : f.testBit i = false := by
      cases h : f.testBit i with
      | false => rfl
      | true => have := lt_len (k := 10) (by omega) h; omega
    have b : (offN f w).testBit i = false := by
      cases h : (offN f w).testBit i with
      | false => rfl
      | true => have := lt_len (k := 10) (hlt f hf w hw) h; omega
    rw [a, b]; rfl
theorem any_const {l : List Int} {p : Int → Bool} {b : Bool} (h0 : l ≠ []) (h : ∀ x ∈ l, p x = b) : l.any p = b := by
  cases b with
  | false => rw [List.any_eq_false]; exact fun x hx => by rw [h x hx]; simp
  | true =>
    cases l with
    | nil => exact absurd rfl h0
    | cons x l => rw [List.any_cons, h x (by simp)]; rfl
theorem W_WR {g : Gm} (hg : g.ok) : ∀ n f k c, pop f ≤ n → f < 2 ^ g.ws.length → k < 2 ^ g.ws.length → W g f k c = WR g n f k c := by
  have hp : 2 ^ g.ws.length ≤ 1024 := Nat.pow_le_pow_right (by omega) hg.len
  intro n
  induction n with
  | zero =>
    intro f k c h hf hk
    have h0 : f = 0 := by
      by_cases e : f = 0
      · exact e
      · have := pop_pos f (by omega) (by omega); omega
    rw [W_step g (by omega), h0]
    simp [WR]
  | succ n ih =>
    intro f k c h hf hk
    rw [W_step g (by omega), WR]
    by_cases h0 : f = 0
    · rw [h0]; simp
    rw [if_neg h0]
    have hne : mem f ≠ [] := by
      intro e
      have := pop_pos f (by omega) (by omega)
      have h2 : (mem f).length = pop f := by simp [mem, pop]
      rw [e] at h2; simp at h2; omega
    have hsub : ∀ w ∈ mem f, offN f w.toNat < 2 ^ g.ws.length ∧ (if c then k else k ||| 2 ^ w.toNat) < 2 ^ g.ws.length ∧ (∀ i, k.testBit i = true → (if c then k else k ||| 2 ^ w.toNat).testBit i = true) ∧ ∀ i, ((if c then k else k ||| 2 ^ w.toNat) ||| offN f w.toNat).testBit i = true → (k ||| f).testBit i = true := fun w hw => by
      obtain ⟨_, hlw⟩ := mem_lt hg.len hf hw
      have hoff := off_mem (n := f) (by omega) hw
      obtain ⟨j, rfl, hj⟩ := (mem_iff (by omega)).1 hw
      rw [Int.toNat_natCast] at hlw hoff ⊢
      refine ⟨by omega, ?_, ?_, ?_⟩
      · split
        · exact hk
        · exact or_lt hk ((Nat.pow_lt_pow_iff_right (by omega)).2 hlw)
      · intro i hi
        split
        · exact hi
        · simp [Nat.testBit_or, hi]
      · intro i hi
        have hl := hg.len
        rw [Nat.testBit_or, offN_bit (by omega) (by omega)] at hi
        rw [Nat.testBit_or]
        split at hi
        · simp only [Bool.or_eq_true, Bool.and_eq_true] at hi ⊢
          rcases hi with hi | hi
          · exact .inl hi
          · exact .inr hi.1
        · simp only [Nat.testBit_or, Nat.testBit_two_pow, Bool.or_eq_true, Bool.and_eq_true, decide_eq_true_eq] at hi ⊢
          rcases hi with (hi | hi) | hi
          · exact .inl hi
          · exact .inr (hi ▸ hj)
          · exact .inr hi.1
    have hstep : ∀ w ∈ mem f, W g (offN f w.toNat) (if c then k else k ||| 2 ^ w.toNat) (!c) = WR g n (offN f w.toNat) (if c then k else k ||| 2 ^ w.toNat) (!c) := fun w hw => by
      have hoff := off_mem (n := f) (by omega) hw
      have h3 := hsub w hw
      exact ih _ _ _ (by omega) h3.1 h3.2.1
    have hany : ((mem f).any fun w => WR g n (offN f w.toNat) (if c then k else k ||| 2 ^ w.toNat) (!c) != c) = (mem f).any (goodW g f k c) :=
      any_congr fun w hw => by rw [goodW, hstep w hw]
    rw [hany]
    have hkf : k ||| f < 2 ^ g.ws.length := or_lt hk hf
    by_cases hj : joinedB g k = true
    · rw [if_pos (by simp [hj]), hj]
      have : (mem f).any (goodW g f k c) = !c := any_const hne fun w hw => by
        obtain ⟨a1, a2, a3, _⟩ := hsub w hw
        have hj2 := joined_mono hg hk a2 a3 hj
        rw [goodW, W_step g (by omega), hj2]
        cases c <;> simp
      rw [this]; cases c <;> rfl
    · have hj : joinedB g k = false := by simpa using hj
      by_cases hj2 : joinedB g (k ||| f) = true
      · rw [if_neg (by simp [hj, hj2, h0])]
      · have hj2 : joinedB g (k ||| f) = false := by simpa using hj2
        rw [if_pos (by simp [hj2]), hj]
        have : (mem f).any (goodW g f k c) = c := any_const hne fun w hw => by
          obtain ⟨a1, a2, a3, a4⟩ := hsub w hw
          have e1 : joinedB g ((if c then k else k ||| 2 ^ w.toNat) ||| offN f w.toNat) = false := by
            cases hh : joinedB g ((if c then k else k ||| 2 ^ w.toNat) ||| offN f w.toNat) with
            | false => rfl
            | true => rw [joined_mono hg (or_lt a2 a1) hkf a4 hh] at hj2; cases hj2
          have e2 : joinedB g (if c then k else k ||| 2 ^ w.toNat) = false := by
            cases hh : joinedB g (if c then k else k ||| 2 ^ w.toNat) with
            | false => rfl
            | true =>
              rw [joined_mono hg a2 (or_lt a2 a1) (fun i hi => by simp [Nat.testBit_or, hi]) hh] at e1; cases e1
          rw [goodW, W_step g (by omega), e1, e2]
          cases c <;> simp
        rw [this]; cases c <;> rfl
end Go.Proofs.YtfphkpdobbffeaaDoor
