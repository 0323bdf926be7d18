/-
  Contract: awake.
-/
import Derived.Test.YtfphkpdobbffeaaDoorSw3
import Derived.Test.YtfphkpdobbffeaaDoorSw4
set_option linter.unusedSimpArgs false
set_option linter.unusedVariables false
namespace Go.Proofs.YtfphkpdobbffeaaDoor
open Go Go.AH
set_option maxRecDepth 100000
set_option maxHeartbeats 1000000

def one : Gm := ⟨2, 0, 1, [(0, 1)]⟩
def two : Gm := ⟨2, 0, 1, [(0, 1), (0, 1)]⟩
def nul : Gm := ⟨2, 0, 1, []⟩
def fou : Gm := ⟨3, 0, 2, [(0, 1), (0, 1), (1, 2), (1, 2)]⟩
theorem one_game : one.game := by unfold Gm.game isGame bad0 badW; decide +kernel
theorem two_game : two.game := by unfold Gm.game isGame bad0 badW; decide +kernel
theorem nul_game : nul.game := by unfold Gm.game isGame bad0 badW; decide +kernel
theorem fou_game : fou.game := by unfold Gm.game isGame bad0 badW; decide +kernel
theorem one_kind : kindB one = "first".toUTF8 := by
  rw [kindB, if_neg (by decide +kernel), if_pos (by decide +kernel)]
theorem two_kind : kindB two = "short".toUTF8 := by
  rw [kindB, if_pos (by decide +kernel)]
theorem nul_kind : kindB nul = "cut".toUTF8 := by
  rw [kindB, if_neg (by decide +kernel), if_neg (by decide +kernel)]
theorem fou_count : cntT fou 16 = 4 := by decide +kernel
theorem two_trees : treesF two (alT two) = some (1, 2) := by decide +kernel
def lit (n s t len : Nat) : List AC := [.int .i64 n, .int .i64 s, .int .i64 t, .sl 0 0 len (some len)]
theorem one_spec : FDet Tryd.prog 19 [.g (lit 2 0 1 1)] [(0, wB one), (100002, .ro tab64)] 1 (.t [.c (.str "first".toUTF8), .c (.int .i64 0)]) [] 1 := by
  rw [← one_kind]
  exact FDet.wk (kind_spec one_game) ⟨.inr ⟨rfl, rfl, rfl, ⟨rfl, rfl, rfl⟩, trivial⟩, trivial⟩ ⟨.inl rfl, .inl rfl, trivial⟩
theorem two_spec : FDet Tryd.prog 19 [.g (lit 2 0 1 2)] [(0, wB two), (100002, .ro tab64)] 1 (.t [.c (.str "short".toUTF8), .c (.int .i64 0)]) [] 1 := by
  rw [← two_kind]
  exact FDet.wk (kind_spec two_game) ⟨.inr ⟨rfl, rfl, rfl, ⟨rfl, rfl, rfl⟩, trivial⟩, trivial⟩ ⟨.inl rfl, .inl rfl, trivial⟩
theorem tab_all (p : Nat → Prop) : (ABlk.ro tab64).all p := fun x hx => by
  obtain ⟨y, _, rfl⟩ := List.mem_map.1 hx; trivial
theorem nul_spec : FDet Tryd.prog 19 [.g (gN nul)] [(100002, .ro tab64)] 1 (.t [.c (.str "cut".toUTF8), .c (.int .i64 0)]) [] 1 := by
  rw [← nul_kind]
  refine FDet.nil0 (kind_spec nul_game) _ 100002 tab64 rfl ⟨.inr ⟨rfl, rfl, rfl, rfl, trivial⟩, trivial⟩ ?_ ?_ ?_
  · intro v hv; simp at hv; subst hv; intro x hx; simp [gN] at hx; rcases hx with rfl | rfl | rfl | rfl <;> trivial
  · intro p hp; simp at hp; subst hp; exact ⟨by decide, tab_all _⟩
  · intro e he; simp at he; rcases he with rfl | rfl <;> trivial
theorem fou_spec : FDet Tryd.prog 23 [.g (lit 3 0 2 4)] [(0, wB fou), (100002, .ro tab64)] 1 (.t [.c (.int .i64 4), .c (.int .i64 0)]) [] 1 := by
  have := count_spec fou_game
  rw [show cntT fou (2 ^ fou.ws.length) = 4 from fou_count] at this
  exact FDet.wk this ⟨.inr ⟨rfl, rfl, rfl, ⟨rfl, rfl, rfl⟩, trivial⟩, trivial⟩ ⟨.inl rfl, .inl rfl, trivial⟩
theorem trees2_spec : FDet Tryd.prog 25 [.g (lit 2 0 1 2)] [(0, wB two), (100002, .ro tab64), (100000, noneB)] 1 (.t [.g [.row 1 1, .row 2 1], .c (.bool true), .c (.int .i64 0)]) [(1, .row 3 1 (ints [0])), (2, .row 3 1 (ints [1]))] 3 := by
  have := Trees_spec two_game
  rw [two_trees] at this
  exact FDet.wk this ⟨.inr ⟨rfl, rfl, rfl, ⟨rfl, rfl, rfl⟩, trivial⟩, trivial⟩ ⟨.inl rfl, .inl rfl, .inl rfl, trivial⟩
theorem chk_spec : FDet Tryd.prog 55 [.g [.int .i64 0, .int .i64 0, .int .i64 0, .nils]] [(100002, .ro tab64)] 1 (.c (.int .i64 80)) [] 1 := by
  have h : FDet Tryd.prog 55 [.g (giC 0 0 0 0 0)] [(0, .ro []), (100002, .ro tab64)] 1 (.c (.int .i64 80)) [] 1 :=
    FSpec.imp (FSpec.wk (hp' := [(0, .ro []), (100002, .ro tab64)]) (args' := [.g (giC 0 0 0 0 0)]) (check_spec 0 0 0 [] 0 rfl) ⟨.inl rfl, trivial⟩ ⟨.inl rfl, trivial⟩) fun r hq k' ⟨h1, h2, h3⟩ => by
      rcases h1 with ⟨h1, _⟩ | ⟨_, h1⟩
      · exact absurd h1 (by unfold isGame bad0; simp)
      · exact ⟨h1, h2, h3⟩
  refine FDet.nil0 h _ 100002 tab64 rfl ⟨.inr ⟨rfl, rfl, rfl, rfl, trivial⟩, trivial⟩ ?_ ?_ trivial
  · intro v hv; simp at hv; subst hv; intro x hx; simp at hx; rcases hx with rfl | rfl <;> trivial
  · intro p hp; simp at hp; subst hp; exact ⟨by decide, tab_all _⟩
def lit4 (id : Nat) : List AC := [.int .i64 2, .int .i64 0, .int .i64 1, .sl id 0 2 (some 2)]
theorem awake_spec : FDet Tryd.prog 22 [] [(100002, .ro tab64), (100000, noneB)] 0 (.c (.bool true)) [] 0 := by
  refine FSpec.of_body tok true Tryd.func22 rfl (by kernel_rfl) (by decide) (by simp [tupA, hpLt, tmLt, AV.lt, AE.lt, AC.lt, LL_cons, LL_nil, idOk, ABlk.lt, ints_LL, GB, tab64_LL, gC, wB, giC, noneB, gst, tC, pC, gN, gR]) (by simp [tupA, hpLt, tmLt, AV.lt, AE.lt, AC.lt, LL_cons, LL_nil, idOk, ABlk.lt, ints_LL, GB, tab64_LL, gC, wB, giC, noneB, gst, tC, pC, gN, gR]) (by show 0 ≤ _; decide) ?_
  refine Wk.on ?_
  refine CallA.ro [0] (.t [.c (.str "first".toUTF8), .c (.int .i64 0)]) (one_spec) (by first | rfl | exact congrArg AV.g (ints_ren _ _) | (simp [ints_ren, AV.ren, ABlk.ren, AC.ren, AE.ren, qq]; done)) rfl (by (repeat (first | exact trivial | refine ⟨⟨(by first | exact .inl (by decide) | exact .inr (by decide)), (by first | (refine Or.inl ?_; first | rfl | exact congrArg some (ints_ren _ _).symm | exact congrArg ABlk.own (ints_ren _ _).symm | exact congrArg some (tab64_ren _).symm) | rfl | exact congrArg some (ints_ren _ _).symm | exact congrArg ABlk.own (ints_ren _ _).symm | exact congrArg some (tab64_ren _).symm | exact Or.inr ⟨rfl, rfl⟩)⟩, ?_⟩))) (by first | rfl | exact congrArg AV.g (ints_ren _ _) | (simp [ints_ren, AV.ren, ABlk.ren, AC.ren, AE.ren, qq]; done)) ?_
  refine Wk.on ?_
  refine CallA.ro [2] (.t [.c (.str "short".toUTF8), .c (.int .i64 0)]) (two_spec) (by first | rfl | exact congrArg AV.g (ints_ren _ _) | (simp [ints_ren, AV.ren, ABlk.ren, AC.ren, AE.ren, qq]; done)) rfl (by (repeat (first | exact trivial | refine ⟨⟨(by first | exact .inl (by decide) | exact .inr (by decide)), (by first | (refine Or.inl ?_; first | rfl | exact congrArg some (ints_ren _ _).symm | exact congrArg ABlk.own (ints_ren _ _).symm | exact congrArg some (tab64_ren _).symm) | rfl | exact congrArg some (ints_ren _ _).symm | exact congrArg ABlk.own (ints_ren _ _).symm | exact congrArg some (tab64_ren _).symm | exact Or.inr ⟨rfl, rfl⟩)⟩, ?_⟩))) (by first | rfl | exact congrArg AV.g (ints_ren _ _) | (simp [ints_ren, AV.ren, ABlk.ren, AC.ren, AE.ren, qq]; done)) ?_
  refine Wk.on ?_
  refine CallA.ro [0] (.t [.c (.str "cut".toUTF8), .c (.int .i64 0)]) (nul_spec) (by first | rfl | exact congrArg AV.g (ints_ren _ _) | (simp [ints_ren, AV.ren, ABlk.ren, AC.ren, AE.ren, qq]; done)) rfl (by (repeat (first | exact trivial | refine ⟨⟨(by first | exact .inl (by decide) | exact .inr (by decide)), (by first | (refine Or.inl ?_; first | rfl | exact congrArg some (ints_ren _ _).symm | exact congrArg ABlk.own (ints_ren _ _).symm | exact congrArg some (tab64_ren _).symm) | rfl | exact congrArg some (ints_ren _ _).symm | exact congrArg ABlk.own (ints_ren _ _).symm | exact congrArg some (tab64_ren _).symm | exact Or.inr ⟨rfl, rfl⟩)⟩, ?_⟩))) (by first | rfl | exact congrArg AV.g (ints_ren _ _) | (simp [ints_ren, AV.ren, ABlk.ren, AC.ren, AE.ren, qq]; done)) ?_
  refine Wk.on ?_
  refine CallA.ro [4] (.t [.c (.int .i64 4), .c (.int .i64 0)]) (fou_spec) (by first | rfl | exact congrArg AV.g (ints_ren _ _) | (simp [ints_ren, AV.ren, ABlk.ren, AC.ren, AE.ren, qq]; done)) rfl (by (repeat (first | exact trivial | refine ⟨⟨(by first | exact .inl (by decide) | exact .inr (by decide)), (by first | (refine Or.inl ?_; first | rfl | exact congrArg some (ints_ren _ _).symm | exact congrArg ABlk.own (ints_ren _ _).symm | exact congrArg some (tab64_ren _).symm) | rfl | exact congrArg some (ints_ren _ _).symm | exact congrArg ABlk.own (ints_ren _ _).symm | exact congrArg some (tab64_ren _).symm | exact Or.inr ⟨rfl, rfl⟩)⟩, ?_⟩))) (by first | rfl | exact congrArg AV.g (ints_ren _ _) | (simp [ints_ren, AV.ren, ABlk.ren, AC.ren, AE.ren, qq]; done)) ?_
  refine Wk.on ?_
  refine CallA.det [2] (.t [.g [.row 5 1, .row 6 1], .c (.bool true), .c (.int .i64 0)]) ([(4, .own (ints [0, 1, 0, 1, 1, 2, 1, 2])), (3, .own (lit4 2)), (2, .own (ints [0, 1, 0, 1])), (1, .own (lit 2 0 1 1)), (0, .own (ints [0, 1])), (100002, .ro tab64), (100000, noneB), (6, .row 3 1 (ints [1])), (5, .row 3 1 (ints [0]))]) (trees2_spec) (by first | rfl | exact congrArg AV.g (ints_ren _ _) | (simp [ints_ren, AV.ren, ABlk.ren, AC.ren, AE.ren, qq]; done)) rfl (by (repeat (first | exact trivial | refine ⟨⟨(by first | exact .inl (by decide) | exact .inr (by decide)), (by first | (refine Or.inl ?_; first | rfl | exact congrArg some (ints_ren _ _).symm | exact congrArg ABlk.own (ints_ren _ _).symm | exact congrArg some (tab64_ren _).symm) | rfl | exact congrArg some (ints_ren _ _).symm | exact congrArg ABlk.own (ints_ren _ _).symm | exact congrArg some (tab64_ren _).symm | exact Or.inr ⟨rfl, rfl⟩)⟩, ?_⟩))) (by first | rfl | exact congrArg AV.g (ints_ren _ _) | (simp [ints_ren, AV.ren, ABlk.ren, AC.ren, AE.ren, qq]; done)) (by first | rfl | (simp [behind, gone, lk, up, del, qq, ABlk.wr, GB, ints_ren, AV.ren, ABlk.ren, AC.ren, AE.ren]; done) | (simp [behind, gone, lk, up, del, qq, ABlk.wr, GB, ints_ren, AV.ren, ABlk.ren, AC.ren, AE.ren]; rfl)) ?_
  refine Wk.on ?_
  refine ⟨fun _ => ?_, fun h => absurd h (by decide +kernel)⟩
  refine Wk.on ?_
  refine ⟨fun _ => ?_, fun h => absurd h (by decide +kernel)⟩
  refine Wk.on ?_
  refine ⟨fun _ => ?_, fun h => absurd h (by decide +kernel)⟩
  refine Wk.on ?_
  refine CallA.ro [0] (.c (.int .i64 80)) (chk_spec) (by first | rfl | exact congrArg AV.g (ints_ren _ _) | (simp [ints_ren, AV.ren, ABlk.ren, AC.ren, AE.ren, qq]; done)) rfl (by (repeat (first | exact trivial | refine ⟨⟨(by first | exact .inl (by decide) | exact .inr (by decide)), (by first | (refine Or.inl ?_; first | rfl | exact congrArg some (ints_ren _ _).symm | exact congrArg ABlk.own (ints_ren _ _).symm | exact congrArg some (tab64_ren _).symm) | rfl | exact congrArg some (ints_ren _ _).symm | exact congrArg ABlk.own (ints_ren _ _).symm | exact congrArg some (tab64_ren _).symm | exact Or.inr ⟨rfl, rfl⟩)⟩, ?_⟩))) (by first | rfl | exact congrArg AV.g (ints_ren _ _) | (simp [ints_ren, AV.ren, ABlk.ren, AC.ren, AE.ren, qq]; done)) ?_
  refine Wk.on ?_
  exact AH.Fin.nil [] ⟨by show AV.c (.bool _) = AV.c (.bool true); rfl, rfl, rfl⟩ (by first | exact trivial | (simp [tupA, hpLt, tmLt, AV.lt, AE.lt, AC.lt, LL_cons, LL_nil, idOk, ABlk.lt, ints_LL, GB, tab64_LL, gC, wB, giC, noneB, gst, tC, pC, gN, gR]; done) | (simp [tupA, hpLt, tmLt, AV.lt, AE.lt, AC.lt, LL_cons, LL_nil, idOk, ABlk.lt, ints_LL, GB, tab64_LL, gC, wB, giC, noneB, gst, tC, pC, gN, gR, rdn, wrn]; done)) trivial trivial rfl (by simp [GB])
end Go.Proofs.YtfphkpdobbffeaaDoor

/-
  Plain law: the two ways to say what a tree is agree.
-/
namespace Go.Proofs.YtfphkpdobbffeaaDoor
open Go Go.AH
set_option maxRecDepth 100000
set_option maxHeartbeats 1000000

theorem root_self {xs : List Int} (h : Grp xs) : ∀ u, u < 8 → xs.getD (root xs u) 0 = (root xs u : Nat) := by
  intro u
  induction u using Nat.strongRecOn with
  | _ u ih =>
    intro hu
    have h1 := h.2 u hu
    by_cases e : xs.getD u 0 = (u : Nat)
    · rw [root_stop e]; exact e
    · rw [root_go h hu e]
      exact ih _ (by omega) (by omega)
theorem root_root {xs : List Int} (h : Grp xs) {u : Nat} (hu : u < 8) : root xs (root xs u) = root xs u := root_stop (root_self h u hu)
theorem joinL_getD {xs : List Int} (a b u : Nat) (hl : max (root xs a) (root xs b) < xs.length) : (joinL xs a b).getD u 0 = if u = max (root xs a) (root xs b) then ((min (root xs a) (root xs b) : Nat) : Int) else xs.getD u 0 := by
  simp only [joinL, List.getD_eq_getElem?_getD, List.getElem?_set]
  by_cases e : max (root xs a) (root xs b) = u
  · rw [if_pos e, if_pos e.symm, if_pos hl]; rfl
  · rw [if_neg e, if_neg (fun h => e h.symm)]
theorem root_joinL {xs : List Int} (h : Grp xs) {a b : Nat} (ha : a < 8) (hb : b < 8) : ∀ u, u < 8 → root (joinL xs a b) u = if root xs u = max (root xs a) (root xs b) then min (root xs a) (root xs b) else root xs u := by
  have hra := root_le h ha
  have hrb := root_le h hb
  have hG := h.join ha hb
  have hM : root xs (max (root xs a) (root xs b)) = max (root xs a) (root xs b) := by
    rcases Nat.le_total (root xs a) (root xs b) with e | e
    · rw [Nat.max_eq_right e]; exact root_root h hb
    · rw [Nat.max_eq_left e]; exact root_root h ha
  have hm : root xs (min (root xs a) (root xs b)) = min (root xs a) (root xs b) := by
    rcases Nat.le_total (root xs a) (root xs b) with e | e
    · rw [Nat.min_eq_left e]; exact root_root h ha
    · rw [Nat.min_eq_right e]; exact root_root h hb
  have hms : xs.getD (min (root xs a) (root xs b)) 0 = ((min (root xs a) (root xs b) : Nat) : Int) := by
    rcases Nat.le_total (root xs a) (root xs b) with e | e
    · rw [Nat.min_eq_left e]; exact root_self h a ha
    · rw [Nat.min_eq_right e]; exact root_self h b hb
  have hg := fun u => joinL_getD (xs := xs) a b u (by rw [h.1]; omega)
  generalize hMe : max (root xs a) (root xs b) = M at *
  generalize hme : min (root xs a) (root xs b) = m at *
  have hmM : m ≤ M := by omega
  have rm : root (joinL xs a b) m = m := by
    refine root_stop ?_
    rw [hg m]
    split
    · omega
    · exact hms
  intro u
  induction u using Nat.strongRecOn with
  | _ u ih =>
    intro hu
    have h1 := h.2 u hu
    by_cases e : u = M
    · subst e
      rw [hM, if_pos rfl]
      by_cases e2 : m = u
      · rw [← e2]; exact rm
      · rw [root_go hG hu (by rw [hg u, if_pos rfl]; omega), hg u, if_pos rfl]
        exact rm
    · by_cases e2 : xs.getD u 0 = (u : Nat)
      · rw [root_stop (xs := xs) e2, if_neg e]
        exact root_stop (by rw [hg u, if_neg e]; exact e2)
      · rw [root_go h hu e2, root_go hG hu (by rw [hg u, if_neg e]; exact e2), hg u, if_neg e]
        exact ih _ (by omega) (by omega)
def comps (xs : List Int) (n : Nat) : Nat := (List.range n).countP fun u => decide (root xs u = u)
theorem cnt_rm (p : Nat → Bool) (M : Nat) (hp : p M = true) : ∀ n, (List.range n).countP (fun u => p u && decide (u ≠ M)) + (if M < n then 1 else 0) = (List.range n).countP p
  | 0 => rfl
  | n + 1 => by
    have ih := cnt_rm p M hp n
    simp only [List.range_succ, List.countP_append, List.countP_cons, List.countP_nil]
    by_cases e : n = M
    · subst e
      simp [hp] at ih ⊢
      omega
    · simp only [show (decide (n ≠ M)) = true by simp [e], Bool.and_true]
      rw [show (if M < n + 1 then 1 else 0) = (if M < n then 1 else 0) from by simp only [show (M < n + 1) ↔ M < n by omega]]
      omega
theorem comps_join {xs : List Int} (h : Grp xs) {a b n : Nat} (hn : n ≤ 8) (ha : a < n) (hb : b < n) : comps (joinL xs a b) n + (if root xs a = root xs b then 0 else 1) = comps xs n := by
  have hra := root_le h (show a < 8 by omega)
  have hrb := root_le h (show b < 8 by omega)
  have hr := root_joinL h (show a < 8 by omega) (show b < 8 by omega)
  by_cases e : root xs a = root xs b
  · rw [if_pos e]
    unfold comps
    refine List.countP_congr fun u hu => ?_
    have hu := List.mem_range.1 hu
    rw [hr u (by omega)]
    split
    · rename_i h2; rw [h2, e]; simp
    · rfl
  · rw [if_neg e]
    have hM : root xs (max (root xs a) (root xs b)) = max (root xs a) (root xs b) := by
      rcases Nat.le_total (root xs a) (root xs b) with e | e
      · rw [Nat.max_eq_right e]; exact root_root h (by omega)
      · rw [Nat.max_eq_left e]; exact root_root h (by omega)
    have hm : root xs (min (root xs a) (root xs b)) = min (root xs a) (root xs b) := by
      rcases Nat.le_total (root xs a) (root xs b) with e | e
      · rw [Nat.min_eq_left e]; exact root_root h (by omega)
      · rw [Nat.min_eq_right e]; exact root_root h (by omega)
    have := cnt_rm (fun u => decide (root xs u = u)) (max (root xs a) (root xs b)) (by simp [hM]) n
    rw [if_pos (by omega)] at this
    unfold comps
    rw [← this]
    congr 1
    refine List.countP_congr fun u hu => ?_
    have hu := List.mem_range.1 hu
    rw [hr u (by omega)]
    simp only [decide_eq_true_eq, Bool.and_eq_true]
    split
    · rename_i h2
      constructor
      · intro h3; rw [← h3, hm] at h2; omega
      · rintro ⟨h3, h4⟩; omega
    · rename_i h2
      constructor
      · intro h3; exact ⟨h3, fun h4 => by rw [h4] at h2; exact h2 hM⟩
      · exact fun h3 => h3.1
theorem acy_comps {g : Gm} (hg : g.ok) : ∀ (l : List Int) (xs : List Int), Grp xs → (∀ y ∈ l, y.toNat < g.ws.length) → comps xs g.n ≤ comps (l.foldl (joinF g) xs) g.n + l.length ∧ (acyF g xs l = true ↔ comps (l.foldl (joinF g) xs) g.n + l.length = comps xs g.n)
  | [], xs, h, _ => by simp [acyF]
  | i :: l, xs, h, hl => by
    have he := hg.ends _ (hl i (by simp))
    have h8 := hg.n8
    have ih := acy_comps hg l (joinF g xs i) (h.join (by omega) (by omega)) fun y hy => hl y (by simp [hy])
    have hj := comps_join h (a := (g.ws.getD i.toNat (0, 0)).1) (b := (g.ws.getD i.toNat (0, 0)).2) h8 (by omega) (by omega)
    rw [show joinL xs (g.ws.getD i.toNat (0, 0)).1 (g.ws.getD i.toNat (0, 0)).2 = joinF g xs i from rfl] at hj
    simp only [List.foldl_cons, List.length_cons, acyF, Bool.and_eq_true, decide_eq_true_eq, ih.2]
    split at hj
    · rename_i e
      refine ⟨by omega, ⟨fun h => absurd e h.1, fun h => by omega⟩⟩
    · rename_i e
      exact ⟨by omega, ⟨fun h => by omega, fun h => ⟨e, by omega⟩⟩⟩

def keptTo (g : Gm) (a : Nat) (i : Nat) : List Int := (((List.range i).filter a.testBit).map Int.ofNat).foldl (joinF g) (aloneSt 8)
theorem keptTo_succ (g : Gm) (a i : Nat) : keptTo g a (i + 1) = if a.testBit i then joinF g (keptTo g a i) (i : Int) else keptTo g a i := by
  simp only [keptTo, List.range_succ, List.filter_append, List.map_append, List.foldl_append]
  cases h : a.testBit i <;> simp [h, List.filter_cons]
theorem keptTo_Grp {g : Gm} (hg : g.ok) (a i : Nat) (hi : i ≤ g.ws.length) : Grp (keptTo g a i) :=
  Grp.fold hg _ _ Grp.alone fun y hy => by
    obtain ⟨j, hj, rfl⟩ := List.mem_map.1 hy
    have := List.mem_range.1 (List.mem_filter.1 hj).1
    show j < _
    omega
theorem bit_test (a i : Nat) : (bit a i = 1) ↔ a.testBit i = true := by
  rw [Nat.testBit_eq_decide_div_mod_eq, decide_eq_true_eq]; rfl
theorem repTo_getD (xs : List Int) (mx mn : Int) : ∀ k j, j < xs.length → (repTo xs mx mn k).getD j 0 = if j < k ∧ xs.getD j 0 = mx then mn else xs.getD j 0
  | 0, j, _ => by simp [repTo]
  | k + 1, j, hj => by
    have ihj := repTo_getD xs mx mn k j hj
    simp only [repTo]
    by_cases hk : k < xs.length
    · have ihk := repTo_getD xs mx mn k k hk
      rw [if_neg (by omega)] at ihk
      rw [ihk]
      by_cases e : j = k
      · subst e
        split
        · rename_i h
          rw [if_pos ⟨by omega, h⟩, List.getD_eq_getElem?_getD, List.getElem?_set, if_pos rfl, if_pos (by rw [repTo_len]; exact hj)]; rfl
        · rename_i h
          rw [ihj, if_neg (by omega), if_neg (fun h2 => h h2.2)]
      · have : (j < k + 1 ∧ xs.getD j 0 = mx) ↔ (j < k ∧ xs.getD j 0 = mx) := by omega
        simp only [this]
        split
        · rw [List.getD_eq_getElem?_getD, List.getElem?_set, if_neg (fun h => e h.symm), ← List.getD_eq_getElem?_getD]; exact ihj
        · exact ihj
    · have : (j < k + 1 ∧ xs.getD j 0 = mx) ↔ (j < k ∧ xs.getD j 0 = mx) := by omega
      simp only [this]
      split
      · rw [List.set_eq_of_length_le (by rw [repTo_len]; omega)]; exact ihj
      · exact ihj
theorem alone_root {u : Nat} (h : u < 8) : root (aloneSt 8) u = u := by
  have : u = 0 ∨ u = 1 ∨ u = 2 ∨ u = 3 ∨ u = 4 ∨ u = 5 ∨ u = 6 ∨ u = 7 := by omega
  rcases this with rfl | rfl | rfl | rfl | rfl | rfl | rfl | rfl <;> decide
theorem labels {g : Gm} (hg : g.ok) (a : Nat) : ∀ i, i ≤ g.ws.length → ∀ u, u < g.n → (grpR g a i).getD u 0 = (root (keptTo g a i) u : Nat)
  | 0, _, u, hu => by
    have h8 := hg.n8
    rw [show keptTo g a 0 = aloneSt 8 from rfl, alone_root (by omega)]
    simp [grpR, iota, hu, List.getD_eq_getElem?_getD]
  | i + 1, hi, u, hu => by
    have h8 := hg.n8
    have he := hg.ends i (by omega)
    have ih := labels hg a i (by omega)
    have hG := keptTo_Grp hg a i (by omega)
    rw [keptTo_succ, grpR, grpS]
    by_cases hb : a.testBit i = true
    · rw [if_pos ((bit_test a i).2 hb), if_pos hb, repTo_getD _ _ _ _ _ (by rw [grpR_len]; exact hu), ih u hu, ih _ (by omega), ih _ (by omega)]
      rw [show joinF g (keptTo g a i) (i : Int) = joinL (keptTo g a i) (g.ws.getD i (0, 0)).1 (g.ws.getD i (0, 0)).2 by rw [joinF, Int.toNat_natCast]]
      rw [root_joinL hG (by omega) (by omega) u (by omega)]
      generalize root (keptTo g a i) (g.ws.getD i (0, 0)).1 = r1
      generalize root (keptTo g a i) (g.ws.getD i (0, 0)).2 = r2
      generalize root (keptTo g a i) u = r
      by_cases e : r = max r1 r2
      · rw [if_pos e, if_pos ⟨hu, by omega⟩]; omega
      · rw [if_neg e, if_neg (by omega)]
    · rw [if_neg (fun h => hb ((bit_test a i).1 h)), if_neg hb]
      exact ih u hu
theorem lt_len {a k i : Nat} (h : a < 2 ^ k) (ht : a.testBit i = true) : i < k := by
  refine Nat.lt_of_not_le fun hk => ?_
  have h2 : a < 2 ^ i := Nat.lt_of_lt_of_le h (Nat.pow_le_pow_right (by omega) hk)
  rw [Nat.testBit_lt_two_pow h2] at ht; cases ht
theorem range_filter (p : Nat → Bool) {k : Nat} : ∀ m, k ≤ m → (∀ i, k ≤ i → p i = false) → (List.range m).filter p = (List.range k).filter p
  | 0, h, _ => by rw [show k = 0 by omega]
  | m + 1, h, hp => by
    by_cases e : k = m + 1
    · rw [e]
    · rw [List.range_succ, List.filter_append, range_filter p m (by omega) hp]
      simp [List.filter_cons, hp m (by omega)]
theorem kept_eq {g : Gm} (hg : g.ok) {a : Nat} (ha : a < 2 ^ g.ws.length) : keptL g a = keptTo g a g.ws.length := by
  rw [keptL, keptTo, mem, memN, range_filter _ 10 hg.len fun i hi => by
    cases h : a.testBit i with
    | false => rfl
    | true => have := lt_len ha h; omega]
def endOf (g : Gm) (u : Nat) (i : Int) : Bool := decide ((g.ws.getD i.toNat (0, 0)).1 = u) || decide ((g.ws.getD i.toNat (0, 0)).2 = u)
theorem places_bit (g : Gm) (u : Nat) : ∀ (l : List Int) (z : Nat), (l.foldl (placesF g) z).testBit u = (z.testBit u || l.any (endOf g u))
  | [], z => by simp
  | i :: l, z => by
    rw [List.foldl_cons, places_bit g u l, List.any_cons]
    simp only [placesF, Nat.testBit_or, Nat.testBit_two_pow, endOf, Bool.or_assoc]
theorem lone {g : Gm} (hg : g.ok) {u : Nat} (hu : u < 8) : ∀ (l : List Int) (xs : List Int), Grp xs → (∀ y ∈ l, y.toNat < g.ws.length) → (∀ y ∈ l, endOf g u y = false) → root xs u = u → (∀ v, v < 8 → v ≠ u → root xs v ≠ u) →
    root (l.foldl (joinF g) xs) u = u ∧ ∀ v, v < 8 → v ≠ u → root (l.foldl (joinF g) xs) v ≠ u
  | [], xs, _, _, _, h1, h2 => ⟨h1, h2⟩
  | i :: l, xs, h, hl, hn, h1, h2 => by
    have he := hg.ends _ (hl i (by simp))
    have h8 := hg.n8
    have hi := hn i (by simp)
    simp only [endOf, Bool.or_eq_false_iff, decide_eq_false_iff_not] at hi
    have ra := h2 _ (show (g.ws.getD i.toNat (0, 0)).1 < 8 by omega) hi.1
    have rb := h2 _ (show (g.ws.getD i.toNat (0, 0)).2 < 8 by omega) hi.2
    have hr := root_joinL h (show (g.ws.getD i.toNat (0, 0)).1 < 8 by omega) (show (g.ws.getD i.toNat (0, 0)).2 < 8 by omega)
    rw [show joinL xs (g.ws.getD i.toNat (0, 0)).1 (g.ws.getD i.toNat (0, 0)).2 = joinF g xs i from rfl] at hr
    refine lone hg hu l (joinF g xs i) (h.join (by omega) (by omega)) (fun y hy => hl y (by simp [hy])) (fun y hy => hn y (by simp [hy])) ?_ ?_
    · rw [hr u hu, h1, if_neg (by omega)]
    · intro v hv hvu
      have := h2 v hv hvu
      rw [hr v hv]
      split <;> omega
theorem touched {g : Gm} (hg : g.ok) {a : Nat} (ha : a < 2 ^ g.ws.length) (hc : ∀ u, u < g.n → root (keptL g a) u = 0) {u : Nat} (hu : u < g.n) : (mem a).any (endOf g u) = true := by
  have h8 := hg.n8
  have h2 := hg.n2
  refine Bool.not_eq_false _ ▸ fun hf => ?_
  have hl := lone hg (show u < 8 by omega) (mem a) (aloneSt 8) Grp.alone (fun y hy => (mem_lt hg.len ha hy).2) (fun y hy => by
    cases h : endOf g u y with
    | false => rfl
    | true => rw [List.any_eq_false] at hf; exact absurd h (hf y hy)) (alone_root (by omega)) (fun v hv hne => by rw [alone_root hv]; exact hne)
  have h0 := hc u hu
  rw [show (mem a).foldl (joinF g) (aloneSt 8) = keptL g a from rfl] at hl
  have hu0 : u = 0 := by omega
  exact hl.2 1 (by omega) (by omega) (by rw [hc 1 (by omega), hu0])
theorem ends_lt {g : Gm} (hg : g.ok) {a : Nat} (ha : a < 2 ^ g.ws.length) {u : Nat} (h : (mem a).any (endOf g u) = true) : u < g.n := by
  obtain ⟨y, hy, h⟩ := List.any_eq_true.1 h
  have he := hg.ends _ (mem_lt hg.len ha hy).2
  simp only [endOf, Bool.or_eq_true, decide_eq_true_eq] at h
  omega
theorem places_all {g : Gm} (hg : g.ok) {a : Nat} (ha : a < 2 ^ g.ws.length) (hc : ∀ u, u < g.n → root (keptL g a) u = 0) : placesN g a = 2 ^ g.n - 1 := by
  refine Nat.eq_of_testBit_eq fun u => ?_
  rw [placesN, places_bit, Nat.testBit_two_pow_sub_one, Nat.zero_testBit, Bool.false_or]
  by_cases hu : u < g.n
  · rw [touched hg ha hc hu, decide_eq_true hu]
  · rw [decide_eq_false hu]
    exact Bool.eq_false_iff.2 fun h => hu (ends_lt hg ha h)
theorem pop_full : ∀ n, n ≤ 8 → pop (2 ^ n - 1) = n := by decide +kernel
theorem comps_alone {n : Nat} (h : n ≤ 8) : comps (aloneSt 8) n = n := by
  unfold comps
  rw [List.countP_eq_length.2 fun u hu => by have := List.mem_range.1 hu; rw [alone_root (by omega)]; simp]
  simp
theorem comps_one {xs : List Int} (h : Grp xs) {n : Nat} (hn : 0 < n) (hn8 : n ≤ 8) : comps xs n = 1 ↔ ∀ u, u < n → root xs u = 0 := by
  have h0 : root xs 0 = 0 := by have := root_le h (show 0 < 8 by omega); omega
  have := cnt_rm (fun u => decide (root xs u = u)) 0 (by simp [h0]) n
  rw [if_pos hn] at this
  unfold comps
  rw [← this]
  constructor
  · intro h1 u hu
    have hz : (List.range n).countP (fun u => decide (root xs u = u) && decide (u ≠ 0)) = 0 := by omega
    rw [List.countP_eq_zero] at hz
    have hr := root_le h (show u < 8 by omega)
    have := hz (root xs u) (List.mem_range.2 (by omega))
    rw [root_root h (by omega)] at this
    simp at this
    exact this
  · intro h1
    have hz : (List.range n).countP (fun u => decide (root xs u = u) && decide (u ≠ 0)) = 0 := by
      rw [List.countP_eq_zero]
      intro u hu
      rw [h1 u (List.mem_range.1 hu)]
      simp
      omega
    omega
end Go.Proofs.YtfphkpdobbffeaaDoor

/-
  The law SwitchCounts, as a contract.
-/
namespace Go.Proofs.YtfphkpdobbffeaaDoor
open Go Go.AH
set_option maxRecDepth 100000
set_option maxHeartbeats 1000000

theorem putW_cons (u w : Nat × Nat) (l : List (Nat × Nat)) : putW (u :: l) w = if leW u w = true then u :: putW l w else w :: u :: l := by
  by_cases h : leW u w = true
  · rw [if_pos h, putW, putW, show posW (u :: l) w = posW l w + 1 by simp [posW, List.takeWhile_cons, h]]
    rfl
  · rw [if_neg h, putW, show posW (u :: l) w = 0 by simp [posW, List.takeWhile_cons, h]]
    rfl
theorem putW_mem {v w : Nat × Nat} : ∀ {l : List (Nat × Nat)}, v ∈ putW l w → v = w ∨ v ∈ l
  | [], h => by simp [putW] at h; exact .inl h
  | u :: l, h => by
    rw [putW_cons] at h
    split at h
    · rcases List.mem_cons.1 h with h | h
      · exact .inr (by simp [h])
      · rcases putW_mem h with h | h
        · exact .inl h
        · exact .inr (by simp [h])
    · rcases List.mem_cons.1 h with h | h
      · exact .inl h
      · exact .inr h
theorem leW_iff (u w : Nat × Nat) : leW u w = true ↔ u.1 < w.1 ∨ (u.1 = w.1 ∧ u.2 ≤ w.2) := by simp [leW]
theorem putW_sorted {w : Nat × Nat} : ∀ {l : List (Nat × Nat)}, l.Pairwise (fun u w => leW u w = true) → (putW l w).Pairwise (fun u w => leW u w = true)
  | [], _ => by simp [putW]
  | u :: l, h => by
    obtain ⟨h1, h2⟩ := List.pairwise_cons.1 h
    rw [putW_cons]
    split
    · rename_i hu
      refine List.pairwise_cons.2 ⟨fun v hv => ?_, putW_sorted h2⟩
      rcases putW_mem hv with rfl | hv
      · exact hu
      · exact h1 v hv
    · rename_i hu
      rw [leW_iff] at hu
      refine List.pairwise_cons.2 ⟨fun v hv => ?_, h⟩
      rcases List.mem_cons.1 hv with rfl | hv
      · rw [leW_iff]; omega
      · have := (leW_iff _ _).1 (h1 v hv)
        rw [leW_iff]; omega
def Tm (n : Nat) (l : List (Nat × Nat)) : Prop := (∀ w ∈ l, w.1 < w.2 ∧ w.2 < n) ∧ l.Pairwise (fun u w => leW u w = true)
theorem tameF_Tm {n most : Nat} (hn : 0 < n) {l : List (Nat × Nat)} (h : Tm n l) (p : Int × Int) : Tm n (tameF n most l p) := by
  have ha := um_lt p.1 hn
  have hb := um_lt p.2 hn
  unfold tameF
  split
  · split
    · exact h
    · refine ⟨fun w hw => ?_, putW_sorted h.2⟩
      rcases putW_mem hw with rfl | hw
      · dsimp only; omega
      · exact h.1 w hw
  · exact h
theorem tameA_Tm (x : Rw) {n most : Nat} (hn : 0 < n) : ∀ k, k ≤ x.ws.length → Tm n (tameA x n most k) ∧ (tameA x n most k).length ≤ most
  | 0, _ => ⟨⟨fun w hw => by simp [tameA] at hw, by simp [tameA]⟩, by simp [tameA]⟩
  | k + 1, hk => by
    obtain ⟨h1, h2⟩ := tameA_Tm x (most := most) hn k (by omega)
    rw [tameA_succ x n most (by omega)]
    exact ⟨tameF_Tm hn h1 _, tameF_len _ _ _ _ h2⟩
theorem tame_game (x : Rw) {pl most : Nat} (h1 : 2 ≤ pl) (h2 : pl ≤ 8) (h3 : most ≤ 10) : (tame x pl most).game := by
  have hN : tameN x pl = 2 + um x.n (pl - 1) := rfl
  have hu := um_lt x.n (n := pl - 1) (by omega)
  have hs : tameS x pl < tameN x pl := um_lt _ (by omega)
  have ht0 := um_lt x.t (n := tameN x pl) (by omega)
  have ht : tameT x pl < tameN x pl ∧ tameT x pl ≠ tameS x pl := by
    unfold tameT
    split
    · refine ⟨Nat.mod_lt _ (by omega), ?_⟩
      by_cases e : tameS x pl + 1 = tameN x pl
      · rw [e, Nat.mod_self]; omega
      · rw [Nat.mod_eq_of_lt (by omega)]; omega
    · exact ⟨ht0, fun h => by omega⟩
  obtain ⟨⟨hw, hp⟩, hl⟩ := tameA_Tm x (n := tameN x pl) (most := most) (by omega) _ (Nat.le_refl _)
  generalize hL : tameA x (tameN x pl) most x.ws.length = L at hw hp hl
  show isGame (tameN x pl) (tameS x pl) (tameT x pl) (fl (tameA x (tameN x pl) most x.ws.length)) (tameA x (tameN x pl) most x.ws.length).length
  rw [hL]
  refine ⟨by unfold bad0; omega, fun i hi => ?_⟩
  have hg : ∀ j, j < L.length → (L.getD j (0, 0)) ∈ L := fun j hj => by
    rw [List.getD_eq_getElem?_getD, List.getElem?_eq_getElem hj]; exact List.getElem_mem hj
  have hwi := hw _ (hg i hi)
  unfold badW
  rw [(fl_get L i).1, (fl_get L i).2]
  have hc : 0 < i → ¬ 0 < cmpL (win (fl L) ((i - 1) * 2) 2) (win (fl L) (i * 2) 2) := fun h0 => by
    have hle : leW (L.getD (i - 1) (0, 0)) (L.getD i (0, 0)) = true := by
      have := List.pairwise_iff_getElem.1 hp (i - 1) i (by omega) hi (by omega)
      rw [List.getD_eq_getElem?_getD, List.getD_eq_getElem?_getD, List.getElem?_eq_getElem hi, List.getElem?_eq_getElem (show i - 1 < L.length by omega)]
      exact this
    rw [leW_iff] at hle
    have hfl := fl_len L
    rw [win2 (by omega), win2 (by omega), (fl_get L i).1, (fl_get L i).2, (fl_get L (i - 1)).1, (fl_get L (i - 1)).2]
    simp only [cmpL]
    unfold cmpI
    split <;> omega
  omega

theorem tame_nil {x : Rw} {pl most : Nat} (h1 : 2 ≤ pl) (h2 : pl ≤ 10) (h3 : most ≤ 10) (h4 : x.ws.length ≤ 9223372036854775807) (h : (tame x pl most).ws = []) : FDet Tryd.prog 18 [.g (rC x 0), .c (.int .i64 pl), .c (.int .i64 most)] [(0, rB x)] 1 (.g (gN (tame x pl most))) [] 1 := by
  have := tame_spec h1 h2 h3 h4
  rw [show tameR (tame x pl most) = .g (gN (tame x pl most)) by rw [tameR, h], show tameH (tame x pl most) = [] by rw [tameH, h], show tameK (tame x pl most) = 1 by rw [tameK, h]] at this
  exact this
theorem gC_LL {g : Gm} {k id : Nat} (h : idOk k id) : LL k (gC g id) := by
  intro x hx
  simp [gC] at hx
  rcases hx with rfl | rfl | rfl | rfl
  · trivial
  · trivial
  · trivial
  · exact h
theorem tame_rs {x : Rw} {pl most : Nat} (h1 : 2 ≤ pl) (h2 : pl ≤ 10) (h3 : most ≤ 10) (h4 : x.ws.length ≤ 9223372036854775807) (h : 0 < (tame x pl most).ws.length) : FDet Tryd.prog 18 [.g (rC x 0), .c (.int .i64 pl), .c (.int .i64 most)] [(0, rB x)] 1 (.g (gC (tame x pl most) 1)) [(1, .row 60 2 (ints (fl (tame x pl most).ws)))] 2 := by
  have := tame_spec h1 h2 h3 h4
  generalize tame x pl most = g at *
  obtain ⟨w, l, hw⟩ : ∃ w l, g.ws = w :: l := by
    cases hq : g.ws with
    | nil => rw [hq] at h; simp at h
    | cons w l => exact ⟨w, l, rfl⟩
  rw [show tameR g = .g (gR g 1) by rw [tameR, hw], show tameH g = [(1, .row 60 2 (ints (fl g.ws)))] by rw [tameH, hw], show tameK g = 2 by rw [tameK, hw]] at this
  exact FDet.post this _ _ (.inr ⟨rfl, rfl, rfl, ⟨⟨rfl, rfl, rfl⟩, trivial⟩, trivial⟩) ⟨⟨⟨rfl, rfl⟩, .inl rfl⟩, trivial⟩ (gC_LL (.inl (by decide))) (by simp [tupA, hpLt, tmLt, AV.lt, AE.lt, AC.lt, LL_cons, LL_nil, idOk, ABlk.lt, ints_LL, GB, tab64_LL, gC, wB, giC, noneB, gst, tC, pC, gN, gR, rC, rB, gO, gOH, gOK]) rfl
theorem given_rs {g : Gm} (h : 0 < g.ws.length) (hl : g.ws.length ≤ 10) : FDet Tryd.prog 20 [.g (gC g 0)] [(0, wB g)] 1 (.g (gC g 1)) [(1, .row 60 2 (ints (fl g.ws)))] 2 :=
  FDet.post (given_row h hl) _ _ (.inr ⟨rfl, rfl, rfl, ⟨⟨rfl, rfl, rfl⟩, trivial⟩, trivial⟩) ⟨⟨⟨rfl, rfl⟩, .inl rfl⟩, trivial⟩ (gC_LL (.inl (by decide))) (by simp [tupA, hpLt, tmLt, AV.lt, AE.lt, AC.lt, LL_cons, LL_nil, idOk, ABlk.lt, ints_LL, GB, tab64_LL, gC, wB, giC, noneB, gst, tC, pC, gN, gR, rC, rB, gO, gOH, gOK]) rfl
end Go.Proofs.YtfphkpdobbffeaaDoor
