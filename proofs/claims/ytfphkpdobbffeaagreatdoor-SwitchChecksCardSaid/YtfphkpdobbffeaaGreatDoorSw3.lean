/-
  Contract: a game made of any numbers.
-/
import Derived.Test.YtfphkpdobbffeaaGreatDoorSw2
import Derived.Test.YtfphkpdobbffeaaGreatDoorCards
import Derived.Test.YtfphkpdobbffeaaGreatDoorTie
import Derived.WalkKit
import Derived.ProofKit
import Derived.OpenShut
import Derived.Deep.DeepHandedRow
import Derived.Lib.LaidTab
import Derived.Stop.LaidErr
set_option linter.unusedSimpArgs false
set_option linter.unusedVariables false
namespace Go.Proofs.YtfphkpdobbffeaaGreatDoor
open Go Go.AH
set_option maxRecDepth 100000
set_option maxHeartbeats 1000000

/-- A game of any numbers. -/
structure Rw where
  n : Int
  s : Int
  t : Int
  ws : List (Int × Int)
def flI (ws : List (Int × Int)) : List Int := ws.flatMap fun w => [w.1, w.2]
theorem flI_len (ws : List (Int × Int)) : (flI ws).length = ws.length * 2 := by
  induction ws with
  | nil => rfl
  | cons w ws ih => simp [flI] at ih ⊢; omega
theorem flI_get (ws : List (Int × Int)) (i : Nat) : (flI ws).getD (i * 2) 0 = (ws.getD i (0, 0)).1 ∧ (flI ws).getD (i * 2 + 1) 0 = (ws.getD i (0, 0)).2 := by
  induction ws generalizing i with
  | nil => simp [flI]
  | cons w ws ih =>
    cases i with
    | zero => simp [flI]
    | succ i =>
      have := ih i
      simp only [flI, List.flatMap_cons, List.getD_eq_getElem?_getD, List.cons_append, List.nil_append] at this ⊢
      rw [show (i + 1) * 2 = i * 2 + 1 + 1 by omega]
      simpa using this
theorem wgetI0 (ws : List (Int × Int)) (i : Nat) : (ints (flI ws)).getD (0 + i * 2 + Int.toNat 0 * 1) (.int .i64 0) = .int .i64 (ws.getD i (0, 0)).1 := by
  rw [ints_getD, show 0 + i * 2 + Int.toNat 0 * 1 = i * 2 by simp, (flI_get ws i).1]
theorem wgetI1 (ws : List (Int × Int)) (i : Nat) : (ints (flI ws)).getD (0 + i * 2 + Int.toNat 1 * 1) (.int .i64 0) = .int .i64 (ws.getD i (0, 0)).2 := by
  rw [ints_getD, show 0 + i * 2 + Int.toNat 1 * 1 = i * 2 + 1 by simp, (flI_get ws i).2]
def rC (x : Rw) (id : Nat) : List AC := [.int .i64 x.n, .int .i64 x.s, .int .i64 x.t, .rs id 0 x.ws.length]
def rB (x : Rw) : ABlk := .ro (ints (flI x.ws))
def um (v : Int) (n : Nat) : Nat := (v % 2 ^ 64 % n).toNat
theorem um_lt (v : Int) {n : Nat} (h : 0 < n) : um v n < n := by
  unfold um
  have := Int.emod_lt_of_pos (v % 2 ^ 64) (show (0 : Int) < n by omega)
  have := Int.emod_nonneg (v % 2 ^ 64) (show (n : Int) ≠ 0 by omega)
  omega
theorem um_int (v : Int) {n : Nat} (h : 0 < n) : ((um v n : Nat) : Int) = IntKind.u64.wrap v % (n : Int) := by
  have h1 := Int.emod_nonneg (v % 2 ^ 64) (show (n : Int) ≠ 0 by omega)
  show ((v % 2 ^ 64 % n).toNat : Int) = v % 2 ^ 64 % (n : Int)
  omega
theorem um_wrap (v : Int) {n : Nat} (h : 0 < n) (h2 : n < 1000000) : IntKind.i64.wrap (IntKind.u64.wrap v % (n : Int)) = ((um v n : Nat) : Int) := by
  have := um_lt v h
  rw [← um_int v h]
  exact AH.wrap_small _ _ (by omega) (by show ((um v n : Nat) : Int) < 2 ^ 64; omega) (by intro _; show ((um v n : Nat) : Int) < 2 ^ 63; omega)
theorem wrap_nn (v : Int) : 0 ≤ IntKind.u64.wrap v := by show 0 ≤ v % 2 ^ 64; omega
def leW (u w : Nat × Nat) : Bool := decide (u.1 < w.1) || decide (u.1 = w.1) && decide (u.2 ≤ w.2)
def posW (l : List (Nat × Nat)) (w : Nat × Nat) : Nat := (l.takeWhile (leW · w)).length
def putW (l : List (Nat × Nat)) (w : Nat × Nat) : List (Nat × Nat) := l.take (posW l w) ++ w :: l.drop (posW l w)
def tameF (n most : Nat) (l : List (Nat × Nat)) (p : Int × Int) : List (Nat × Nat) :=
  if l.length < most then if um p.1 n = um p.2 n then l else putW l (min (um p.1 n) (um p.2 n), max (um p.1 n) (um p.2 n)) else l
def tameN (x : Rw) (pl : Nat) : Nat := 2 + um x.n (pl - 1)
def tameS (x : Rw) (pl : Nat) : Nat := um x.s (tameN x pl)
def tameT (x : Rw) (pl : Nat) : Nat := if tameS x pl = um x.t (tameN x pl) then (tameS x pl + 1) % tameN x pl else um x.t (tameN x pl)
def tameA (x : Rw) (n most k : Nat) : List (Nat × Nat) := (x.ws.take k).foldl (tameF n most) []
def tame (x : Rw) (pl most : Nat) : Gm := ⟨tameN x pl, tameS x pl, tameT x pl, tameA x (tameN x pl) most x.ws.length⟩

def tameR (g : Gm) : AV := match g.ws with
  | [] => .g (gN g)
  | _ => .g (gR g 1)
def tameH (g : Gm) : List (Nat × ABlk) := match g.ws with
  | [] => []
  | ws => [(1, .row 56 2 (ints (fl ws)))]
def tameK (g : Gm) : Nat := match g.ws with
  | [] => 1
  | _ => 2
/-- The game that grows, with its wires. -/
def gO (n S T : Nat) (l : List (Nat × Nat)) : List AC := match l with
  | [] => [.int .i64 n, .int .i64 S, .int .i64 T, .nils]
  | _ :: l => [.int .i64 n, .int .i64 S, .int .i64 T, .row 4 (l.length + 1)]
def gOH (l : List (Nat × Nat)) : List (Nat × ABlk) := match l with
  | [] => []
  | w :: l => [(4, .row 56 2 (ints (fl (w :: l))))]
def gOK (l : List (Nat × Nat)) : Nat := match l with
  | [] => 4
  | _ :: _ => 5
theorem tameA_succ (x : Rw) (n most : Nat) {k : Nat} (h : k < x.ws.length) : tameA x n most (k + 1) = tameF n most (tameA x n most k) (x.ws.getD k (0, 0)) := by
  unfold tameA
  rw [List.take_add_one, List.foldl_append, List.getElem?_eq_getElem h]
  simp [h]
theorem putW_len (l : List (Nat × Nat)) (w : Nat × Nat) : (putW l w).length = l.length + 1 := by
  have := congrArg List.length (List.take_append_drop (posW l w) l)
  simp only [List.length_append] at this
  simp only [putW, List.length_append, List.length_cons]; omega
theorem tameF_len (n most : Nat) (l : List (Nat × Nat)) (p : Int × Int) (h : l.length ≤ most) : (tameF n most l p).length ≤ most := by
  unfold tameF
  split
  · split
    · exact h
    · rw [putW_len]; omega
  · exact h
theorem foldl_full (n most : Nat) : ∀ (ps : List (Int × Int)) (l : List (Nat × Nat)), most ≤ l.length → ps.foldl (tameF n most) l = l
  | [], _, _ => rfl
  | p :: ps, l, h => by
    have : tameF n most l p = l := by unfold tameF; rw [if_neg (by omega)]
    rw [List.foldl_cons, this]
    exact foldl_full n most ps l h
theorem tameA_full (x : Rw) (n most : Nat) {k : Nat} (h : most ≤ (tameA x n most k).length) : tameA x n most x.ws.length = tameA x n most k := by
  have e : tameA x n most x.ws.length = (x.ws.drop k).foldl (tameF n most) (tameA x n most k) := by
    unfold tameA
    rw [← List.foldl_append, List.take_append_drop, List.take_length]
  rw [e, foldl_full n most _ _ h]
theorem posW_le (l : List (Nat × Nat)) (w : Nat × Nat) : posW l w ≤ l.length := (List.takeWhile_sublist _).length_le
theorem posW_step {w : Nat × Nat} : ∀ {l : List (Nat × Nat)} {k : Nat}, k ≤ posW l w → if k < l.length ∧ leW (l.getD k (0, 0)) w = true then k + 1 ≤ posW l w else k = posW l w
  | [], k, h => by simp [posW] at h ⊢; exact h
  | u :: l, k, h => by
    by_cases hu : leW u w = true
    · have e : posW (u :: l) w = posW l w + 1 := by simp [posW, List.takeWhile_cons, hu]
      rw [e] at h ⊢
      cases k with
      | zero => simp [hu]
      | succ k =>
        have := posW_step (w := w) (l := l) (k := k) (by omega)
        simp only [List.length_cons, Nat.add_lt_add_iff_right, List.getD_cons_succ]
        split at this
        · rename_i h2; rw [if_pos h2]; omega
        · rename_i h2; rw [if_neg h2]; omega
    · have e : posW (u :: l) w = 0 := by simp [posW, List.takeWhile_cons, hu]
      rw [e] at h ⊢
      obtain rfl : k = 0 := by omega
      simp [hu]
theorem wgR0 (ws : List (Nat × Nat)) (i : Nat) : (ints (fl ws)).getD (i * 2 + Int.toNat 0 * 1) (.int .i64 0) = .int .i64 ((ws.getD i (0, 0)).1 : Nat) := by
  rw [ints_getD, show i * 2 + Int.toNat 0 * 1 = i * 2 by simp, (fl_get ws i).1]
theorem wgR1 (ws : List (Nat × Nat)) (i : Nat) : (ints (fl ws)).getD (i * 2 + Int.toNat 1 * 1) (.int .i64 0) = .int .i64 ((ws.getD i (0, 0)).2 : Nat) := by
  rw [ints_getD, show i * 2 + Int.toNat 1 * 1 = i * 2 + 1 by simp, (fl_get ws i).2]
theorem fl_take (ws : List (Nat × Nat)) (k : Nat) : fl (ws.take k) = (fl ws).take (k * 2) := by
  induction ws generalizing k with
  | nil => simp [fl]
  | cons w ws ih =>
    cases k with
    | zero => simp [fl]
    | succ k =>
      have := ih k
      simp only [fl, List.take_succ_cons, List.flatMap_cons] at this ⊢
      rw [show (k + 1) * 2 = k * 2 + 1 + 1 by omega, this]
      rfl
theorem fl_drop (ws : List (Nat × Nat)) (k : Nat) : fl (ws.drop k) = (fl ws).drop (k * 2) := by
  induction ws generalizing k with
  | nil => simp [fl]
  | cons w ws ih =>
    cases k with
    | zero => simp [fl]
    | succ k =>
      have := ih k
      simp only [fl, List.drop_succ_cons, List.flatMap_cons] at this ⊢
      rw [show (k + 1) * 2 = k * 2 + 1 + 1 by omega, this]
      rfl
theorem put_cells (L : List (Nat × Nat)) (W : Nat × Nat) (k : Nat) (hk : k ≤ L.length) : ((ints (fl L)).drop 0).take (k * 2) ++ [.int .i64 W.1, .int .i64 W.2] ++ ((ints (fl L)).drop (k * 2)).take ((L.length - k) * 2) = ints (fl (L.take k ++ W :: L.drop k)) := by
  have e : fl (L.take k ++ W :: L.drop k) = (fl L).take (k * 2) ++ ([(W.1 : Int), (W.2 : Int)] ++ (fl L).drop (k * 2)) := by
    rw [← fl_take, ← fl_drop]; simp [fl]
  have e2 : ((ints (fl L)).drop (k * 2)).take ((L.length - k) * 2) = (ints (fl L)).drop (k * 2) := List.take_of_length_le (by rw [List.length_drop, ints_len, fl_len]; omega)
  rw [e, e2]
  simp [ints, List.map_take, List.map_drop]
theorem rBren (x : Rw) (q : Nat → Nat) : some (rB x) = some (ABlk.ren q (rB x)) := by
  show some (ABlk.ro _) = some (ABlk.ro ((ints _).map _))
  rw [ints_ren]
end Go.Proofs.YtfphkpdobbffeaaGreatDoor

/-
  Contract: awake.
-/
namespace Go.Proofs.YtfphkpdobbffeaaGreatDoor
open Go Go.AH
set_option maxRecDepth 100000
set_option maxHeartbeats 1000000

def one : Gm := ⟨2, 0, 1, [(0, 1)]⟩
def two : Gm := ⟨2, 0, 1, [(0, 1), (0, 1)]⟩
def nul : Gm := ⟨2, 0, 1, []⟩
def fou : Gm := ⟨3, 0, 2, [(0, 1), (0, 1), (1, 2), (1, 2)]⟩
theorem one_game : one.game := by unfold Gm.game isGame bad0 badW; decide +kernel
theorem two_game : two.game := by unfold Gm.game isGame bad0 badW; decide +kernel
theorem nul_game : nul.game := by unfold Gm.game isGame bad0 badW; decide +kernel
theorem fou_game : fou.game := by unfold Gm.game isGame bad0 badW; decide +kernel
theorem one_kind : kindB one = "first".toUTF8 := by
  rw [kindB, if_neg (by decide +kernel), if_pos (by decide +kernel)]
theorem two_kind : kindB two = "short".toUTF8 := by
  rw [kindB, if_pos (by decide +kernel)]
theorem nul_kind : kindB nul = "cut".toUTF8 := by
  rw [kindB, if_neg (by decide +kernel), if_neg (by decide +kernel)]
theorem fou_count : cntT fou 16 = 4 := by decide +kernel
theorem two_trees : treesF two (alT two) = some (1, 2) := by decide +kernel
def lit (n s t len : Nat) : List AC := [.int .i64 n, .int .i64 s, .int .i64 t, .sl 0 0 len (some len)]
theorem one_spec : FDet Tryz.prog 13 [.g (lit 2 0 1 1)] [(0, wB one), (100002, .ro tab64)] 1 (.t [.c (.str "first".toUTF8), .c (.int .i64 0)]) [] 1 := by
  rw [← one_kind]
  exact FDet.wk (kind_spec one_game) ⟨.inr ⟨rfl, rfl, rfl, ⟨rfl, rfl, rfl⟩, trivial⟩, trivial⟩ ⟨.inl rfl, .inl rfl, trivial⟩
theorem two_spec : FDet Tryz.prog 13 [.g (lit 2 0 1 2)] [(0, wB two), (100002, .ro tab64)] 1 (.t [.c (.str "short".toUTF8), .c (.int .i64 0)]) [] 1 := by
  rw [← two_kind]
  exact FDet.wk (kind_spec two_game) ⟨.inr ⟨rfl, rfl, rfl, ⟨rfl, rfl, rfl⟩, trivial⟩, trivial⟩ ⟨.inl rfl, .inl rfl, trivial⟩
theorem tab_all (p : Nat → Prop) : (ABlk.ro tab64).all p := fun x hx => by
  obtain ⟨y, _, rfl⟩ := List.mem_map.1 hx; trivial
theorem nul_spec : FDet Tryz.prog 13 [.g (gN nul)] [(100002, .ro tab64)] 1 (.t [.c (.str "cut".toUTF8), .c (.int .i64 0)]) [] 1 := by
  rw [← nul_kind]
  refine FDet.nil0 (kind_spec nul_game) _ 100002 tab64 rfl ⟨.inr ⟨rfl, rfl, rfl, rfl, trivial⟩, trivial⟩ ?_ ?_ ?_
  · intro v hv; simp at hv; subst hv; intro x hx; simp [gN] at hx; rcases hx with rfl | rfl | rfl | rfl <;> trivial
  · intro p hp; simp at hp; subst hp; exact ⟨by decide, tab_all _⟩
  · intro e he; simp at he; rcases he with rfl | rfl <;> trivial
theorem fou_spec : FDet Tryz.prog 20 [.g (lit 3 0 2 4)] [(0, wB fou), (100002, .ro tab64)] 1 (.t [.c (.int .i64 4), .c (.int .i64 0)]) [] 1 := by
  have := count_spec fou_game
  rw [show cntT fou (2 ^ fou.ws.length) = 4 from fou_count] at this
  exact FDet.wk this ⟨.inr ⟨rfl, rfl, rfl, ⟨rfl, rfl, rfl⟩, trivial⟩, trivial⟩ ⟨.inl rfl, .inl rfl, trivial⟩
theorem trees2_spec : FDet Tryz.prog 14 [.g (lit 2 0 1 2)] [(0, wB two), (100002, .ro tab64), (100000, noneB)] 1 (.t [.g [.row 1 1, .row 2 1], .c (.bool true), .c (.int .i64 0)]) [(1, .row 3 1 (ints [0])), (2, .row 3 1 (ints [1]))] 3 := by
  have := Trees_spec two_game
  rw [two_trees] at this
  exact FDet.wk this ⟨.inr ⟨rfl, rfl, rfl, ⟨rfl, rfl, rfl⟩, trivial⟩, trivial⟩ ⟨.inl rfl, .inl rfl, .inl rfl, trivial⟩
theorem chk_spec : FDet Tryz.prog 7 [.g [.int .i64 0, .int .i64 0, .int .i64 0, .nils]] [(100002, .ro tab64)] 1 (.c (.int .i64 80)) [] 1 := by
  have h : FDet Tryz.prog 7 [.g (giC 0 0 0 0 0)] [(0, .ro []), (100002, .ro tab64)] 1 (.c (.int .i64 80)) [] 1 :=
    FSpec.imp (FSpec.wk (hp' := [(0, .ro []), (100002, .ro tab64)]) (args' := [.g (giC 0 0 0 0 0)]) (check_spec 0 0 0 [] 0 rfl) ⟨.inl rfl, trivial⟩ ⟨.inl rfl, trivial⟩) fun r hq k' ⟨h1, h2, h3⟩ => by
      rcases h1 with ⟨h1, _⟩ | ⟨_, h1⟩
      · exact absurd h1 (by unfold isGame bad0; simp)
      · exact ⟨h1, h2, h3⟩
  refine FDet.nil0 h _ 100002 tab64 rfl ⟨.inr ⟨rfl, rfl, rfl, rfl, trivial⟩, trivial⟩ ?_ ?_ trivial
  · intro v hv; simp at hv; subst hv; intro x hx; simp at hx; rcases hx with rfl | rfl <;> trivial
  · intro p hp; simp at hp; subst hp; exact ⟨by decide, tab_all _⟩
def lit4 (id : Nat) : List AC := [.int .i64 2, .int .i64 0, .int .i64 1, .sl id 0 2 (some 2)]
theorem awake_spec : FDet Tryz.prog 8 [] [(100002, .ro tab64), (100000, noneB)] 0 (.c (.bool true)) [] 0 := by
  refine FSpec.of_body tok true Tryz.func8 rfl (by kernel_rfl) (by decide) (by simp [tupA, hpLt, tmLt, AV.lt, AE.lt, AC.lt, LL_cons, LL_nil, idOk, ABlk.lt, ints_LL, GB, tab64_LL, gC, wB, giC, noneB, tC, pC, gN, gR]) (by simp [tupA, hpLt, tmLt, AV.lt, AE.lt, AC.lt, LL_cons, LL_nil, idOk, ABlk.lt, ints_LL, GB, tab64_LL, gC, wB, giC, noneB, tC, pC, gN, gR]) (by show 0 ≤ _; decide) ?_
  (conv => whnf); (repeat ((first | (refine ⟨rfl, ?_⟩) | (refine ⟨trivial, ?_⟩) | (refine Wk.yes ?_) | (refine Wk.no ?_) | (refine Wk.and ?_)); (conv => whnf)))
  refine CallA.ro [0] (.t [.c (.str "first".toUTF8), .c (.int .i64 0)]) (one_spec) (by first | rfl | exact congrArg AV.g (ints_ren _ _) | (simp [ints_ren, AV.ren, ABlk.ren, AC.ren, AE.ren, qq]; done)) rfl (by (repeat (first | exact trivial | refine ⟨⟨(by first | exact .inl (by decide) | exact .inr (by decide)), (by first | rfl | exact congrArg some (ints_ren _ _).symm | exact congrArg ABlk.own (ints_ren _ _).symm | exact congrArg some (tab64_ren _).symm)⟩, ?_⟩))) (by first | rfl | exact congrArg AV.g (ints_ren _ _) | (simp [ints_ren, AV.ren, ABlk.ren, AC.ren, AE.ren, qq]; done)) ?_
  (conv => whnf); (repeat ((first | (refine ⟨rfl, ?_⟩) | (refine ⟨trivial, ?_⟩) | (refine Wk.yes ?_) | (refine Wk.no ?_) | (refine Wk.and ?_)); (conv => whnf)))
  refine CallA.ro [2] (.t [.c (.str "short".toUTF8), .c (.int .i64 0)]) (two_spec) (by first | rfl | exact congrArg AV.g (ints_ren _ _) | (simp [ints_ren, AV.ren, ABlk.ren, AC.ren, AE.ren, qq]; done)) rfl (by (repeat (first | exact trivial | refine ⟨⟨(by first | exact .inl (by decide) | exact .inr (by decide)), (by first | rfl | exact congrArg some (ints_ren _ _).symm | exact congrArg ABlk.own (ints_ren _ _).symm | exact congrArg some (tab64_ren _).symm)⟩, ?_⟩))) (by first | rfl | exact congrArg AV.g (ints_ren _ _) | (simp [ints_ren, AV.ren, ABlk.ren, AC.ren, AE.ren, qq]; done)) ?_
  (conv => whnf); (repeat ((first | (refine ⟨rfl, ?_⟩) | (refine ⟨trivial, ?_⟩) | (refine Wk.yes ?_) | (refine Wk.no ?_) | (refine Wk.and ?_)); (conv => whnf)))
  refine CallA.ro [0] (.t [.c (.str "cut".toUTF8), .c (.int .i64 0)]) (nul_spec) (by first | rfl | exact congrArg AV.g (ints_ren _ _) | (simp [ints_ren, AV.ren, ABlk.ren, AC.ren, AE.ren, qq]; done)) rfl (by (repeat (first | exact trivial | refine ⟨⟨(by first | exact .inl (by decide) | exact .inr (by decide)), (by first | rfl | exact congrArg some (ints_ren _ _).symm | exact congrArg ABlk.own (ints_ren _ _).symm | exact congrArg some (tab64_ren _).symm)⟩, ?_⟩))) (by first | rfl | exact congrArg AV.g (ints_ren _ _) | (simp [ints_ren, AV.ren, ABlk.ren, AC.ren, AE.ren, qq]; done)) ?_
  (conv => whnf); (repeat ((first | (refine ⟨rfl, ?_⟩) | (refine ⟨trivial, ?_⟩) | (refine Wk.yes ?_) | (refine Wk.no ?_) | (refine Wk.and ?_)); (conv => whnf)))
  refine CallA.ro [4] (.t [.c (.int .i64 4), .c (.int .i64 0)]) (fou_spec) (by first | rfl | exact congrArg AV.g (ints_ren _ _) | (simp [ints_ren, AV.ren, ABlk.ren, AC.ren, AE.ren, qq]; done)) rfl (by (repeat (first | exact trivial | refine ⟨⟨(by first | exact .inl (by decide) | exact .inr (by decide)), (by first | rfl | exact congrArg some (ints_ren _ _).symm | exact congrArg ABlk.own (ints_ren _ _).symm | exact congrArg some (tab64_ren _).symm)⟩, ?_⟩))) (by first | rfl | exact congrArg AV.g (ints_ren _ _) | (simp [ints_ren, AV.ren, ABlk.ren, AC.ren, AE.ren, qq]; done)) ?_
  (conv => whnf); (repeat ((first | (refine ⟨rfl, ?_⟩) | (refine ⟨trivial, ?_⟩) | (refine Wk.yes ?_) | (refine Wk.no ?_) | (refine Wk.and ?_)); (conv => whnf)))
  refine CallA.det [2] (.t [.g [.row 5 1, .row 6 1], .c (.bool true), .c (.int .i64 0)]) ([(4, .own (ints [0, 1, 0, 1, 1, 2, 1, 2])), (3, .own (lit4 2)), (2, .own (ints [0, 1, 0, 1])), (1, .own (lit 2 0 1 1)), (0, .own (ints [0, 1])), (100002, .ro tab64), (100000, noneB), (6, .row 3 1 (ints [1])), (5, .row 3 1 (ints [0]))]) (trees2_spec) (by first | rfl | exact congrArg AV.g (ints_ren _ _) | (simp [ints_ren, AV.ren, ABlk.ren, AC.ren, AE.ren, qq]; done)) rfl (by (repeat (first | exact trivial | refine ⟨⟨(by first | exact .inl (by decide) | exact .inr (by decide)), (by first | rfl | exact congrArg some (ints_ren _ _).symm | exact congrArg ABlk.own (ints_ren _ _).symm | exact congrArg some (tab64_ren _).symm)⟩, ?_⟩))) (by first | rfl | exact congrArg AV.g (ints_ren _ _) | (simp [ints_ren, AV.ren, ABlk.ren, AC.ren, AE.ren, qq]; done)) (by first | rfl | (simp [behind, gone, lk, up, del, qq, ABlk.wr, GB, ints_ren, AV.ren, ABlk.ren, AC.ren, AE.ren]; done) | (simp [behind, gone, lk, up, del, qq, ABlk.wr, GB, ints_ren, AV.ren, ABlk.ren, AC.ren, AE.ren]; rfl)) ?_
  (conv => whnf); (repeat ((first | (refine ⟨rfl, ?_⟩) | (refine ⟨trivial, ?_⟩) | (refine Wk.yes ?_) | (refine Wk.no ?_) | (refine Wk.and ?_)); (conv => whnf)))
  refine ⟨fun _ => ?_, fun h => absurd h (by decide +kernel)⟩
  (conv => whnf); (repeat ((first | (refine ⟨rfl, ?_⟩) | (refine ⟨trivial, ?_⟩) | (refine Wk.yes ?_) | (refine Wk.no ?_) | (refine Wk.and ?_)); (conv => whnf)))
  refine ⟨fun _ => ?_, fun h => absurd h (by decide +kernel)⟩
  (conv => whnf); (repeat ((first | (refine ⟨rfl, ?_⟩) | (refine ⟨trivial, ?_⟩) | (refine Wk.yes ?_) | (refine Wk.no ?_) | (refine Wk.and ?_)); (conv => whnf)))
  refine ⟨fun _ => ?_, fun h => absurd h (by decide +kernel)⟩
  (conv => whnf); (repeat ((first | (refine ⟨rfl, ?_⟩) | (refine ⟨trivial, ?_⟩) | (refine Wk.yes ?_) | (refine Wk.no ?_) | (refine Wk.and ?_)); (conv => whnf)))
  refine CallA.ro [0] (.c (.int .i64 80)) (chk_spec) (by first | rfl | exact congrArg AV.g (ints_ren _ _) | (simp [ints_ren, AV.ren, ABlk.ren, AC.ren, AE.ren, qq]; done)) rfl (by (repeat (first | exact trivial | refine ⟨⟨(by first | exact .inl (by decide) | exact .inr (by decide)), (by first | rfl | exact congrArg some (ints_ren _ _).symm | exact congrArg ABlk.own (ints_ren _ _).symm | exact congrArg some (tab64_ren _).symm)⟩, ?_⟩))) (by first | rfl | exact congrArg AV.g (ints_ren _ _) | (simp [ints_ren, AV.ren, ABlk.ren, AC.ren, AE.ren, qq]; done)) ?_
  (conv => whnf); (repeat ((first | (refine ⟨rfl, ?_⟩) | (refine ⟨trivial, ?_⟩) | (refine Wk.yes ?_) | (refine Wk.no ?_) | (refine Wk.and ?_)); (conv => whnf)))
  exact AH.Fin.nil [] ⟨by show AV.c (.bool _) = AV.c (.bool true); rfl, rfl, rfl⟩ (by first | exact trivial | (simp [tupA, hpLt, tmLt, AV.lt, AE.lt, AC.lt, LL_cons, LL_nil, idOk, ABlk.lt, ints_LL, GB, tab64_LL, gC, wB, giC, noneB, tC, pC, gN, gR]; done) | (simp [tupA, hpLt, tmLt, AV.lt, AE.lt, AC.lt, LL_cons, LL_nil, idOk, ABlk.lt, ints_LL, GB, tab64_LL, gC, wB, giC, noneB, tC, pC, gN, gR, rdn, wrn]; done)) trivial trivial rfl (by simp [GB])
end Go.Proofs.YtfphkpdobbffeaaGreatDoor

/-
  From a row's condition to the contracts: a game as the row reads it, and the tables.
-/
namespace Go.Proofs.YtfphkpdobbffeaaGreatDoor
open Go Go.AH Go.ChangeShapes Go.WideShapes Go.ChangeAt Go.RowKit
set_option maxRecDepth 100000

theorem cells56 : Tryz.prog.cellsOf 56 = 2 := by kernel_rfl
theorem cells3 : Tryz.prog.cellsOf 3 = 1 := by kernel_rfl
theorem cells22 : Tryz.prog.cellsOf 22 = 1 := by kernel_rfl
theorem cells24 : Tryz.prog.cellsOf 24 = 4 := by kernel_rfl
theorem laidOut : laidOutB Tryz.prog = true := by kernel_rfl

theorem cell_inv {W : World} {a : Addr} {v : Value} (h : W.cell? a = some v) : ∃ c t z, W.heap[a.block]? = some (.cells c t z) ∧ a.spot = none ∧ c[a.off]? = some v := by
  unfold World.cell? at h
  split at h
  · rename_i c t z hh
    split at h
    · cases h
    · rename_i hs
      exact ⟨c, t, z, hh, by simpa using hs, h⟩
  · cases h
section
variable {H : Type} {enc : TypeId × Value → H} {W : World} {base : Nat} {spare : Nat → Bool} {held : Bool}
theorem one_of_take {cs : List Value} {i : Nat} {v : Value} (h : (cs.drop i).take 1 = [v]) : cs[i]? = some v := by
  have := congrArg (·[0]?) h
  simpa [List.getElem?_take, List.getElem?_drop] using this
theorem trod_pair {fuel : Nat} {cs : List Value} {x : DataW H × List MemPlace} (h : DataW.trod enc Tryz.prog W base spare held fuel 56 cs = some x) : ∃ z0 z1, cs = [.int .i64 z0, .int .i64 z1] := by
  cases fuel with
  | zero => simp [DataW.trod] at h
  | succ fuel =>
    simp only [DataW.trod, Tryz.underlying56, cells56, cells3, Nat.mul_one] at h
    split at h
    · rename_i hl
      obtain ⟨xs, hm, _⟩ := Option.map_eq_some_iff.1 h
      obtain ⟨b0, _, hf0⟩ := Lib.mapM_at hm 0 0 rfl
      obtain ⟨b1, _, hf1⟩ := Lib.mapM_at hm 1 1 rfl
      obtain ⟨z0, hc0, _⟩ := DataW.trod_int Tryz.underlying3 hf0
      obtain ⟨z1, hc1, _⟩ := DataW.trod_int Tryz.underlying3 hf1
      refine ⟨z0, z1, ?_⟩
      match cs, hl with
      | [u, v], _ =>
        simp at hc0 hc1
        rw [hc0, hc1]
    · cases h
theorem choose_ws {len : Nat} {p : Nat → Int × Int → Prop} (h : ∀ i, i < len → ∃ w, p i w) : ∃ ws : List (Int × Int), ws.length = len ∧ ∀ i, i < len → p i (ws.getD i (0, 0)) := by
  induction len with
  | zero => exact ⟨[], rfl, fun i hi => by omega⟩
  | succ n ih =>
    obtain ⟨ws, h1, h2⟩ := ih fun i hi => h i (by omega)
    obtain ⟨w, hw⟩ := h n (by omega)
    refine ⟨ws ++ [w], by simp [h1], fun i hi => ?_⟩
    by_cases e : i < n
    · rw [List.getD_eq_getElem?_getD, List.getElem?_append_left (by omega), ← List.getD_eq_getElem?_getD]; exact h2 i e
    · obtain rfl : i = n := by omega
      rw [List.getD_eq_getElem?_getD, List.getElem?_append_right (by omega)]
      simpa [h1] using hw
/-- What a game reads as. -/
theorem open_game {v : Value} {d : DataW H} {ps : List MemPlace} (hv : Value.okWide Tryz.prog W .any base 24 v) (h : DataW.Trod enc Tryz.prog W 0 spare held 24 v d ps) :
    ∃ (x : Rw) (sv : Value), v = .agg #[.int .i64 x.n, .int .i64 x.s, .int .i64 x.t, sv] ∧ x.ws.length ≤ 9223372036854775807 ∧
      ((sv = .slice none 0 0 ∧ x.ws = []) ∨ ∃ a c, sv = .slice (some a) x.ws.length c ∧ x.ws.length ≤ c ∧ ∀ i, i < x.ws.length → W.cell? (a.add (i * 2)) = some (.int .i64 (x.ws.getD i (0, 0)).1) ∧ W.cell? (a.add (i * 2 + 1)) = some (.int .i64 (x.ws.getD i (0, 0)).2)) := by
  obtain ⟨fuel, h⟩ := h
  obtain ⟨cs, rfl, hsz, _⟩ : ∃ cs, v = .agg cs ∧ cs.size = Tryz.prog.cellsOf 24 ∧ Row.okWide Tryz.prog W .any base 24 cs := by
    unfold Value.okWide at hv
    rw [Tryz.underlying24] at hv
    exact hv
  obtain ⟨xs, n, _, _, hl, hlen, hf⟩ := DataW.trod_struct Tryz.underlying24 h
  rw [cells24] at hsz
  have f0 : DataW.trod enc Tryz.prog W 0 spare held n 3 (List.take (Tryz.prog.cellsOf 3) (List.drop 0 (Value.agg cs).cells.toList)) = xs[0]? := hf 0 _ rfl
  rw [cells3] at f0
  have f1 : DataW.trod enc Tryz.prog W 0 spare held n 3 (List.take (Tryz.prog.cellsOf 3) (List.drop 1 (Value.agg cs).cells.toList)) = xs[1]? := hf 1 _ rfl
  rw [cells3] at f1
  have f2 : DataW.trod enc Tryz.prog W 0 spare held n 3 (List.take (Tryz.prog.cellsOf 3) (List.drop 2 (Value.agg cs).cells.toList)) = xs[2]? := hf 2 _ rfl
  rw [cells3] at f2
  have f3 : DataW.trod enc Tryz.prog W 0 spare held n 22 (List.take (Tryz.prog.cellsOf 22) (List.drop 3 (Value.agg cs).cells.toList)) = xs[3]? := hf 3 _ rfl
  rw [cells22] at f3
  have ex : ∀ i, i < 4 → ∃ y, xs[i]? = some y := fun i hi => ⟨xs[i]'(by rw [hlen]; exact hi), List.getElem?_eq_getElem _⟩
  obtain ⟨y0, e0⟩ := ex 0 (by omega)
  obtain ⟨y1, e1⟩ := ex 1 (by omega)
  obtain ⟨y2, e2⟩ := ex 2 (by omega)
  obtain ⟨y3, e3⟩ := ex 3 (by omega)
  rw [e0] at f0; rw [e1] at f1; rw [e2] at f2; rw [e3] at f3
  obtain ⟨n0, hc0, _⟩ := DataW.trod_int Tryz.underlying3 f0
  obtain ⟨n1, hc1, _⟩ := DataW.trod_int Tryz.underlying3 f1
  obtain ⟨n2, hc2, _⟩ := DataW.trod_int Tryz.underlying3 f2
  have hcs : ∀ sv, (List.take 1 (List.drop 3 (Value.agg cs).cells.toList)) = [sv] → Value.agg cs = .agg #[.int .i64 n0, .int .i64 n1, .int .i64 n2, sv] := fun sv h3 => by
    have g0 := one_of_take hc0
    have g1 := one_of_take hc1
    have g2 := one_of_take hc2
    have g3 := one_of_take h3
    congr 1
    apply Array.ext'
    match hq : cs.toList, (show cs.toList.length = 4 by simpa using hsz) with
    | [a, b, c, d], _ =>
      simp [Value.cells, hq] at g0 g1 g2 g3
      simp [g0, g1, g2, g3]
  rcases DataW.trod_slice Tryz.underlying22 f3 with ⟨h3, _⟩ | ⟨a, len, cap, elems, rest, m, _, h3, _, _, hlc, hcm, hel, hall, _⟩
  · exact ⟨⟨n0, n1, n2, []⟩, _, hcs _ h3, by simp, .inl ⟨rfl, rfl⟩⟩
  · have hw : ∀ i, i < len → ∃ w : Int × Int, W.cell? (a.add (i * 2)) = some (.int .i64 w.1) ∧ W.cell? (a.add (i * 2 + 1)) = some (.int .i64 w.2) := fun i hi => by
      have h4 := hall i hi
      rw [cells56, List.getElem?_eq_getElem (by omega)] at h4
      obtain ⟨cs', g1, g2⟩ := Option.bind_eq_some_iff.1 h4
      obtain ⟨z0, z1, rfl⟩ := trod_pair g2
      obtain ⟨_, _, g3⟩ := World.cells?_some g1
      have k0 := g3 0 (by omega)
      have k1 := g3 1 (by omega)
      rw [Addr.add_add] at k0 k1
      exact ⟨(z0, z1), k0, k1⟩
    obtain ⟨ws, hws, hp⟩ := choose_ws hw
    have hcap : cap ≤ 9223372036854775807 := hcm
    exact ⟨⟨n0, n1, n2, ws⟩, _, hcs _ h3, by show ws.length ≤ _; omega, .inr ⟨a, cap, by rw [hws], by show ws.length ≤ cap; omega, fun i hi => hp i (by rw [← hws]; exact hi)⟩⟩
end

theorem add_cell {W : World} {a : Addr} {n : Nat} {v : Value} (h : W.cell? (a.add n) = some v) : ∃ c t z, W.heap[a.block]? = some (.cells c t z) ∧ c[a.off + n]? = some v := by
  obtain ⟨c, t, z, h1, _, h3⟩ := cell_inv h
  unfold Addr.add at h1 h3
  split at h1
  · rename_i e; subst e
    rw [if_pos rfl] at h3
    exact ⟨c, t, z, h1, h3⟩
  · rename_i e
    rw [if_neg e] at h3
    exact ⟨c, t, z, h1, h3⟩
/-- The caller's numbers: block 0 is the game's wires. -/
def renG (b off : Nat) : Ren := ⟨fun i => if i < GB then b else i - GB, fun i => if i < GB then off else 0, fun i => if i < GB then 0 else 0⟩
theorem renG_ok (b off : Nat) : (renG b off).ok := ⟨fun i => by show (if GB + i < GB then b else GB + i - GB) = i; rw [if_neg (by omega)]; omega, fun i => by show (if GB + i < GB then off else 0) = 0; rw [if_neg (by omega)], fun i => by simp [renG]⟩
theorem flI_all (x : Rw) {p : Nat → Int → Prop} (h : ∀ i, i < x.ws.length → p (i * 2) (x.ws.getD i (0, 0)).1 ∧ p (i * 2 + 1) (x.ws.getD i (0, 0)).2) : ∀ i, i < (flI x.ws).length → p i ((flI x.ws).getD i 0) := fun i hi => by
  rw [flI_len] at hi
  obtain ⟨h0, h1⟩ := h (i / 2) (by omega)
  obtain ⟨g0, g1⟩ := flI_get x.ws (i / 2)
  by_cases e : i % 2 = 0
  · rw [show i / 2 * 2 = i by omega] at g0 h0
    rw [g0]; exact h0
  · rw [show i / 2 * 2 + 1 = i by omega] at g1 h1
    rw [g1]; exact h1
theorem conL_ints {R : Ren} {xs : List Int} {c : Array Value} {o : Nat} (h : ∀ i, i < xs.length → c[o + i]? = some (.int .i64 (xs.getD i 0))) : conL R (ints xs) c o := fun i y hi => by
  have hl : i < xs.length := by have := (List.getElem?_eq_some_iff.1 hi).1; rwa [ints_len] at this
  refine ⟨_, h i hl, ?_⟩
  have e : (ints xs).getD i (.int .i64 0) = .int .i64 (xs.getD i 0) := ints_getD _ _ _
  rw [List.getD_eq_getElem?_getD, hi] at e
  simp at e
  rw [e]; rfl
theorem spot0 {W : World} {a : Addr} {v : Value} (h : W.cell? (a.add (0 * 2)) = some v) : a.spot = none := by
  have e : a.add (0 * 2) = a := by simp [Addr.add]
  rw [e] at h
  obtain ⟨_, _, _, _, h2, _⟩ := cell_inv h
  exact h2
/-- The world as the contracts want it. -/
theorem rel_game {W : World} {x : Rw} {sv : Value} (hsv : (sv = .slice none 0 0 ∧ x.ws = []) ∨ ∃ a c, sv = .slice (some a) x.ws.length c ∧ x.ws.length ≤ c ∧ ∀ i, i < x.ws.length → W.cell? (a.add (i * 2)) = some (.int .i64 (x.ws.getD i (0, 0)).1) ∧ W.cell? (a.add (i * 2 + 1)) = some (.int .i64 (x.ws.getD i (0, 0)).2))
    (h64 : ∃ c t z, W.heap[2]? = some (.cells c t z) ∧ ∀ R : Ren, conL R tab64 c 0) (hno : ∃ c t z, W.heap[0]? = some (.cells c t z) ∧ ∀ R : Ren, conL R [.int .i64 (-1), .int .i64 (-1)] c 0) :
    ∃ b off, HRel (renG b off) [(0, rB x), (100002, .ro tab64), (100000, noneB)] W ∧ conC (renG b off) (.rs 0 0 x.ws.length) sv := by
  have fin : ∀ b off c t z, W.heap[b]? = some (.cells c t z) → conL (renG b off) (ints (flI x.ws)) c off → HRel (renG b off) [(0, rB x), (100002, .ro tab64), (100000, noneB)] W := fun b off c t z hh hc => by
    refine ⟨fun i bl hi => ?_, fun i j bl cl hi hj hne hw => ?_⟩
    · simp only [lk] at hi
      split at hi
      · rename_i e; subst e; injection hi with hi; subst hi
        exact ⟨c, t, z, hh, hc⟩
      · split at hi
        · rename_i e; subst e; injection hi with hi; subst hi
          obtain ⟨c, t, z, h1, h2⟩ := h64
          exact ⟨c, t, z, h1, h2 _⟩
        · split at hi
          · rename_i e; subst e; injection hi with hi; subst hi
            obtain ⟨c, t, z, h1, h2⟩ := hno
            exact ⟨c, t, z, h1, h2 _⟩
          · cases hi
    · simp only [lk] at hi
      split at hi
      · injection hi with hi; subst hi; cases hw
      · split at hi
        · injection hi with hi; subst hi; cases hw
        · split at hi
          · injection hi with hi; subst hi; cases hw
          · cases hi
  have none0 : x.ws = [] → ∀ R : Ren, ∀ c o, conL R (ints (flI x.ws)) c o := fun h R c o i y hi => by rw [h] at hi; simp [flI, ints] at hi
  rcases hsv with ⟨rfl, hws⟩ | ⟨a, cap, rfl, hcap, hcell⟩
  · obtain ⟨c, t, z, h1, _⟩ := hno
    exact ⟨0, 0, fin 0 0 c t z h1 (none0 hws _ _ _), .inr ⟨by rw [hws]; rfl, rfl⟩⟩
  · by_cases h0 : x.ws.length = 0
    · obtain ⟨c, t, z, h1, _⟩ := hno
      exact ⟨0, 0, fin 0 0 c t z h1 (none0 (List.length_eq_zero_iff.1 h0) _ _ _), .inl ⟨a, cap, rfl, fun h => by omega, hcap⟩⟩
    · have hs := spot0 (hcell 0 (by omega)).1
      obtain ⟨c, t, z, hh, _⟩ := add_cell (hcell 0 (by omega)).1
      have get : ∀ n v, W.cell? (a.add n) = some v → c[a.off + n]? = some v := fun n v h => by
        obtain ⟨c', t', z', hh', hv⟩ := add_cell h
        rw [hh] at hh'
        injection hh' with hh'
        injection hh' with e1 e2 e3
        rw [e1]; exact hv
      refine ⟨a.block, a.off, fin _ _ c t z hh (conL_ints (flI_all x (p := fun i v => c[a.off + i]? = some (.int .i64 v)) fun i hi => ⟨get _ _ (hcell i hi).1, get _ _ (hcell i hi).2⟩)), .inl ⟨a, cap, rfl, fun _ => ?_, hcap⟩⟩
      obtain ⟨b, o, sp⟩ := a
      simp only at hs
      subst hs
      rfl
theorem gTab32 : Tryz.prog.globalNamed "math/bits.deBruijn32tab" = some 1 := by kernel_rfl
theorem gTab64 : Tryz.prog.globalNamed "math/bits.deBruijn64tab" = some 2 := by kernel_rfl
theorem gNone : Tryz.prog.globalNamed "bibelot/switches.none" = some 0 := by kernel_rfl
end Go.Proofs.YtfphkpdobbffeaaGreatDoor

/-
  The tables, and the statement SwitchCounts.
-/
namespace Go.Proofs.YtfphkpdobbffeaaGreatDoor
open Go Go.AH Go.ChangeShapes Go.WideShapes Go.ChangeAt Go.RowKit
set_option maxRecDepth 100000

theorem own : ownKnob Tryz.prog.godebug = none := by kernel_rfl
theorem gTab64Type : (Tryz.prog.globals[2]?).map (·.type) = some 132 := by kernel_rfl
theorem gNoneType : (Tryz.prog.globals[0]?).map (·.type) = some 74 := by kernel_rfl
theorem cells132 : Tryz.prog.cellsOf 132 = 64 := by kernel_rfl
theorem cells74 : Tryz.prog.cellsOf 74 = 2 := by kernel_rfl
theorem cells5 : Tryz.prog.cellsOf 5 = 1 := by kernel_rfl
def lays : List (String × DataW Unit) := [("math/bits.deBruijn32tab", Rows.laid_math_bits_deBruijn32tab), ("math/bits.deBruijn64tab", Rows.laid_math_bits_deBruijn64tab), ("bibelot/switches.none", Rows.laid_bibelot_switches_none)]
theorem tab64_is {W : World} (h : laidMet Tryz.prog lays W) : Lib.TabIs Tryz.prog W "math/bits.deBruijn64tab" .u8 tabI :=
  Lib.tabIs_of_head (rest := [("bibelot/switches.none", Rows.laid_bibelot_switches_none)]) gTab64 gTab64Type Tryz.underlying132 Tryz.underlying5 cells5 cells132 (laidMet.tail h)
theorem none_is {W : World} (h : laidMet Tryz.prog lays W) : Lib.TabIs Tryz.prog W "bibelot/switches.none" .i64 [-1, -1] := by
  obtain ⟨ps, ⟨g', t', cs, fuel, p, q, hg', ht', hvar, hd, _, _⟩, _⟩ := laidMet.tail (laidMet.tail h)
  obtain rfl := Option.some.inj (gNone.symm.trans hg')
  obtain rfl := Option.some.inj (gNoneType.symm.trans ht')
  obtain ⟨y0, y1, n, he, hl, h0, h1⟩ := trod_struct2 Tryz.underlying74 hd
  have h0 : DataW.trod _ Tryz.prog W _ _ _ n 3 (List.take (Tryz.prog.cellsOf 3) (List.drop 0 cs.toList)) = some y0 := h0
  have h1 : DataW.trod _ Tryz.prog W _ _ _ n 3 (List.take (Tryz.prog.cellsOf 3) (List.drop 1 cs.toList)) = some y1 := h1
  rw [cells3] at h0 h1
  obtain ⟨z0, c0, e0, _⟩ := DataW.trod_int Tryz.underlying3 h0
  obtain ⟨z1, c1, e1, _⟩ := DataW.trod_int Tryz.underlying3 h1
  rw [cells74] at hl
  subst e0; subst e1
  have he : (DataW.agg [.lit (.int .i64 (-1)), .lit (.int .i64 (-1))] : DataW Unit) = .agg [.lit (.int .i64 z0), .lit (.int .i64 z1)] := congrArg Prod.fst he
  simp at he
  obtain ⟨rfl, rfl⟩ := he
  unfold Lib.TabIs
  rw [hvar]
  congr 1
  apply Array.ext'
  match hq : cs.toList, hl with
  | [u, v], _ =>
    rw [hq] at c0 c1
    simp at c0 c1
    simp [c0, c1]
theorem tab_cells {W : World} {g : Nat} {k : IntKind} {zs : List Int} (hl : 0 < zs.length) (h : ∀ i, i < zs.length → W.cell? ⟨g, i, none⟩ = some (.int k (zs.getD i 0))) : ∃ c t z, W.heap[g]? = some (.cells c t z) ∧ ∀ R : Ren, conL R (zs.map (AC.int k)) c 0 := by
  obtain ⟨c, t, z, hh, _, _⟩ := cell_inv (h 0 hl)
  refine ⟨c, t, z, hh, fun R i x hx => ?_⟩
  have hi : i < zs.length := by have := (List.getElem?_eq_some_iff.1 hx).1; simpa using this
  obtain ⟨c', t', z', hh', _, hv⟩ := cell_inv (h i hi)
  rw [show (⟨g, 0, none⟩ : Addr).block = (⟨g, i, none⟩ : Addr).block from rfl, hh'] at hh
  injection hh with hh
  injection hh with e1 _ _
  refine ⟨.int k (zs.getD i 0), by rw [Nat.zero_add, ← e1]; exact hv, ?_⟩
  simp only [List.getElem?_map] at hx
  rw [List.getD_eq_getElem?_getD]
  obtain ⟨y, hy, rfl⟩ := Option.map_eq_some_iff.1 hx
  rw [hy]; rfl
theorem tab64_cells {W : World} (h : laidMet Tryz.prog lays W) : ∃ c t z, W.heap[2]? = some (.cells c t z) ∧ ∀ R : Ren, conL R tab64 c 0 :=
  tab_cells (zs := tabI) (by decide) fun i hi => (tab64_is h).cell gTab64 i hi
theorem none_cells {W : World} (h : laidMet Tryz.prog lays W) : ∃ c t z, W.heap[0]? = some (.cells c t z) ∧ ∀ R : Ren, conL R [.int .i64 (-1), .int .i64 (-1)] c 0 :=
  tab_cells (zs := [-1, -1]) (by decide) fun i hi => (none_is h).cell gNone i hi

/-- A law of one game: from its contract to its calls. -/
theorem calls_game {f : FuncId} {W : World} {x : Rw} {sv : Value} (hc : FDet Tryz.prog f [.g (rC x 0)] [(0, rB x), (100002, .ro tab64), (100000, noneB)] 1 (.c (.bool true)) [] 1)
    (hsv : (sv = .slice none 0 0 ∧ x.ws = []) ∨ ∃ a c, sv = .slice (some a) x.ws.length c ∧ x.ws.length ≤ c ∧ ∀ i, i < x.ws.length → W.cell? (a.add (i * 2)) = some (.int .i64 (x.ws.getD i (0, 0)).1) ∧ W.cell? (a.add (i * 2 + 1)) = some (.int .i64 (x.ws.getD i (0, 0)).2))
    (hL : laidMet Tryz.prog lays W) : Calls Tryz.prog f #[.agg #[.int .i64 x.n, .int .i64 x.s, .int .i64 x.t, sv]] W fun e W' => e = .returned (.bool true) ∧ Below W.heap.size W W' := by
  obtain ⟨b, off, hR, hs⟩ := rel_game hsv (tab64_cells hL) (none_cells hL)
  refine (hc.run W (renG b off) _ (renG_ok _ _) rfl (fun i v hi => ?_) hR).mono ?_
  · match i, hi with
    | 0, hi =>
      injection hi with hi
      subst hi
      refine ⟨_, rfl, _, rfl, rfl, fun j y hj => ?_⟩
      match j, hj with
      | 0, hj => injection hj with hj; subst hj; exact ⟨_, rfl, rfl⟩
      | 1, hj => injection hj with hj; subst hj; exact ⟨_, rfl, rfl⟩
      | 2, hj => injection hj with hj; subst hj; exact ⟨_, rfl, rfl⟩
      | 3, hj => injection hj with hj; subst hj; exact ⟨_, rfl, hs⟩
      | _ + 4, hj => simp [rC] at hj
    | _ + 1, hi => simp at hi
  · rintro e w' ⟨u, r, hp', k', R', h1, ⟨h2, _, _⟩, _, _, _, h6, _, _, _, _, _, h12⟩
    subst h2
    have hu : u = .bool true := h6
    subst hu
    refine ⟨h1, (h12.mono ?_).below⟩
    rintro j ⟨i, bl, g1, g2, _⟩
    simp only [lk] at g1
    split at g1
    · injection g1 with g1; subst g1; cases g2
    · split at g1
      · injection g1 with g1; subst g1; cases g2
      · split at g1
        · injection g1 with g1; subst g1; cases g2
        · cases g1
def lay (vs : Array Value) : Obj → Obj
  | .cells _ t z => .cells vs t z
  | o => o
/-- A world for the witness: the settled one, with the tables as they are laid. -/
noncomputable def laidWorld (os : Os) : World :=
  { World.holding Tryz.prog os ⟨#[], #[], []⟩ with heap := (((World.holding Tryz.prog os ⟨#[], #[], []⟩).heap.modify 0 (lay #[.int .i64 (-1), .int .i64 (-1)])).modify 1 (lay ((([0, 1, 28, 2, 29, 14, 24, 3, 30, 22, 20, 15, 25, 17, 4, 8, 31, 27, 13, 23, 21, 19, 16, 7, 26, 12, 18, 6, 11, 5, 10, 9] : List Int).map (Value.int .u8)).toArray))).modify 2 (lay ((tabI.map (Value.int .u8)).toArray)) }
def wit : Value := .agg #[.int .i64 0, .int .i64 0, .int .i64 0, .slice none 0 0]
theorem laid_met (os : Os) : laidMet Tryz.prog lays ((laidWorld os).forCall (fun _ _ => 0) ⟨#[], #[wit], []⟩).memory :=
  laidMet_of_run' 8 (by kernel_rfl) (by kernel_rfl)
end Go.Proofs.YtfphkpdobbffeaaGreatDoor

/-
  Laws of a game and of prime values; the tables of five.
-/
namespace Go.Proofs.YtfphkpdobbffeaaGreatDoor
open Go Go.AH Go.ChangeShapes Go.WideShapes Go.ChangeAt Go.RowKit
set_option maxRecDepth 100000

def lays5 : List (String × DataW Unit) := [("math/bits.deBruijn32tab", Rows.laid_math_bits_deBruijn32tab), ("math/bits.deBruijn64tab", Rows.laid_math_bits_deBruijn64tab), ("unicode/utf8.acceptRanges", Rows.laid_unicode_utf8_acceptRanges), ("bibelot/switches.none", Rows.laid_bibelot_switches_none), ("unicode/utf8.first", Rows.laid_unicode_utf8_first)]
theorem none_of {W : World} {rest : List (String × DataW Unit)} (h : laidMet Tryz.prog (("bibelot/switches.none", Rows.laid_bibelot_switches_none) :: rest) W) : Lib.TabIs Tryz.prog W "bibelot/switches.none" .i64 [-1, -1] := by
  obtain ⟨ps, ⟨g', t', cs, fuel, p, q, hg', ht', hvar, hd, _, _⟩, _⟩ := h
  obtain rfl := Option.some.inj (gNone.symm.trans hg')
  obtain rfl := Option.some.inj (gNoneType.symm.trans ht')
  obtain ⟨y0, y1, n, he, hl, h0, h1⟩ := trod_struct2 Tryz.underlying74 hd
  have h0 : DataW.trod _ Tryz.prog W _ _ _ n 3 (List.take (Tryz.prog.cellsOf 3) (List.drop 0 cs.toList)) = some y0 := h0
  have h1 : DataW.trod _ Tryz.prog W _ _ _ n 3 (List.take (Tryz.prog.cellsOf 3) (List.drop 1 cs.toList)) = some y1 := h1
  rw [cells3] at h0 h1
  obtain ⟨z0, c0, e0, _⟩ := DataW.trod_int Tryz.underlying3 h0
  obtain ⟨z1, c1, e1, _⟩ := DataW.trod_int Tryz.underlying3 h1
  rw [cells74] at hl
  subst e0; subst e1
  have he : (DataW.agg [.lit (.int .i64 (-1)), .lit (.int .i64 (-1))] : DataW Unit) = .agg [.lit (.int .i64 z0), .lit (.int .i64 z1)] := congrArg Prod.fst he
  simp at he
  obtain ⟨rfl, rfl⟩ := he
  unfold Lib.TabIs
  rw [hvar]
  congr 1
  apply Array.ext'
  match hq : cs.toList, hl with
  | [u, v], _ =>
    rw [hq] at c0 c1
    simp at c0 c1
    simp [c0, c1]
theorem tab64_cells5 {W : World} (h : laidMet Tryz.prog lays5 W) : ∃ c t z, W.heap[2]? = some (.cells c t z) ∧ ∀ R : Ren, conL R tab64 c 0 :=
  tab_cells (zs := tabI) (by decide) fun i hi => (show Lib.TabIs Tryz.prog W "math/bits.deBruijn64tab" .u8 tabI from Lib.tabIs_of_head (rest := [("unicode/utf8.acceptRanges", Rows.laid_unicode_utf8_acceptRanges), ("bibelot/switches.none", Rows.laid_bibelot_switches_none), ("unicode/utf8.first", Rows.laid_unicode_utf8_first)]) gTab64 gTab64Type Tryz.underlying132 Tryz.underlying5 cells5 cells132 (laidMet.tail h)).cell gTab64 i hi
theorem none_cells5 {W : World} (h : laidMet Tryz.prog lays5 W) : ∃ c t z, W.heap[0]? = some (.cells c t z) ∧ ∀ R : Ren, conL R [.int .i64 (-1), .int .i64 (-1)] c 0 :=
  tab_cells (zs := [-1, -1]) (by decide) fun i hi => (none_of (laidMet.tail (laidMet.tail (laidMet.tail h)))).cell gNone i hi

/-- A law of one game and of prime values: from its contract to its calls. -/
theorem calls_more {f : FuncId} {W : World} {x : Rw} {sv : Value} {args : List AV} {us : List Value} (hc : FDet Tryz.prog f (.g (rC x 0) :: args) [(0, rB x), (100002, .ro tab64), (100000, noneB)] 1 (.c (.bool true)) [] 1)
    (hsv : (sv = .slice none 0 0 ∧ x.ws = []) ∨ ∃ a c, sv = .slice (some a) x.ws.length c ∧ x.ws.length ≤ c ∧ ∀ i, i < x.ws.length → W.cell? (a.add (i * 2)) = some (.int .i64 (x.ws.getD i (0, 0)).1) ∧ W.cell? (a.add (i * 2 + 1)) = some (.int .i64 (x.ws.getD i (0, 0)).2))
    (hl : us.length = args.length) (hA : ∀ (R : Ren) (i : Nat) (v : AV), args[i]? = some v → ∃ u : Value, us[i]? = some u ∧ conV R v u)
    (h64 : ∃ c t z, W.heap[2]? = some (.cells c t z) ∧ ∀ R : Ren, conL R tab64 c 0) (hno : ∃ c t z, W.heap[0]? = some (.cells c t z) ∧ ∀ R : Ren, conL R [.int .i64 (-1), .int .i64 (-1)] c 0) : Calls Tryz.prog f ((Value.agg #[.int .i64 x.n, .int .i64 x.s, .int .i64 x.t, sv]) :: us).toArray W fun e W' => e = .returned (.bool true) ∧ Below W.heap.size W W' := by
  obtain ⟨b, off, hR, hs⟩ := rel_game hsv h64 hno
  refine (hc.run W (renG b off) _ (renG_ok _ _) (by simp [hl]) (fun i v hi => ?_) hR).mono ?_
  · match i, hi with
    | 0, hi =>
      injection hi with hi
      subst hi
      refine ⟨_, rfl, _, rfl, rfl, fun j y hj => ?_⟩
      match j, hj with
      | 0, hj => injection hj with hj; subst hj; exact ⟨_, rfl, rfl⟩
      | 1, hj => injection hj with hj; subst hj; exact ⟨_, rfl, rfl⟩
      | 2, hj => injection hj with hj; subst hj; exact ⟨_, rfl, rfl⟩
      | 3, hj => injection hj with hj; subst hj; exact ⟨_, rfl, hs⟩
      | _ + 4, hj => simp [rC] at hj
    | i + 1, hi =>
      obtain ⟨u, hu, hcv⟩ := hA (renG b off) i v (by simpa using hi)
      exact ⟨u, by simpa using hu, hcv⟩
  · rintro e w' ⟨u, r, hp', k', R', h1, ⟨h2, _, _⟩, _, _, _, h6, _, _, _, _, _, h12⟩
    subst h2
    have hu : u = .bool true := h6
    subst hu
    refine ⟨h1, (h12.mono ?_).below⟩
    rintro j ⟨i, bl, g1, g2, _⟩
    simp only [lk] at g1
    split at g1
    · injection g1 with g1; subst g1; cases g2
    · split at g1
      · injection g1 with g1; subst g1; cases g2
      · split at g1
        · injection g1 with g1; subst g1; cases g2
        · cases g1
def litV : DataW Unit → List Value
  | .lit (.int k n) => [.int k n]
  | _ => []
def litVs : DataW Unit → List Value
  | .lit (.int k n) => [.int k n]
  | .agg l => l.flatMap litV
  | _ => []
def flatV : DataW Unit → Array Value
  | .agg l => (l.flatMap litVs).toArray
  | _ => #[]
/-- A world for the witness: the settled one, with the tables as they are laid. -/
noncomputable def laidWorld5 (os : Os) : World :=
  { laidWorld os with heap := ((laidWorld os).heap.modify 3 (lay (flatV Rows.laid_unicode_utf8_first))).modify 4 (lay (flatV Rows.laid_unicode_utf8_acceptRanges)) }
theorem laid_met5 (os : Os) : laidMet Tryz.prog lays5 ((laidWorld5 os).forCall (fun _ _ => 0) ⟨#[], #[wit, .string ⟨#[]⟩], []⟩).memory :=
  laidMet_of_run' 8 (by kernel_rfl) (by kernel_rfl)
theorem open_str {W : World} {base : Nat} {v : Value} (hv : Value.okWide Tryz.prog W .any base 9 v) : ∃ s, v = .string s := by
  unfold Value.okWide at hv
  rw [Tryz.underlying9] at hv
  have hv : Cell.okWide Tryz.prog W .any base 9 v := hv
  unfold Cell.okWide at hv
  rw [Tryz.underlying9] at hv
  have hv : Cell.ok Tryz.prog W .any base 9 v := by cases v <;> exact hv
  unfold Cell.ok at hv
  rw [Tryz.underlying9] at hv
  cases v <;> first | exact ⟨_, rfl⟩ | exact absurd hv (by simp)
end Go.Proofs.YtfphkpdobbffeaaGreatDoor

/-
  Contracts of the other seat: any numbers as a game; what every function answers where there is no game.
-/
namespace Go.Proofs.YtfphkpdobbffeaaGreatDoor
open Go Go.AH
set_option maxRecDepth 100000
set_option maxHeartbeats 1000000

def giN (n s t : Int) : List AC := [.int .i64 n, .int .i64 s, .int .i64 t, .nils]
theorem giN_all (n s t : Int) (p : Nat → Prop) : (AV.g (giN n s t)).all p := by
  intro x hx; simp [giN] at hx; rcases hx with rfl | rfl | rfl | rfl <;> trivial
/-- A contract of any numbers as a game, where there are no wires. -/
theorem nilI {n s t : Int} {fn : FuncId} {args : List AV} {r : AV} {k' : Nat} (h1 : FDet Tryz.prog fn (.g (giC n s t 0 0) :: args) [(0, .ro []), (100002, .ro tab64)] 1 r [] k')
    (hw : wkVs [(0, .ro []), (100002, .ro tab64)] args args) (ha : ∀ v ∈ args, v.all (· ≠ 0)) (hr : r.all (· ≠ 0)) : FDet Tryz.prog fn (.g (giN n s t) :: args) [(100002, .ro tab64)] 1 r [] k' := by
  refine FDet.nil0 h1 _ 100002 tab64 rfl ⟨.inr ⟨rfl, rfl, rfl, rfl, trivial⟩, hw⟩ ?_ ?_ hr
  · intro v hv
    rcases List.mem_cons.1 hv with rfl | hv
    · exact giN_all n s t _
    · exact ha v hv
  · intro p hp; simp at hp; subst hp; exact ⟨by decide, tab_all _⟩
theorem chk_bad {n s t : Int} {fw : List Int} {m : Nat} (hl : fw.length = m * 2) (h : ¬ isGame n s t fw m) : FDet Tryz.prog 7 [.g (giC n s t m 0)] [(0, .ro (ints fw)), (100002, .ro tab64)] 1 (.c (.int .i64 80)) [] 1 :=
  FSpec.imp (FSpec.wk (hp' := [(0, .ro (ints fw)), (100002, .ro tab64)]) (args' := [.g (giC n s t m 0)]) (check_spec n s t fw m hl) ⟨.inl rfl, trivial⟩ ⟨.inl rfl, trivial⟩) fun r hq k' ⟨h1, h2, h3⟩ => by
    rcases h1 with ⟨h1, _⟩ | ⟨_, h1⟩
    · exact absurd h1 h
    · exact ⟨h1, h2, h3⟩
theorem chk_good {n s t : Int} {fw : List Int} {m : Nat} (hl : fw.length = m * 2) (h : isGame n s t fw m) : FDet Tryz.prog 7 [.g (giC n s t m 0)] [(0, .ro (ints fw)), (100002, .ro tab64)] 1 (.c (.int .i64 0)) [] 1 :=
  FSpec.imp (FSpec.wk (hp' := [(0, .ro (ints fw)), (100002, .ro tab64)]) (args' := [.g (giC n s t m 0)]) (check_spec n s t fw m hl) ⟨.inl rfl, trivial⟩ ⟨.inl rfl, trivial⟩) fun r hq k' ⟨h1, h2, h3⟩ => by
    rcases h1 with ⟨_, h1⟩ | ⟨h1, _⟩
    · exact ⟨h1, h2, h3⟩
    · exact absurd h h1
def bs (l : List UInt8) : ByteArray := ⟨l.toArray⟩
theorem bs_list (b : ByteArray) : b = bs b.data.toList := by cases b; rfl
theorem bad_CheckPosition {n s t : Int} {fw : List Int} {m : Nat} (hl : fw.length = m * 2) (h : ¬ isGame n s t fw m) (l : List UInt8) : FDet Tryz.prog 9 [.g (giC n s t m 0), .c (.str (bs l))] [(0, .ro (ints fw)), (100002, .ro tab64)] 1 (.c (.int .i64 80)) [] 1 := by
  refine FSpec.of_body tok true Tryz.func9 rfl (by kernel_rfl) (by decide) (by simp [tupA, hpLt, tmLt, AV.lt, AE.lt, AC.lt, LL_cons, LL_nil, idOk, ABlk.lt, ints_LL, GB, tab64_LL, gC, wB, giC, noneB, tC, pC, rC, rB, giN]) (by simp [tupA, hpLt, tmLt, AV.lt, AE.lt, AC.lt, LL_cons, LL_nil, idOk, ABlk.lt, ints_LL, GB, tab64_LL, gC, wB, giC, noneB, tC, pC, rC, rB, giN]) (by show 2 ≤ _; decide) ?_
  (conv => whnf); (repeat ((first | (refine ⟨rfl, ?_⟩) | (refine ⟨trivial, ?_⟩) | (refine Wk.yes ?_) | (refine Wk.no ?_) | (refine Wk.and ?_)); (conv => whnf)))
  refine CallA.ro [0] (.c (.int .i64 80)) (chk_bad hl h) (by first | rfl | exact congrArg AV.g (ints_ren _ _) | (simp [ints_ren, AV.ren, ABlk.ren, AC.ren, AE.ren, qq]; done)) rfl (by (repeat (first | exact trivial | refine ⟨⟨(by first | exact .inl (by decide) | exact .inr (by decide)), (by first | rfl | exact congrArg some (ints_ren _ _).symm | exact congrArg ABlk.own (ints_ren _ _).symm | exact congrArg some (tab64_ren _).symm)⟩, ?_⟩))) (by first | rfl | exact congrArg AV.g (ints_ren _ _) | (simp [ints_ren, AV.ren, ABlk.ren, AC.ren, AE.ren, qq]; done)) ?_
  (conv => whnf); (repeat ((first | (refine ⟨rfl, ?_⟩) | (refine ⟨trivial, ?_⟩) | (refine Wk.yes ?_) | (refine Wk.no ?_) | (refine Wk.and ?_)); (conv => whnf)))
  exact AH.Fin.nil [] ⟨rfl, rfl, rfl⟩ (by first | exact trivial | (simp [tupA, hpLt, tmLt, AV.lt, AE.lt, AC.lt, LL_cons, LL_nil, idOk, ABlk.lt, ints_LL, GB, tab64_LL, gC, wB, giC, noneB, tC, pC, rC, rB, giN]; done) | (simp [tupA, hpLt, tmLt, AV.lt, AE.lt, AC.lt, LL_cons, LL_nil, idOk, ABlk.lt, ints_LL, GB, tab64_LL, gC, wB, giC, noneB, tC, pC, rC, rB, giN, rdn, wrn]; done)) trivial trivial rfl (by simp [GB])
theorem bad_Joined {n s t : Int} {fw : List Int} {m : Nat} (hl : fw.length = m * 2) (h : ¬ isGame n s t fw m)  : FDet Tryz.prog 10 [.g (giC n s t m 0), .c (.str ⟨#[]⟩)] [(0, .ro (ints fw)), (100002, .ro tab64)] 1 (.t [.c (.bool false), .c (.int .i64 80)]) [] 1 := by
  refine FSpec.of_body tok true Tryz.func10 rfl (by kernel_rfl) (by decide) (by simp [tupA, hpLt, tmLt, AV.lt, AE.lt, AC.lt, LL_cons, LL_nil, idOk, ABlk.lt, ints_LL, GB, tab64_LL, gC, wB, giC, noneB, tC, pC, rC, rB, giN]) (by simp [tupA, hpLt, tmLt, AV.lt, AE.lt, AC.lt, LL_cons, LL_nil, idOk, ABlk.lt, ints_LL, GB, tab64_LL, gC, wB, giC, noneB, tC, pC, rC, rB, giN]) (by show 2 ≤ _; decide) ?_
  (conv => whnf); (repeat ((first | (refine ⟨rfl, ?_⟩) | (refine ⟨trivial, ?_⟩) | (refine Wk.yes ?_) | (refine Wk.no ?_) | (refine Wk.and ?_)); (conv => whnf)))
  refine CallA.ro [0] (.c (.int .i64 80)) (bad_CheckPosition hl h []) (by first | rfl | exact congrArg AV.g (ints_ren _ _) | (simp [ints_ren, AV.ren, ABlk.ren, AC.ren, AE.ren, qq]; done)) rfl (by (repeat (first | exact trivial | refine ⟨⟨(by first | exact .inl (by decide) | exact .inr (by decide)), (by first | rfl | exact congrArg some (ints_ren _ _).symm | exact congrArg ABlk.own (ints_ren _ _).symm | exact congrArg some (tab64_ren _).symm)⟩, ?_⟩))) (by first | rfl | exact congrArg AV.g (ints_ren _ _) | (simp [ints_ren, AV.ren, ABlk.ren, AC.ren, AE.ren, qq]; done)) ?_
  (conv => whnf); (repeat ((first | (refine ⟨rfl, ?_⟩) | (refine ⟨trivial, ?_⟩) | (refine Wk.yes ?_) | (refine Wk.no ?_) | (refine Wk.and ?_)); (conv => whnf)))
  exact AH.Fin.nil [] ⟨rfl, rfl, rfl⟩ (by first | exact trivial | (simp [tupA, hpLt, tmLt, AV.lt, AE.lt, AC.lt, LL_cons, LL_nil, idOk, ABlk.lt, ints_LL, GB, tab64_LL, gC, wB, giC, noneB, tC, pC, rC, rB, giN]; done) | (simp [tupA, hpLt, tmLt, AV.lt, AE.lt, AC.lt, LL_cons, LL_nil, idOk, ABlk.lt, ints_LL, GB, tab64_LL, gC, wB, giC, noneB, tC, pC, rC, rB, giN, rdn, wrn]; done)) trivial trivial rfl (by simp [GB])
theorem bad_Wins {n s t : Int} {fw : List Int} {m : Nat} (hl : fw.length = m * 2) (h : ¬ isGame n s t fw m)  : FDet Tryz.prog 11 [.g (giC n s t m 0), .c (.str ⟨#[]⟩), .c (.bool true)] [(0, .ro (ints fw)), (100002, .ro tab64)] 1 (.t [.c (.bool false), .c (.int .i64 80)]) [] 1 := by
  refine FSpec.of_body tok true Tryz.func11 rfl (by kernel_rfl) (by decide) (by simp [tupA, hpLt, tmLt, AV.lt, AE.lt, AC.lt, LL_cons, LL_nil, idOk, ABlk.lt, ints_LL, GB, tab64_LL, gC, wB, giC, noneB, tC, pC, rC, rB, giN]) (by simp [tupA, hpLt, tmLt, AV.lt, AE.lt, AC.lt, LL_cons, LL_nil, idOk, ABlk.lt, ints_LL, GB, tab64_LL, gC, wB, giC, noneB, tC, pC, rC, rB, giN]) (by show 3 ≤ _; decide) ?_
  (conv => whnf); (repeat ((first | (refine ⟨rfl, ?_⟩) | (refine ⟨trivial, ?_⟩) | (refine Wk.yes ?_) | (refine Wk.no ?_) | (refine Wk.and ?_)); (conv => whnf)))
  refine CallA.ro [0] (.c (.int .i64 80)) (bad_CheckPosition hl h []) (by first | rfl | exact congrArg AV.g (ints_ren _ _) | (simp [ints_ren, AV.ren, ABlk.ren, AC.ren, AE.ren, qq]; done)) rfl (by (repeat (first | exact trivial | refine ⟨⟨(by first | exact .inl (by decide) | exact .inr (by decide)), (by first | rfl | exact congrArg some (ints_ren _ _).symm | exact congrArg ABlk.own (ints_ren _ _).symm | exact congrArg some (tab64_ren _).symm)⟩, ?_⟩))) (by first | rfl | exact congrArg AV.g (ints_ren _ _) | (simp [ints_ren, AV.ren, ABlk.ren, AC.ren, AE.ren, qq]; done)) ?_
  (conv => whnf); (repeat ((first | (refine ⟨rfl, ?_⟩) | (refine ⟨trivial, ?_⟩) | (refine Wk.yes ?_) | (refine Wk.no ?_) | (refine Wk.and ?_)); (conv => whnf)))
  exact AH.Fin.nil [] ⟨rfl, rfl, rfl⟩ (by first | exact trivial | (simp [tupA, hpLt, tmLt, AV.lt, AE.lt, AC.lt, LL_cons, LL_nil, idOk, ABlk.lt, ints_LL, GB, tab64_LL, gC, wB, giC, noneB, tC, pC, rC, rB, giN]; done) | (simp [tupA, hpLt, tmLt, AV.lt, AE.lt, AC.lt, LL_cons, LL_nil, idOk, ABlk.lt, ints_LL, GB, tab64_LL, gC, wB, giC, noneB, tC, pC, rC, rB, giN, rdn, wrn]; done)) trivial trivial rfl (by simp [GB])
theorem bad_Best {n s t : Int} {fw : List Int} {m : Nat} (hl : fw.length = m * 2) (h : ¬ isGame n s t fw m)  : FDet Tryz.prog 12 [.g (giC n s t m 0), .c (.str ⟨#[]⟩), .c (.bool true)] [(0, .ro (ints fw)), (100002, .ro tab64)] 1 (.t [.c (.int .i64 0), .c (.bool false), .c (.int .i64 80)]) [] 1 := by
  refine FSpec.of_body tok true Tryz.func12 rfl (by kernel_rfl) (by decide) (by simp [tupA, hpLt, tmLt, AV.lt, AE.lt, AC.lt, LL_cons, LL_nil, idOk, ABlk.lt, ints_LL, GB, tab64_LL, gC, wB, giC, noneB, tC, pC, rC, rB, giN]) (by simp [tupA, hpLt, tmLt, AV.lt, AE.lt, AC.lt, LL_cons, LL_nil, idOk, ABlk.lt, ints_LL, GB, tab64_LL, gC, wB, giC, noneB, tC, pC, rC, rB, giN]) (by show 3 ≤ _; decide) ?_
  (conv => whnf); (repeat ((first | (refine ⟨rfl, ?_⟩) | (refine ⟨trivial, ?_⟩) | (refine Wk.yes ?_) | (refine Wk.no ?_) | (refine Wk.and ?_)); (conv => whnf)))
  refine CallA.ro [0] (.c (.int .i64 80)) (bad_CheckPosition hl h []) (by first | rfl | exact congrArg AV.g (ints_ren _ _) | (simp [ints_ren, AV.ren, ABlk.ren, AC.ren, AE.ren, qq]; done)) rfl (by (repeat (first | exact trivial | refine ⟨⟨(by first | exact .inl (by decide) | exact .inr (by decide)), (by first | rfl | exact congrArg some (ints_ren _ _).symm | exact congrArg ABlk.own (ints_ren _ _).symm | exact congrArg some (tab64_ren _).symm)⟩, ?_⟩))) (by first | rfl | exact congrArg AV.g (ints_ren _ _) | (simp [ints_ren, AV.ren, ABlk.ren, AC.ren, AE.ren, qq]; done)) ?_
  (conv => whnf); (repeat ((first | (refine ⟨rfl, ?_⟩) | (refine ⟨trivial, ?_⟩) | (refine Wk.yes ?_) | (refine Wk.no ?_) | (refine Wk.and ?_)); (conv => whnf)))
  exact AH.Fin.nil [] ⟨rfl, rfl, rfl⟩ (by first | exact trivial | (simp [tupA, hpLt, tmLt, AV.lt, AE.lt, AC.lt, LL_cons, LL_nil, idOk, ABlk.lt, ints_LL, GB, tab64_LL, gC, wB, giC, noneB, tC, pC, rC, rB, giN]; done) | (simp [tupA, hpLt, tmLt, AV.lt, AE.lt, AC.lt, LL_cons, LL_nil, idOk, ABlk.lt, ints_LL, GB, tab64_LL, gC, wB, giC, noneB, tC, pC, rC, rB, giN, rdn, wrn]; done)) trivial trivial rfl (by simp [GB])
theorem bad_Kind {n s t : Int} {fw : List Int} {m : Nat} (hl : fw.length = m * 2) (h : ¬ isGame n s t fw m)  : FDet Tryz.prog 13 [.g (giC n s t m 0)] [(0, .ro (ints fw)), (100002, .ro tab64)] 1 (.t [.c (.str ⟨#[]⟩), .c (.int .i64 80)]) [] 1 := by
  refine FSpec.of_body tok true Tryz.func13 rfl (by kernel_rfl) (by decide) (by simp [tupA, hpLt, tmLt, AV.lt, AE.lt, AC.lt, LL_cons, LL_nil, idOk, ABlk.lt, ints_LL, GB, tab64_LL, gC, wB, giC, noneB, tC, pC, rC, rB, giN]) (by simp [tupA, hpLt, tmLt, AV.lt, AE.lt, AC.lt, LL_cons, LL_nil, idOk, ABlk.lt, ints_LL, GB, tab64_LL, gC, wB, giC, noneB, tC, pC, rC, rB, giN]) (by show 1 ≤ _; decide) ?_
  (conv => whnf); (repeat ((first | (refine ⟨rfl, ?_⟩) | (refine ⟨trivial, ?_⟩) | (refine Wk.yes ?_) | (refine Wk.no ?_) | (refine Wk.and ?_)); (conv => whnf)))
  refine CallA.ro [0] (.c (.int .i64 80)) (chk_bad hl h) (by first | rfl | exact congrArg AV.g (ints_ren _ _) | (simp [ints_ren, AV.ren, ABlk.ren, AC.ren, AE.ren, qq]; done)) rfl (by (repeat (first | exact trivial | refine ⟨⟨(by first | exact .inl (by decide) | exact .inr (by decide)), (by first | rfl | exact congrArg some (ints_ren _ _).symm | exact congrArg ABlk.own (ints_ren _ _).symm | exact congrArg some (tab64_ren _).symm)⟩, ?_⟩))) (by first | rfl | exact congrArg AV.g (ints_ren _ _) | (simp [ints_ren, AV.ren, ABlk.ren, AC.ren, AE.ren, qq]; done)) ?_
  (conv => whnf); (repeat ((first | (refine ⟨rfl, ?_⟩) | (refine ⟨trivial, ?_⟩) | (refine Wk.yes ?_) | (refine Wk.no ?_) | (refine Wk.and ?_)); (conv => whnf)))
  exact AH.Fin.nil [] ⟨rfl, rfl, rfl⟩ (by first | exact trivial | (simp [tupA, hpLt, tmLt, AV.lt, AE.lt, AC.lt, LL_cons, LL_nil, idOk, ABlk.lt, ints_LL, GB, tab64_LL, gC, wB, giC, noneB, tC, pC, rC, rB, giN]; done) | (simp [tupA, hpLt, tmLt, AV.lt, AE.lt, AC.lt, LL_cons, LL_nil, idOk, ABlk.lt, ints_LL, GB, tab64_LL, gC, wB, giC, noneB, tC, pC, rC, rB, giN, rdn, wrn]; done)) trivial trivial rfl (by simp [GB])
theorem bad_Trees {n s t : Int} {fw : List Int} {m : Nat} (hl : fw.length = m * 2) (h : ¬ isGame n s t fw m)  : FDet Tryz.prog 14 [.g (giC n s t m 0)] [(0, .ro (ints fw)), (100002, .ro tab64)] 1 (.t [.g [.nils, .nils], .c (.bool false), .c (.int .i64 80)]) [] 1 := by
  refine FSpec.of_body tok true Tryz.func14 rfl (by kernel_rfl) (by decide) (by simp [tupA, hpLt, tmLt, AV.lt, AE.lt, AC.lt, LL_cons, LL_nil, idOk, ABlk.lt, ints_LL, GB, tab64_LL, gC, wB, giC, noneB, tC, pC, rC, rB, giN]) (by simp [tupA, hpLt, tmLt, AV.lt, AE.lt, AC.lt, LL_cons, LL_nil, idOk, ABlk.lt, ints_LL, GB, tab64_LL, gC, wB, giC, noneB, tC, pC, rC, rB, giN]) (by show 1 ≤ _; decide) ?_
  (conv => whnf); (repeat ((first | (refine ⟨rfl, ?_⟩) | (refine ⟨trivial, ?_⟩) | (refine Wk.yes ?_) | (refine Wk.no ?_) | (refine Wk.and ?_)); (conv => whnf)))
  refine CallA.ro [0] (.c (.int .i64 80)) (chk_bad hl h) (by first | rfl | exact congrArg AV.g (ints_ren _ _) | (simp [ints_ren, AV.ren, ABlk.ren, AC.ren, AE.ren, qq]; done)) rfl (by (repeat (first | exact trivial | refine ⟨⟨(by first | exact .inl (by decide) | exact .inr (by decide)), (by first | rfl | exact congrArg some (ints_ren _ _).symm | exact congrArg ABlk.own (ints_ren _ _).symm | exact congrArg some (tab64_ren _).symm)⟩, ?_⟩))) (by first | rfl | exact congrArg AV.g (ints_ren _ _) | (simp [ints_ren, AV.ren, ABlk.ren, AC.ren, AE.ren, qq]; done)) ?_
  (conv => whnf); (repeat ((first | (refine ⟨rfl, ?_⟩) | (refine ⟨trivial, ?_⟩) | (refine Wk.yes ?_) | (refine Wk.no ?_) | (refine Wk.and ?_)); (conv => whnf)))
  exact AH.Fin.nil [] ⟨rfl, rfl, rfl⟩ (by first | exact trivial | (simp [tupA, hpLt, tmLt, AV.lt, AE.lt, AC.lt, LL_cons, LL_nil, idOk, ABlk.lt, ints_LL, GB, tab64_LL, gC, wB, giC, noneB, tC, pC, rC, rB, giN]; done) | (simp [tupA, hpLt, tmLt, AV.lt, AE.lt, AC.lt, LL_cons, LL_nil, idOk, ABlk.lt, ints_LL, GB, tab64_LL, gC, wB, giC, noneB, tC, pC, rC, rB, giN, rdn, wrn]; done)) trivial trivial rfl (by simp [GB])
theorem bad_IsTrees {n s t : Int} {fw : List Int} {m : Nat} (hl : fw.length = m * 2) (h : ¬ isGame n s t fw m)  : FDet Tryz.prog 15 [.g (giC n s t m 0), .g [.nils, .nils]] [(0, .ro (ints fw)), (100002, .ro tab64)] 1 (.t [.c (.bool false), .c (.int .i64 80)]) [] 1 := by
  refine FSpec.of_body tok true Tryz.func15 rfl (by kernel_rfl) (by decide) (by simp [tupA, hpLt, tmLt, AV.lt, AE.lt, AC.lt, LL_cons, LL_nil, idOk, ABlk.lt, ints_LL, GB, tab64_LL, gC, wB, giC, noneB, tC, pC, rC, rB, giN]) (by simp [tupA, hpLt, tmLt, AV.lt, AE.lt, AC.lt, LL_cons, LL_nil, idOk, ABlk.lt, ints_LL, GB, tab64_LL, gC, wB, giC, noneB, tC, pC, rC, rB, giN]) (by show 2 ≤ _; decide) ?_
  (conv => whnf); (repeat ((first | (refine ⟨rfl, ?_⟩) | (refine ⟨trivial, ?_⟩) | (refine Wk.yes ?_) | (refine Wk.no ?_) | (refine Wk.and ?_)); (conv => whnf)))
  refine CallA.ro [0] (.c (.int .i64 80)) (chk_bad hl h) (by first | rfl | exact congrArg AV.g (ints_ren _ _) | (simp [ints_ren, AV.ren, ABlk.ren, AC.ren, AE.ren, qq]; done)) rfl (by (repeat (first | exact trivial | refine ⟨⟨(by first | exact .inl (by decide) | exact .inr (by decide)), (by first | rfl | exact congrArg some (ints_ren _ _).symm | exact congrArg ABlk.own (ints_ren _ _).symm | exact congrArg some (tab64_ren _).symm)⟩, ?_⟩))) (by first | rfl | exact congrArg AV.g (ints_ren _ _) | (simp [ints_ren, AV.ren, ABlk.ren, AC.ren, AE.ren, qq]; done)) ?_
  (conv => whnf); (repeat ((first | (refine ⟨rfl, ?_⟩) | (refine ⟨trivial, ?_⟩) | (refine Wk.yes ?_) | (refine Wk.no ?_) | (refine Wk.and ?_)); (conv => whnf)))
  exact AH.Fin.nil [] ⟨rfl, rfl, rfl⟩ (by first | exact trivial | (simp [tupA, hpLt, tmLt, AV.lt, AE.lt, AC.lt, LL_cons, LL_nil, idOk, ABlk.lt, ints_LL, GB, tab64_LL, gC, wB, giC, noneB, tC, pC, rC, rB, giN]; done) | (simp [tupA, hpLt, tmLt, AV.lt, AE.lt, AC.lt, LL_cons, LL_nil, idOk, ABlk.lt, ints_LL, GB, tab64_LL, gC, wB, giC, noneB, tC, pC, rC, rB, giN, rdn, wrn]; done)) trivial trivial rfl (by simp [GB])
theorem bad_Reply {n s t : Int} {fw : List Int} {m : Nat} (hl : fw.length = m * 2) (h : ¬ isGame n s t fw m)  : FDet Tryz.prog 16 [.g (giC n s t m 0), .g [.nils, .nils], .c (.int .i64 0)] [(0, .ro (ints fw)), (100002, .ro tab64)] 1 (.t [.c (.int .i64 0), .c (.bool false), .c (.int .i64 80)]) [] 1 := by
  refine FSpec.of_body tok true Tryz.func16 rfl (by kernel_rfl) (by decide) (by simp [tupA, hpLt, tmLt, AV.lt, AE.lt, AC.lt, LL_cons, LL_nil, idOk, ABlk.lt, ints_LL, GB, tab64_LL, gC, wB, giC, noneB, tC, pC, rC, rB, giN]) (by simp [tupA, hpLt, tmLt, AV.lt, AE.lt, AC.lt, LL_cons, LL_nil, idOk, ABlk.lt, ints_LL, GB, tab64_LL, gC, wB, giC, noneB, tC, pC, rC, rB, giN]) (by show 3 ≤ _; decide) ?_
  (conv => whnf); (repeat ((first | (refine ⟨rfl, ?_⟩) | (refine ⟨trivial, ?_⟩) | (refine Wk.yes ?_) | (refine Wk.no ?_) | (refine Wk.and ?_)); (conv => whnf)))
  refine CallA.ro [0] (.c (.int .i64 80)) (chk_bad hl h) (by first | rfl | exact congrArg AV.g (ints_ren _ _) | (simp [ints_ren, AV.ren, ABlk.ren, AC.ren, AE.ren, qq]; done)) rfl (by (repeat (first | exact trivial | refine ⟨⟨(by first | exact .inl (by decide) | exact .inr (by decide)), (by first | rfl | exact congrArg some (ints_ren _ _).symm | exact congrArg ABlk.own (ints_ren _ _).symm | exact congrArg some (tab64_ren _).symm)⟩, ?_⟩))) (by first | rfl | exact congrArg AV.g (ints_ren _ _) | (simp [ints_ren, AV.ren, ABlk.ren, AC.ren, AE.ren, qq]; done)) ?_
  (conv => whnf); (repeat ((first | (refine ⟨rfl, ?_⟩) | (refine ⟨trivial, ?_⟩) | (refine Wk.yes ?_) | (refine Wk.no ?_) | (refine Wk.and ?_)); (conv => whnf)))
  exact AH.Fin.nil [] ⟨rfl, rfl, rfl⟩ (by first | exact trivial | (simp [tupA, hpLt, tmLt, AV.lt, AE.lt, AC.lt, LL_cons, LL_nil, idOk, ABlk.lt, ints_LL, GB, tab64_LL, gC, wB, giC, noneB, tC, pC, rC, rB, giN]; done) | (simp [tupA, hpLt, tmLt, AV.lt, AE.lt, AC.lt, LL_cons, LL_nil, idOk, ABlk.lt, ints_LL, GB, tab64_LL, gC, wB, giC, noneB, tC, pC, rC, rB, giN, rdn, wrn]; done)) trivial trivial rfl (by simp [GB])
theorem bad_Spanning {n s t : Int} {fw : List Int} {m : Nat} (hl : fw.length = m * 2) (h : ¬ isGame n s t fw m)  : FDet Tryz.prog 17 [.g (giC n s t m 0)] [(0, .ro (ints fw)), (100002, .ro tab64)] 1 (.t [.g [.nils, .nils], .c (.bool false), .c (.int .i64 80)]) [] 1 := by
  refine FSpec.of_body tok true Tryz.func17 rfl (by kernel_rfl) (by decide) (by simp [tupA, hpLt, tmLt, AV.lt, AE.lt, AC.lt, LL_cons, LL_nil, idOk, ABlk.lt, ints_LL, GB, tab64_LL, gC, wB, giC, noneB, tC, pC, rC, rB, giN]) (by simp [tupA, hpLt, tmLt, AV.lt, AE.lt, AC.lt, LL_cons, LL_nil, idOk, ABlk.lt, ints_LL, GB, tab64_LL, gC, wB, giC, noneB, tC, pC, rC, rB, giN]) (by show 1 ≤ _; decide) ?_
  (conv => whnf); (repeat ((first | (refine ⟨rfl, ?_⟩) | (refine ⟨trivial, ?_⟩) | (refine Wk.yes ?_) | (refine Wk.no ?_) | (refine Wk.and ?_)); (conv => whnf)))
  refine CallA.ro [0] (.c (.int .i64 80)) (chk_bad hl h) (by first | rfl | exact congrArg AV.g (ints_ren _ _) | (simp [ints_ren, AV.ren, ABlk.ren, AC.ren, AE.ren, qq]; done)) rfl (by (repeat (first | exact trivial | refine ⟨⟨(by first | exact .inl (by decide) | exact .inr (by decide)), (by first | rfl | exact congrArg some (ints_ren _ _).symm | exact congrArg ABlk.own (ints_ren _ _).symm | exact congrArg some (tab64_ren _).symm)⟩, ?_⟩))) (by first | rfl | exact congrArg AV.g (ints_ren _ _) | (simp [ints_ren, AV.ren, ABlk.ren, AC.ren, AE.ren, qq]; done)) ?_
  (conv => whnf); (repeat ((first | (refine ⟨rfl, ?_⟩) | (refine ⟨trivial, ?_⟩) | (refine Wk.yes ?_) | (refine Wk.no ?_) | (refine Wk.and ?_)); (conv => whnf)))
  exact AH.Fin.nil [] ⟨rfl, rfl, rfl⟩ (by first | exact trivial | (simp [tupA, hpLt, tmLt, AV.lt, AE.lt, AC.lt, LL_cons, LL_nil, idOk, ABlk.lt, ints_LL, GB, tab64_LL, gC, wB, giC, noneB, tC, pC, rC, rB, giN]; done) | (simp [tupA, hpLt, tmLt, AV.lt, AE.lt, AC.lt, LL_cons, LL_nil, idOk, ABlk.lt, ints_LL, GB, tab64_LL, gC, wB, giC, noneB, tC, pC, rC, rB, giN, rdn, wrn]; done)) trivial trivial rfl (by simp [GB])
theorem bad_Barrier {n s t : Int} {fw : List Int} {m : Nat} (hl : fw.length = m * 2) (h : ¬ isGame n s t fw m)  : FDet Tryz.prog 18 [.g (giC n s t m 0)] [(0, .ro (ints fw)), (100002, .ro tab64)] 1 (.t [.c .nils, .c (.bool false), .c (.int .i64 80)]) [] 1 := by
  refine FSpec.of_body tok true Tryz.func18 rfl (by kernel_rfl) (by decide) (by simp [tupA, hpLt, tmLt, AV.lt, AE.lt, AC.lt, LL_cons, LL_nil, idOk, ABlk.lt, ints_LL, GB, tab64_LL, gC, wB, giC, noneB, tC, pC, rC, rB, giN]) (by simp [tupA, hpLt, tmLt, AV.lt, AE.lt, AC.lt, LL_cons, LL_nil, idOk, ABlk.lt, ints_LL, GB, tab64_LL, gC, wB, giC, noneB, tC, pC, rC, rB, giN]) (by show 1 ≤ _; decide) ?_
  (conv => whnf); (repeat ((first | (refine ⟨rfl, ?_⟩) | (refine ⟨trivial, ?_⟩) | (refine Wk.yes ?_) | (refine Wk.no ?_) | (refine Wk.and ?_)); (conv => whnf)))
  refine CallA.ro [0] (.c (.int .i64 80)) (chk_bad hl h) (by first | rfl | exact congrArg AV.g (ints_ren _ _) | (simp [ints_ren, AV.ren, ABlk.ren, AC.ren, AE.ren, qq]; done)) rfl (by (repeat (first | exact trivial | refine ⟨⟨(by first | exact .inl (by decide) | exact .inr (by decide)), (by first | rfl | exact congrArg some (ints_ren _ _).symm | exact congrArg ABlk.own (ints_ren _ _).symm | exact congrArg some (tab64_ren _).symm)⟩, ?_⟩))) (by first | rfl | exact congrArg AV.g (ints_ren _ _) | (simp [ints_ren, AV.ren, ABlk.ren, AC.ren, AE.ren, qq]; done)) ?_
  (conv => whnf); (repeat ((first | (refine ⟨rfl, ?_⟩) | (refine ⟨trivial, ?_⟩) | (refine Wk.yes ?_) | (refine Wk.no ?_) | (refine Wk.and ?_)); (conv => whnf)))
  exact AH.Fin.nil [] ⟨rfl, rfl, rfl⟩ (by first | exact trivial | (simp [tupA, hpLt, tmLt, AV.lt, AE.lt, AC.lt, LL_cons, LL_nil, idOk, ABlk.lt, ints_LL, GB, tab64_LL, gC, wB, giC, noneB, tC, pC, rC, rB, giN]; done) | (simp [tupA, hpLt, tmLt, AV.lt, AE.lt, AC.lt, LL_cons, LL_nil, idOk, ABlk.lt, ints_LL, GB, tab64_LL, gC, wB, giC, noneB, tC, pC, rC, rB, giN, rdn, wrn]; done)) trivial trivial rfl (by simp [GB])
theorem bad_IsBarrier {n s t : Int} {fw : List Int} {m : Nat} (hl : fw.length = m * 2) (h : ¬ isGame n s t fw m)  : FDet Tryz.prog 19 [.g (giC n s t m 0), .c .nils] [(0, .ro (ints fw)), (100002, .ro tab64)] 1 (.t [.c (.bool false), .c (.int .i64 80)]) [] 1 := by
  refine FSpec.of_body tok true Tryz.func19 rfl (by kernel_rfl) (by decide) (by simp [tupA, hpLt, tmLt, AV.lt, AE.lt, AC.lt, LL_cons, LL_nil, idOk, ABlk.lt, ints_LL, GB, tab64_LL, gC, wB, giC, noneB, tC, pC, rC, rB, giN]) (by simp [tupA, hpLt, tmLt, AV.lt, AE.lt, AC.lt, LL_cons, LL_nil, idOk, ABlk.lt, ints_LL, GB, tab64_LL, gC, wB, giC, noneB, tC, pC, rC, rB, giN]) (by show 2 ≤ _; decide) ?_
  (conv => whnf); (repeat ((first | (refine ⟨rfl, ?_⟩) | (refine ⟨trivial, ?_⟩) | (refine Wk.yes ?_) | (refine Wk.no ?_) | (refine Wk.and ?_)); (conv => whnf)))
  refine CallA.ro [0] (.c (.int .i64 80)) (chk_bad hl h) (by first | rfl | exact congrArg AV.g (ints_ren _ _) | (simp [ints_ren, AV.ren, ABlk.ren, AC.ren, AE.ren, qq]; done)) rfl (by (repeat (first | exact trivial | refine ⟨⟨(by first | exact .inl (by decide) | exact .inr (by decide)), (by first | rfl | exact congrArg some (ints_ren _ _).symm | exact congrArg ABlk.own (ints_ren _ _).symm | exact congrArg some (tab64_ren _).symm)⟩, ?_⟩))) (by first | rfl | exact congrArg AV.g (ints_ren _ _) | (simp [ints_ren, AV.ren, ABlk.ren, AC.ren, AE.ren, qq]; done)) ?_
  (conv => whnf); (repeat ((first | (refine ⟨rfl, ?_⟩) | (refine ⟨trivial, ?_⟩) | (refine Wk.yes ?_) | (refine Wk.no ?_) | (refine Wk.and ?_)); (conv => whnf)))
  exact AH.Fin.nil [] ⟨rfl, rfl, rfl⟩ (by first | exact trivial | (simp [tupA, hpLt, tmLt, AV.lt, AE.lt, AC.lt, LL_cons, LL_nil, idOk, ABlk.lt, ints_LL, GB, tab64_LL, gC, wB, giC, noneB, tC, pC, rC, rB, giN]; done) | (simp [tupA, hpLt, tmLt, AV.lt, AE.lt, AC.lt, LL_cons, LL_nil, idOk, ABlk.lt, ints_LL, GB, tab64_LL, gC, wB, giC, noneB, tC, pC, rC, rB, giN, rdn, wrn]; done)) trivial trivial rfl (by simp [GB])
theorem bad_Count {n s t : Int} {fw : List Int} {m : Nat} (hl : fw.length = m * 2) (h : ¬ isGame n s t fw m)  : FDet Tryz.prog 20 [.g (giC n s t m 0)] [(0, .ro (ints fw)), (100002, .ro tab64)] 1 (.t [.c (.int .i64 0), .c (.int .i64 80)]) [] 1 := by
  refine FSpec.of_body tok true Tryz.func20 rfl (by kernel_rfl) (by decide) (by simp [tupA, hpLt, tmLt, AV.lt, AE.lt, AC.lt, LL_cons, LL_nil, idOk, ABlk.lt, ints_LL, GB, tab64_LL, gC, wB, giC, noneB, tC, pC, rC, rB, giN]) (by simp [tupA, hpLt, tmLt, AV.lt, AE.lt, AC.lt, LL_cons, LL_nil, idOk, ABlk.lt, ints_LL, GB, tab64_LL, gC, wB, giC, noneB, tC, pC, rC, rB, giN]) (by show 1 ≤ _; decide) ?_
  (conv => whnf); (repeat ((first | (refine ⟨rfl, ?_⟩) | (refine ⟨trivial, ?_⟩) | (refine Wk.yes ?_) | (refine Wk.no ?_) | (refine Wk.and ?_)); (conv => whnf)))
  refine CallA.ro [0] (.c (.int .i64 80)) (chk_bad hl h) (by first | rfl | exact congrArg AV.g (ints_ren _ _) | (simp [ints_ren, AV.ren, ABlk.ren, AC.ren, AE.ren, qq]; done)) rfl (by (repeat (first | exact trivial | refine ⟨⟨(by first | exact .inl (by decide) | exact .inr (by decide)), (by first | rfl | exact congrArg some (ints_ren _ _).symm | exact congrArg ABlk.own (ints_ren _ _).symm | exact congrArg some (tab64_ren _).symm)⟩, ?_⟩))) (by first | rfl | exact congrArg AV.g (ints_ren _ _) | (simp [ints_ren, AV.ren, ABlk.ren, AC.ren, AE.ren, qq]; done)) ?_
  (conv => whnf); (repeat ((first | (refine ⟨rfl, ?_⟩) | (refine ⟨trivial, ?_⟩) | (refine Wk.yes ?_) | (refine Wk.no ?_) | (refine Wk.and ?_)); (conv => whnf)))
  exact AH.Fin.nil [] ⟨rfl, rfl, rfl⟩ (by first | exact trivial | (simp [tupA, hpLt, tmLt, AV.lt, AE.lt, AC.lt, LL_cons, LL_nil, idOk, ABlk.lt, ints_LL, GB, tab64_LL, gC, wB, giC, noneB, tC, pC, rC, rB, giN]; done) | (simp [tupA, hpLt, tmLt, AV.lt, AE.lt, AC.lt, LL_cons, LL_nil, idOk, ABlk.lt, ints_LL, GB, tab64_LL, gC, wB, giC, noneB, tC, pC, rC, rB, giN, rdn, wrn]; done)) trivial trivial rfl (by simp [GB])
theorem bad_openWire {n s t : Int} {fw : List Int} {m : Nat} (hl : fw.length = m * 2) (h : ¬ isGame n s t fw m)  : FDet Tryz.prog 44 [.g (giC n s t m 0), .c (.int .i64 0)] [(0, .ro (ints fw)), (100002, .ro tab64)] 1 (.c (.int .i64 80)) [] 1 := by
  refine FSpec.of_body tok true Tryz.func44 rfl (by kernel_rfl) (by decide) (by simp [tupA, hpLt, tmLt, AV.lt, AE.lt, AC.lt, LL_cons, LL_nil, idOk, ABlk.lt, ints_LL, GB, tab64_LL, gC, wB, giC, noneB, tC, pC, rC, rB, giN]) (by simp [tupA, hpLt, tmLt, AV.lt, AE.lt, AC.lt, LL_cons, LL_nil, idOk, ABlk.lt, ints_LL, GB, tab64_LL, gC, wB, giC, noneB, tC, pC, rC, rB, giN]) (by show 2 ≤ _; decide) ?_
  (conv => whnf); (repeat ((first | (refine ⟨rfl, ?_⟩) | (refine ⟨trivial, ?_⟩) | (refine Wk.yes ?_) | (refine Wk.no ?_) | (refine Wk.and ?_)); (conv => whnf)))
  refine CallA.ro [0] (.c (.int .i64 80)) (chk_bad hl h) (by first | rfl | exact congrArg AV.g (ints_ren _ _) | (simp [ints_ren, AV.ren, ABlk.ren, AC.ren, AE.ren, qq]; done)) rfl (by (repeat (first | exact trivial | refine ⟨⟨(by first | exact .inl (by decide) | exact .inr (by decide)), (by first | rfl | exact congrArg some (ints_ren _ _).symm | exact congrArg ABlk.own (ints_ren _ _).symm | exact congrArg some (tab64_ren _).symm)⟩, ?_⟩))) (by first | rfl | exact congrArg AV.g (ints_ren _ _) | (simp [ints_ren, AV.ren, ABlk.ren, AC.ren, AE.ren, qq]; done)) ?_
  (conv => whnf); (repeat ((first | (refine ⟨rfl, ?_⟩) | (refine ⟨trivial, ?_⟩) | (refine Wk.yes ?_) | (refine Wk.no ?_) | (refine Wk.and ?_)); (conv => whnf)))
  exact AH.Fin.nil [] ⟨rfl, rfl, rfl⟩ (by first | exact trivial | (simp [tupA, hpLt, tmLt, AV.lt, AE.lt, AC.lt, LL_cons, LL_nil, idOk, ABlk.lt, ints_LL, GB, tab64_LL, gC, wB, giC, noneB, tC, pC, rC, rB, giN]; done) | (simp [tupA, hpLt, tmLt, AV.lt, AE.lt, AC.lt, LL_cons, LL_nil, idOk, ABlk.lt, ints_LL, GB, tab64_LL, gC, wB, giC, noneB, tC, pC, rC, rB, giN, rdn, wrn]; done)) trivial trivial rfl (by simp [GB])
theorem bad_Shorter {n s t : Int} {fw : List Int} {m : Nat} (hl : fw.length = m * 2) (h : ¬ isGame n s t fw m)  : FDet Tryz.prog 21 [.g (giC n s t m 0), .c (.int .i64 0)] [(0, .ro (ints fw)), (100002, .ro tab64)] 1 (.t [.g [.int .i64 0, .int .i64 0, .int .i64 0, .nils], .c (.int .i64 80)]) [] 1 := by
  refine FSpec.of_body tok true Tryz.func21 rfl (by kernel_rfl) (by decide) (by simp [tupA, hpLt, tmLt, AV.lt, AE.lt, AC.lt, LL_cons, LL_nil, idOk, ABlk.lt, ints_LL, GB, tab64_LL, gC, wB, giC, noneB, tC, pC, rC, rB, giN]) (by simp [tupA, hpLt, tmLt, AV.lt, AE.lt, AC.lt, LL_cons, LL_nil, idOk, ABlk.lt, ints_LL, GB, tab64_LL, gC, wB, giC, noneB, tC, pC, rC, rB, giN]) (by show 2 ≤ _; decide) ?_
  (conv => whnf); (repeat ((first | (refine ⟨rfl, ?_⟩) | (refine ⟨trivial, ?_⟩) | (refine Wk.yes ?_) | (refine Wk.no ?_) | (refine Wk.and ?_)); (conv => whnf)))
  refine CallA.ro [0] (.c (.int .i64 80)) (bad_openWire hl h) (by first | rfl | exact congrArg AV.g (ints_ren _ _) | (simp [ints_ren, AV.ren, ABlk.ren, AC.ren, AE.ren, qq]; done)) rfl (by (repeat (first | exact trivial | refine ⟨⟨(by first | exact .inl (by decide) | exact .inr (by decide)), (by first | rfl | exact congrArg some (ints_ren _ _).symm | exact congrArg ABlk.own (ints_ren _ _).symm | exact congrArg some (tab64_ren _).symm)⟩, ?_⟩))) (by first | rfl | exact congrArg AV.g (ints_ren _ _) | (simp [ints_ren, AV.ren, ABlk.ren, AC.ren, AE.ren, qq]; done)) ?_
  (conv => whnf); (repeat ((first | (refine ⟨rfl, ?_⟩) | (refine ⟨trivial, ?_⟩) | (refine Wk.yes ?_) | (refine Wk.no ?_) | (refine Wk.and ?_)); (conv => whnf)))
  exact AH.Fin.nil [] ⟨rfl, rfl, rfl⟩ (by first | exact trivial | (simp [tupA, hpLt, tmLt, AV.lt, AE.lt, AC.lt, LL_cons, LL_nil, idOk, ABlk.lt, ints_LL, GB, tab64_LL, gC, wB, giC, noneB, tC, pC, rC, rB, giN]; done) | (simp [tupA, hpLt, tmLt, AV.lt, AE.lt, AC.lt, LL_cons, LL_nil, idOk, ABlk.lt, ints_LL, GB, tab64_LL, gC, wB, giC, noneB, tC, pC, rC, rB, giN, rdn, wrn]; done)) trivial trivial rfl (by simp [GB])
theorem bad_Without {n s t : Int} {fw : List Int} {m : Nat} (hl : fw.length = m * 2) (h : ¬ isGame n s t fw m)  : FDet Tryz.prog 22 [.g (giC n s t m 0), .c (.int .i64 0)] [(0, .ro (ints fw)), (100002, .ro tab64)] 1 (.t [.g [.int .i64 0, .int .i64 0, .int .i64 0, .nils], .c (.int .i64 80)]) [] 1 := by
  refine FSpec.of_body tok true Tryz.func22 rfl (by kernel_rfl) (by decide) (by simp [tupA, hpLt, tmLt, AV.lt, AE.lt, AC.lt, LL_cons, LL_nil, idOk, ABlk.lt, ints_LL, GB, tab64_LL, gC, wB, giC, noneB, tC, pC, rC, rB, giN]) (by simp [tupA, hpLt, tmLt, AV.lt, AE.lt, AC.lt, LL_cons, LL_nil, idOk, ABlk.lt, ints_LL, GB, tab64_LL, gC, wB, giC, noneB, tC, pC, rC, rB, giN]) (by show 2 ≤ _; decide) ?_
  (conv => whnf); (repeat ((first | (refine ⟨rfl, ?_⟩) | (refine ⟨trivial, ?_⟩) | (refine Wk.yes ?_) | (refine Wk.no ?_) | (refine Wk.and ?_)); (conv => whnf)))
  refine CallA.ro [0] (.c (.int .i64 80)) (bad_openWire hl h) (by first | rfl | exact congrArg AV.g (ints_ren _ _) | (simp [ints_ren, AV.ren, ABlk.ren, AC.ren, AE.ren, qq]; done)) rfl (by (repeat (first | exact trivial | refine ⟨⟨(by first | exact .inl (by decide) | exact .inr (by decide)), (by first | rfl | exact congrArg some (ints_ren _ _).symm | exact congrArg ABlk.own (ints_ren _ _).symm | exact congrArg some (tab64_ren _).symm)⟩, ?_⟩))) (by first | rfl | exact congrArg AV.g (ints_ren _ _) | (simp [ints_ren, AV.ren, ABlk.ren, AC.ren, AE.ren, qq]; done)) ?_
  (conv => whnf); (repeat ((first | (refine ⟨rfl, ?_⟩) | (refine ⟨trivial, ?_⟩) | (refine Wk.yes ?_) | (refine Wk.no ?_) | (refine Wk.and ?_)); (conv => whnf)))
  exact AH.Fin.nil [] ⟨rfl, rfl, rfl⟩ (by first | exact trivial | (simp [tupA, hpLt, tmLt, AV.lt, AE.lt, AC.lt, LL_cons, LL_nil, idOk, ABlk.lt, ints_LL, GB, tab64_LL, gC, wB, giC, noneB, tC, pC, rC, rB, giN]; done) | (simp [tupA, hpLt, tmLt, AV.lt, AE.lt, AC.lt, LL_cons, LL_nil, idOk, ABlk.lt, ints_LL, GB, tab64_LL, gC, wB, giC, noneB, tC, pC, rC, rB, giN, rdn, wrn]; done)) trivial trivial rfl (by simp [GB])
end Go.Proofs.YtfphkpdobbffeaaGreatDoor

/-
  Contracts of the other seat: a game copied; what is a game by the reference; equal games.
-/
namespace Go.Proofs.YtfphkpdobbffeaaGreatDoor
open Go Go.AH
set_option maxRecDepth 100000
set_option maxHeartbeats 1000000

theorem flI_take (ws : List (Int × Int)) (k : Nat) : flI (ws.take k) = (flI ws).take (k * 2) := by
  induction ws generalizing k with
  | nil => simp [flI]
  | cons w ws ih =>
    cases k with
    | zero => simp [flI]
    | succ k =>
      have := ih k
      simp only [flI, List.take_succ_cons, List.flatMap_cons] at this ⊢
      rw [show (k + 1) * 2 = k * 2 + 1 + 1 by omega, this]
      rfl
theorem own_nil {x : Rw} (h : x.ws = []) : FDet Tryz.prog 4 [.g (rC x 0)] [(0, rB x)] 1 (.g (giN x.n x.s x.t)) [] 1 := by
  have hl : x.ws.length = 0 := by rw [h]; rfl
  have hlen : (ints (flI x.ws)).length = x.ws.length * 2 := by rw [ints_len]; exact flI_len _
  have hmn : (((some (min (x.ws.length : Int) 11)).getD (x.ws.length : Int)).toNat - ((none : Option Int).getD 0).toNat) = (x.ws.take 11).length := by
    simp only [Option.getD_some, Option.getD_none, List.length_take]
    omega
  have htl : (x.ws.take 11).length ≤ 11 ∧ (x.ws.take 11).length ≤ x.ws.length := by simp only [List.length_take]; omega
  refine FSpec.of_body tok true Tryz.func4 rfl (by kernel_rfl) (by decide) (by simp [tupA, hpLt, tmLt, AV.lt, AE.lt, AC.lt, LL_cons, LL_nil, idOk, ABlk.lt, ints_LL, GB, tab64_LL, gC, wB, giC, noneB, tC, pC, rC, rB, giN]) (by simp [tupA, hpLt, tmLt, AV.lt, AE.lt, AC.lt, LL_cons, LL_nil, idOk, ABlk.lt, ints_LL, GB, tab64_LL, gC, wB, giC, noneB, tC, pC, rC, rB, giN]) (by show 1 ≤ _; decide) ?_
  (conv => whnf); (repeat ((first | (refine ⟨rfl, ?_⟩) | (refine ⟨trivial, ?_⟩) | (refine Wk.yes ?_) | (refine Wk.no ?_) | (refine Wk.and ?_)); (conv => whnf)))
  refine ⟨⟨Int.le_refl 0, by show (0 : Int) ≤ min (x.ws.length : Int) 11; omega, .inl (by show min (x.ws.length : Int) 11 ≤ (x.ws.length : Int); omega)⟩, ?_⟩
  rw [hmn]
  (conv => whnf); (repeat ((first | (refine ⟨rfl, ?_⟩) | (refine ⟨trivial, ?_⟩) | (refine Wk.yes ?_) | (refine Wk.no ?_) | (refine Wk.and ?_)); (conv => whnf)))
  refine ⟨by rw [hlen]; show 0 + 0 * 2 + (x.ws.take 11).length * 2 ≤ _; omega, ?_⟩
  (conv => whnf); (repeat ((first | (refine ⟨rfl, ?_⟩) | (refine ⟨trivial, ?_⟩) | (refine Wk.yes ?_) | (refine Wk.no ?_) | (refine Wk.and ?_)); (conv => whnf)))
  refine ⟨⟨Nat.le_of_ble_eq_true rfl, by show ((x.ws.take 11).length : Int) * 16 ≤ _; omega, by omega⟩, fun _ => ?_, fun h0 => by omega⟩
  (conv => whnf); (repeat ((first | (refine ⟨rfl, ?_⟩) | (refine ⟨trivial, ?_⟩) | (refine Wk.yes ?_) | (refine Wk.no ?_) | (refine Wk.and ?_)); (conv => whnf)))
  exact AH.Fin.nil [] ⟨rfl, rfl, rfl⟩ (by first | exact trivial | (simp [tupA, hpLt, tmLt, AV.lt, AE.lt, AC.lt, LL_cons, LL_nil, idOk, ABlk.lt, ints_LL, GB, tab64_LL, gC, wB, giC, noneB, tC, pC, rC, rB, giN]; done) | (simp [tupA, hpLt, tmLt, AV.lt, AE.lt, AC.lt, LL_cons, LL_nil, idOk, ABlk.lt, ints_LL, GB, tab64_LL, gC, wB, giC, noneB, tC, pC, rC, rB, giN, rdn, wrn]; done)) trivial trivial rfl (by simp [GB])
theorem own_row {x : Rw} (h : 0 < x.ws.length) (h4 : x.ws.length ≤ 9223372036854775807) : FDet Tryz.prog 4 [.g (rC x 0)] [(0, rB x)] 1 (.g [.int .i64 x.n, .int .i64 x.s, .int .i64 x.t, .row 1 (x.ws.take 11).length]) [(1, .row 56 2 (ints (flI (x.ws.take 11))))] 2 := by
  have hlen : (ints (flI x.ws)).length = x.ws.length * 2 := by rw [ints_len]; exact flI_len _
  have hmn : (((some (min (x.ws.length : Int) 11)).getD (x.ws.length : Int)).toNat - ((none : Option Int).getD 0).toNat) = (x.ws.take 11).length := by
    simp only [Option.getD_some, Option.getD_none, List.length_take]
    omega
  have htl : (x.ws.take 11).length ≤ 11 ∧ (x.ws.take 11).length ≤ x.ws.length := by simp only [List.length_take]; omega
  refine FSpec.of_body tok true Tryz.func4 rfl (by kernel_rfl) (by decide) (by simp [tupA, hpLt, tmLt, AV.lt, AE.lt, AC.lt, LL_cons, LL_nil, idOk, ABlk.lt, ints_LL, GB, tab64_LL, gC, wB, giC, noneB, tC, pC, rC, rB, giN]) (by simp [tupA, hpLt, tmLt, AV.lt, AE.lt, AC.lt, LL_cons, LL_nil, idOk, ABlk.lt, ints_LL, GB, tab64_LL, gC, wB, giC, noneB, tC, pC, rC, rB, giN]) (by show 1 ≤ _; decide) ?_
  (conv => whnf); (repeat ((first | (refine ⟨rfl, ?_⟩) | (refine ⟨trivial, ?_⟩) | (refine Wk.yes ?_) | (refine Wk.no ?_) | (refine Wk.and ?_)); (conv => whnf)))
  refine ⟨⟨Int.le_refl 0, by show (0 : Int) ≤ min (x.ws.length : Int) 11; omega, .inl (by show min (x.ws.length : Int) 11 ≤ (x.ws.length : Int); omega)⟩, ?_⟩
  rw [hmn]
  (conv => whnf); (repeat ((first | (refine ⟨rfl, ?_⟩) | (refine ⟨trivial, ?_⟩) | (refine Wk.yes ?_) | (refine Wk.no ?_) | (refine Wk.and ?_)); (conv => whnf)))
  refine ⟨by rw [hlen]; show 0 + 0 * 2 + (x.ws.take 11).length * 2 ≤ _; omega, ?_⟩
  (conv => whnf); (repeat ((first | (refine ⟨rfl, ?_⟩) | (refine ⟨trivial, ?_⟩) | (refine Wk.yes ?_) | (refine Wk.no ?_) | (refine Wk.and ?_)); (conv => whnf)))
  refine ⟨⟨Nat.le_of_ble_eq_true rfl, by show ((x.ws.take 11).length : Int) * 16 ≤ _; omega, by omega⟩, fun h0 => by rw [List.length_take] at h0; omega, fun _ => ?_⟩
  have hcl : ((ints (flI x.ws)).drop (0 + ((none : Option Int).getD 0).toNat * 2)).take ((x.ws.take 11).length * 2) = ints (flI (x.ws.take 11)) := by
    simp only [Option.getD_none, Int.toNat_zero, Nat.zero_mul, Nat.add_zero, List.drop_zero]
    rw [flI_take, ints, ints, ← List.map_take]
    congr 1
    rw [List.length_take]
    rcases Nat.le_total 11 x.ws.length with h | h
    · rw [Nat.min_eq_left h]
    · rw [Nat.min_eq_right h, List.take_of_length_le (by rw [flI_len]; omega), List.take_of_length_le (by rw [flI_len]; omega)]
  (conv => whnf); (repeat ((first | (refine ⟨rfl, ?_⟩) | (refine ⟨trivial, ?_⟩) | (refine Wk.yes ?_) | (refine Wk.no ?_) | (refine Wk.and ?_)); (conv => whnf)))
  exact AH.Fin.new [4] _ _ ⟨rfl, rfl, rfl⟩ rfl ⟨by rw [hcl]; exact rowEq rfl, trivial⟩ rfl (by simp [tupA, hpLt, tmLt, AV.lt, AE.lt, AC.lt, LL_cons, LL_nil, idOk, ABlk.lt, ints_LL, GB, tab64_LL, gC, wB, giC, noneB, tC, pC, rC, rB, giN]) (by simp [tupA, hpLt, tmLt, AV.lt, AE.lt, AC.lt, LL_cons, LL_nil, idOk, ABlk.lt, ints_LL, GB, tab64_LL, gC, wB, giC, noneB, tC, pC, rC, rB, giN])
theorem own_zero : FDet Tryz.prog 4 [.g (giN 0 0 0)] [] 0 (.g (giN 0 0 0)) [] 0 := by
  refine FSpec.of_body tok true Tryz.func4 rfl (by kernel_rfl) (by decide) (by simp [tupA, hpLt, tmLt, AV.lt, AE.lt, AC.lt, LL_cons, LL_nil, idOk, ABlk.lt, ints_LL, GB, tab64_LL, gC, wB, giC, noneB, tC, pC, rC, rB, giN]) (by simp [tupA, hpLt, tmLt, AV.lt, AE.lt, AC.lt, LL_cons, LL_nil, idOk, ABlk.lt, ints_LL, GB, tab64_LL, gC, wB, giC, noneB, tC, pC, rC, rB, giN]) (by show 1 ≤ _; decide) ?_
  (conv => whnf); (repeat ((first | (refine ⟨rfl, ?_⟩) | (refine ⟨trivial, ?_⟩) | (refine Wk.yes ?_) | (refine Wk.no ?_) | (refine Wk.and ?_)); (conv => whnf)))
  exact AH.Fin.nil [] ⟨rfl, rfl, rfl⟩ (by first | exact trivial | (simp [tupA, hpLt, tmLt, AV.lt, AE.lt, AC.lt, LL_cons, LL_nil, idOk, ABlk.lt, ints_LL, GB, tab64_LL, gC, wB, giC, noneB, tC, pC, rC, rB, giN]; done) | (simp [tupA, hpLt, tmLt, AV.lt, AE.lt, AC.lt, LL_cons, LL_nil, idOk, ABlk.lt, ints_LL, GB, tab64_LL, gC, wB, giC, noneB, tC, pC, rC, rB, giN, rdn, wrn]; done)) trivial trivial rfl (by simp [GB])
theorem same_zero : FDet Tryz.prog 50 [.g (giN 0 0 0), .g (giN 0 0 0)] [] 0 (.c (.bool true)) [] 0 := by
  refine FSpec.of_body tok true Tryz.func50 rfl (by kernel_rfl) (by decide) (by simp [tupA, hpLt, tmLt, AV.lt, AE.lt, AC.lt, LL_cons, LL_nil, idOk, ABlk.lt, ints_LL, GB, tab64_LL, gC, wB, giC, noneB, tC, pC, rC, rB, giN]) (by simp [tupA, hpLt, tmLt, AV.lt, AE.lt, AC.lt, LL_cons, LL_nil, idOk, ABlk.lt, ints_LL, GB, tab64_LL, gC, wB, giC, noneB, tC, pC, rC, rB, giN]) (by show 2 ≤ _; decide) ?_
  (conv => whnf); (repeat ((first | (refine ⟨rfl, ?_⟩) | (refine ⟨trivial, ?_⟩) | (refine Wk.yes ?_) | (refine Wk.no ?_) | (refine Wk.and ?_)); (conv => whnf)))
  refine Tr.loop (md := true) (X := Unit) (st := fun _ => ⟨[(2, .c (.ptr 0 0)), (3, .c (.ptr 1 0)), (5, .c (.int .i64 0))], [(0, .own (giN 0 0 0)), (1, .own (giN 0 0 0))], 2, 52, 0⟩) (inv := fun _ => True) (μ := fun _ => 0) (x0 := ()) (l := []) tok trivial ?_ ?_
  · exact Sub.nil ⟨rfl, rfl, (by simp [tab64_LL, gC, wB, giC, noneB, tC, pC, rC, rB, giN]), rfl, (by simp [tupA, hpLt, tmLt, AV.lt, AE.lt, AC.lt, LL_cons, LL_nil, idOk, ABlk.lt, ints_LL, GB, tab64_LL, gC, wB, giC, noneB, tC, pC, rC, rB, giN]), (by simp [tupA, hpLt, tmLt, AV.lt, AE.lt, AC.lt, LL_cons, LL_nil, idOk, ABlk.lt, ints_LL, GB, tab64_LL, gC, wB, giC, noneB, tC, pC, rC, rB, giN])⟩ (by (repeat (first | exact trivial | refine ⟨trivial, ?_⟩ | refine ⟨rfl, ?_⟩))) (by (repeat (first | exact trivial | refine ⟨trivial, ?_⟩ | refine ⟨rfl, ?_⟩)))
  · intro _ _
    (conv => whnf); (repeat ((first | (refine ⟨rfl, ?_⟩) | (refine ⟨trivial, ?_⟩) | (refine Wk.yes ?_) | (refine Wk.no ?_) | (refine Wk.and ?_)); (conv => whnf)))
    exact AH.Fin.nil [] ⟨rfl, rfl, rfl⟩ (by first | exact trivial | (simp [tupA, hpLt, tmLt, AV.lt, AE.lt, AC.lt, LL_cons, LL_nil, idOk, ABlk.lt, ints_LL, GB, tab64_LL, gC, wB, giC, noneB, tC, pC, rC, rB, giN]; done) | (simp [tupA, hpLt, tmLt, AV.lt, AE.lt, AC.lt, LL_cons, LL_nil, idOk, ABlk.lt, ints_LL, GB, tab64_LL, gC, wB, giC, noneB, tC, pC, rC, rB, giN, rdn, wrn]; done)) trivial trivial rfl (by simp [GB])
theorem same_spec : FDet Tryz.prog 23 [.g (giN 0 0 0), .g (giN 0 0 0)] [] 0 (.c (.bool true)) [] 0 := by
  refine FSpec.of_body tok true Tryz.func23 rfl (by kernel_rfl) (by decide) (by simp [tupA, hpLt, tmLt, AV.lt, AE.lt, AC.lt, LL_cons, LL_nil, idOk, ABlk.lt, ints_LL, GB, tab64_LL, gC, wB, giC, noneB, tC, pC, rC, rB, giN]) (by simp [tupA, hpLt, tmLt, AV.lt, AE.lt, AC.lt, LL_cons, LL_nil, idOk, ABlk.lt, ints_LL, GB, tab64_LL, gC, wB, giC, noneB, tC, pC, rC, rB, giN]) (by show 2 ≤ _; decide) ?_
  (conv => whnf); (repeat ((first | (refine ⟨rfl, ?_⟩) | (refine ⟨trivial, ?_⟩) | (refine Wk.yes ?_) | (refine Wk.no ?_) | (refine Wk.and ?_)); (conv => whnf)))
  refine Tr.draw (md := true) [⟨[], [], []⟩, ⟨[0], [], []⟩, ⟨[0, 1], [], []⟩, ⟨[0, 1, 2], [], []⟩, ⟨[0, 1, 2, 3], [], []⟩, ⟨[0, 1, 2, 3, 4], [12], []⟩, ⟨[0, 1, 2, 3, 4, 5], [12], []⟩, ⟨[0, 1, 2, 3, 4], [10, 11], [5, 6]⟩] tok (by kernel_rfl) (by kernel_rfl) ?_
  (conv => whnf); (repeat ((first | (refine ⟨rfl, ?_⟩) | (refine ⟨trivial, ?_⟩) | (refine Wk.yes ?_) | (refine Wk.no ?_) | (refine Wk.and ?_)); (conv => whnf)))
  refine CallQ.ro [] (.g (giN 0 0 0)) (own_zero) (by first | rfl | exact congrArg AV.g (ints_ren _ _) | (simp [ints_ren, AV.ren, ABlk.ren, AC.ren, AE.ren, qq]; done)) rfl (by (repeat (first | exact trivial | refine ⟨⟨(by first | exact .inl (by decide) | exact .inr (by decide)), (by first | rfl | exact congrArg some (ints_ren _ _).symm | exact congrArg ABlk.own (ints_ren _ _).symm | exact congrArg some (tab64_ren _).symm)⟩, ?_⟩))) (by first | rfl | exact congrArg AV.g (ints_ren _ _) | (simp [ints_ren, AV.ren, ABlk.ren, AC.ren, AE.ren, qq]; done)) ?_
  (conv => whnf); (repeat ((first | (refine ⟨rfl, ?_⟩) | (refine ⟨trivial, ?_⟩) | (refine Wk.yes ?_) | (refine Wk.no ?_) | (refine Wk.and ?_)); (conv => whnf)))
  refine CallA.ro [] (.c (.bool true)) (same_zero) (by first | rfl | exact congrArg AV.g (ints_ren _ _) | (simp [ints_ren, AV.ren, ABlk.ren, AC.ren, AE.ren, qq]; done)) rfl (by (repeat (first | exact trivial | refine ⟨⟨(by first | exact .inl (by decide) | exact .inr (by decide)), (by first | rfl | exact congrArg some (ints_ren _ _).symm | exact congrArg ABlk.own (ints_ren _ _).symm | exact congrArg some (tab64_ren _).symm)⟩, ?_⟩))) (by first | rfl | exact congrArg AV.g (ints_ren _ _) | (simp [ints_ren, AV.ren, ABlk.ren, AC.ren, AE.ren, qq]; done)) ?_
  (conv => whnf); (repeat ((first | (refine ⟨rfl, ?_⟩) | (refine ⟨trivial, ?_⟩) | (refine Wk.yes ?_) | (refine Wk.no ?_) | (refine Wk.and ?_)); (conv => whnf)))
  exact AH.Fin.nil [] ⟨rfl, rfl, rfl⟩ (by first | exact trivial | (simp [tupA, hpLt, tmLt, AV.lt, AE.lt, AC.lt, LL_cons, LL_nil, idOk, ABlk.lt, ints_LL, GB, tab64_LL, gC, wB, giC, noneB, tC, pC, rC, rB, giN]; done) | (simp [tupA, hpLt, tmLt, AV.lt, AE.lt, AC.lt, LL_cons, LL_nil, idOk, ABlk.lt, ints_LL, GB, tab64_LL, gC, wB, giC, noneB, tC, pC, rC, rB, giN, rdn, wrn]; done)) trivial trivial rfl (by simp [GB])
theorem before_spec (a b c d : Int) : FDet Tryz.prog 24 [.g [.int .i64 a, .int .i64 b], .g [.int .i64 c, .int .i64 d]] [] 0 (.c (.bool (decide (a < c ∨ (a = c ∧ b < d))))) [] 0 := by
  refine FSpec.of_body tok true Tryz.func24 rfl (by kernel_rfl) (by decide) (by simp [tupA, hpLt, tmLt, AV.lt, AE.lt, AC.lt, LL_cons, LL_nil, idOk, ABlk.lt, ints_LL, GB, tab64_LL, gC, wB, giC, noneB, tC, pC, rC, rB, giN]) (by simp [tupA, hpLt, tmLt, AV.lt, AE.lt, AC.lt, LL_cons, LL_nil, idOk, ABlk.lt, ints_LL, GB, tab64_LL, gC, wB, giC, noneB, tC, pC, rC, rB, giN]) (by show 2 ≤ _; decide) ?_
  (conv => whnf); (repeat ((first | (refine ⟨rfl, ?_⟩) | (refine ⟨trivial, ?_⟩) | (refine Wk.yes ?_) | (refine Wk.no ?_) | (refine Wk.and ?_)); (conv => whnf)))
  by_cases h1 : a < c
  · rw [decide_eq_true h1, decide_eq_true (show a < c ∨ (a = c ∧ b < d) from .inl h1)]
    (conv => whnf); (repeat ((first | (refine ⟨rfl, ?_⟩) | (refine ⟨trivial, ?_⟩) | (refine Wk.yes ?_) | (refine Wk.no ?_) | (refine Wk.and ?_)); (conv => whnf)))
    exact AH.Fin.nil [] ⟨rfl, rfl, rfl⟩ (by first | exact trivial | (simp [tupA, hpLt, tmLt, AV.lt, AE.lt, AC.lt, LL_cons, LL_nil, idOk, ABlk.lt, ints_LL, GB, tab64_LL, gC, wB, giC, noneB, tC, pC, rC, rB, giN]; done) | (simp [tupA, hpLt, tmLt, AV.lt, AE.lt, AC.lt, LL_cons, LL_nil, idOk, ABlk.lt, ints_LL, GB, tab64_LL, gC, wB, giC, noneB, tC, pC, rC, rB, giN, rdn, wrn]; done)) trivial trivial rfl (by simp [GB])
  · rw [decide_eq_false h1]
    (conv => whnf); (repeat ((first | (refine ⟨rfl, ?_⟩) | (refine ⟨trivial, ?_⟩) | (refine Wk.yes ?_) | (refine Wk.no ?_) | (refine Wk.and ?_)); (conv => whnf)))
    by_cases h2 : a = c
    · rw [decide_eq_true h2]
      by_cases h3 : b < d
      · rw [decide_eq_true (show a < c ∨ (a = c ∧ b < d) from .inr ⟨h2, h3⟩)]
        (conv => whnf); (repeat ((first | (refine ⟨rfl, ?_⟩) | (refine ⟨trivial, ?_⟩) | (refine Wk.yes ?_) | (refine Wk.no ?_) | (refine Wk.and ?_)); (conv => whnf)))
        exact AH.Fin.nil [] ⟨by show AV.c (.bool (bif false then true else (bif true then decide (b < d) else false))) = _; rw [decide_eq_true h3]; rfl, rfl, rfl⟩ (by first | exact trivial | (simp [tupA, hpLt, tmLt, AV.lt, AE.lt, AC.lt, LL_cons, LL_nil, idOk, ABlk.lt, ints_LL, GB, tab64_LL, gC, wB, giC, noneB, tC, pC, rC, rB, giN]; done) | (simp [tupA, hpLt, tmLt, AV.lt, AE.lt, AC.lt, LL_cons, LL_nil, idOk, ABlk.lt, ints_LL, GB, tab64_LL, gC, wB, giC, noneB, tC, pC, rC, rB, giN, rdn, wrn]; done)) trivial trivial rfl (by simp [GB])
      · rw [decide_eq_false (show ¬ (a < c ∨ (a = c ∧ b < d)) by omega)]
        (conv => whnf); (repeat ((first | (refine ⟨rfl, ?_⟩) | (refine ⟨trivial, ?_⟩) | (refine Wk.yes ?_) | (refine Wk.no ?_) | (refine Wk.and ?_)); (conv => whnf)))
        exact AH.Fin.nil [] ⟨by show AV.c (.bool (bif false then true else (bif true then decide (b < d) else false))) = _; rw [decide_eq_false h3]; rfl, rfl, rfl⟩ (by first | exact trivial | (simp [tupA, hpLt, tmLt, AV.lt, AE.lt, AC.lt, LL_cons, LL_nil, idOk, ABlk.lt, ints_LL, GB, tab64_LL, gC, wB, giC, noneB, tC, pC, rC, rB, giN]; done) | (simp [tupA, hpLt, tmLt, AV.lt, AE.lt, AC.lt, LL_cons, LL_nil, idOk, ABlk.lt, ints_LL, GB, tab64_LL, gC, wB, giC, noneB, tC, pC, rC, rB, giN, rdn, wrn]; done)) trivial trivial rfl (by simp [GB])
    · rw [decide_eq_false h2, decide_eq_false (show ¬ (a < c ∨ (a = c ∧ b < d)) by omega)]
      (conv => whnf); (repeat ((first | (refine ⟨rfl, ?_⟩) | (refine ⟨trivial, ?_⟩) | (refine Wk.yes ?_) | (refine Wk.no ?_) | (refine Wk.and ?_)); (conv => whnf)))
      exact AH.Fin.nil [] ⟨rfl, rfl, rfl⟩ (by first | exact trivial | (simp [tupA, hpLt, tmLt, AV.lt, AE.lt, AC.lt, LL_cons, LL_nil, idOk, ABlk.lt, ints_LL, GB, tab64_LL, gC, wB, giC, noneB, tC, pC, rC, rB, giN]; done) | (simp [tupA, hpLt, tmLt, AV.lt, AE.lt, AC.lt, LL_cons, LL_nil, idOk, ABlk.lt, ints_LL, GB, tab64_LL, gC, wB, giC, noneB, tC, pC, rC, rB, giN, rdn, wrn]; done)) trivial trivial rfl (by simp [GB])
def CheckRPost (n s t : Int) (fw : List Int) (m : Nat) (r : AV) (hp : List (Nat × ABlk)) (k : Nat) : Prop :=
  ((isGame n s t fw m ∧ r = .c (.bool true)) ∨ (¬ isGame n s t fw m ∧ r = .c (.bool false))) ∧ hp = [] ∧ k = 1
theorem checkR_spec (n s t : Int) (fw : List Int) (m : Nat) (hl : fw.length = m * 2) : FSpec Tryz.prog 6 [.g (giC n s t m 0)] [(0, .ro (ints fw))] 1 (CheckRPost n s t fw m) := by
  have bad : bad0 n s t m → CheckRPost n s t fw m (.c (.bool false)) [] 1 := fun h => ⟨.inr ⟨fun g => g.1 h, rfl⟩, rfl, rfl⟩
  refine FSpec.of_body tok true Tryz.func6 rfl (by kernel_rfl) (by decide) (by simp [tupA, hpLt, tmLt, AV.lt, AE.lt, AC.lt, LL_cons, LL_nil, idOk, ABlk.lt, ints_LL, GB, tab64_LL, gC, wB, giC, noneB, tC, pC, rC, rB, giN]) (by simp [tupA, hpLt, tmLt, AV.lt, AE.lt, AC.lt, LL_cons, LL_nil, idOk, ABlk.lt, ints_LL, GB, tab64_LL, gC, wB, giC, noneB, tC, pC, rC, rB, giN]) (by show 1 ≤ _; decide) ?_
  (conv => whnf); (repeat ((first | (refine ⟨rfl, ?_⟩) | (refine ⟨trivial, ?_⟩) | (refine Wk.yes ?_) | (refine Wk.no ?_) | (refine Wk.and ?_)); (conv => whnf)))
  by_cases b0 : n < 2
  · rw [decide_eq_true (show n < 2 from b0)]
    (conv => whnf); (repeat ((first | (refine ⟨rfl, ?_⟩) | (refine ⟨trivial, ?_⟩) | (refine Wk.yes ?_) | (refine Wk.no ?_) | (refine Wk.and ?_)); (conv => whnf)))
    exact AH.Fin.nil [] (bad (by unfold bad0; omega)) trivial trivial trivial rfl (by simp [GB])
  rw [decide_eq_false b0]
  (conv => whnf); (repeat ((first | (refine ⟨rfl, ?_⟩) | (refine ⟨trivial, ?_⟩) | (refine Wk.yes ?_) | (refine Wk.no ?_) | (refine Wk.and ?_)); (conv => whnf)))
  by_cases b1 : 8 < n
  · rw [decide_eq_true (show 8 < n from b1)]
    (conv => whnf); (repeat ((first | (refine ⟨rfl, ?_⟩) | (refine ⟨trivial, ?_⟩) | (refine Wk.yes ?_) | (refine Wk.no ?_) | (refine Wk.and ?_)); (conv => whnf)))
    exact AH.Fin.nil [] (bad (by unfold bad0; omega)) trivial trivial trivial rfl (by simp [GB])
  rw [decide_eq_false b1]
  (conv => whnf); (repeat ((first | (refine ⟨rfl, ?_⟩) | (refine ⟨trivial, ?_⟩) | (refine Wk.yes ?_) | (refine Wk.no ?_) | (refine Wk.and ?_)); (conv => whnf)))
  by_cases b2 : s < 0
  · rw [decide_eq_true (show s < 0 from b2)]
    (conv => whnf); (repeat ((first | (refine ⟨rfl, ?_⟩) | (refine ⟨trivial, ?_⟩) | (refine Wk.yes ?_) | (refine Wk.no ?_) | (refine Wk.and ?_)); (conv => whnf)))
    exact AH.Fin.nil [] (bad (by unfold bad0; omega)) trivial trivial trivial rfl (by simp [GB])
  rw [decide_eq_false b2]
  (conv => whnf); (repeat ((first | (refine ⟨rfl, ?_⟩) | (refine ⟨trivial, ?_⟩) | (refine Wk.yes ?_) | (refine Wk.no ?_) | (refine Wk.and ?_)); (conv => whnf)))
  by_cases b3 : n ≤ s
  · rw [decide_eq_true (show n ≤ s from b3)]
    (conv => whnf); (repeat ((first | (refine ⟨rfl, ?_⟩) | (refine ⟨trivial, ?_⟩) | (refine Wk.yes ?_) | (refine Wk.no ?_) | (refine Wk.and ?_)); (conv => whnf)))
    exact AH.Fin.nil [] (bad (by unfold bad0; omega)) trivial trivial trivial rfl (by simp [GB])
  rw [decide_eq_false b3]
  (conv => whnf); (repeat ((first | (refine ⟨rfl, ?_⟩) | (refine ⟨trivial, ?_⟩) | (refine Wk.yes ?_) | (refine Wk.no ?_) | (refine Wk.and ?_)); (conv => whnf)))
  by_cases b4 : t < 0
  · rw [decide_eq_true (show t < 0 from b4)]
    (conv => whnf); (repeat ((first | (refine ⟨rfl, ?_⟩) | (refine ⟨trivial, ?_⟩) | (refine Wk.yes ?_) | (refine Wk.no ?_) | (refine Wk.and ?_)); (conv => whnf)))
    exact AH.Fin.nil [] (bad (by unfold bad0; omega)) trivial trivial trivial rfl (by simp [GB])
  rw [decide_eq_false b4]
  (conv => whnf); (repeat ((first | (refine ⟨rfl, ?_⟩) | (refine ⟨trivial, ?_⟩) | (refine Wk.yes ?_) | (refine Wk.no ?_) | (refine Wk.and ?_)); (conv => whnf)))
  by_cases b5 : n ≤ t
  · rw [decide_eq_true (show n ≤ t from b5)]
    (conv => whnf); (repeat ((first | (refine ⟨rfl, ?_⟩) | (refine ⟨trivial, ?_⟩) | (refine Wk.yes ?_) | (refine Wk.no ?_) | (refine Wk.and ?_)); (conv => whnf)))
    exact AH.Fin.nil [] (bad (by unfold bad0; omega)) trivial trivial trivial rfl (by simp [GB])
  rw [decide_eq_false b5]
  (conv => whnf); (repeat ((first | (refine ⟨rfl, ?_⟩) | (refine ⟨trivial, ?_⟩) | (refine Wk.yes ?_) | (refine Wk.no ?_) | (refine Wk.and ?_)); (conv => whnf)))
  by_cases b6 : s = t
  · rw [decide_eq_true (show s = t from b6)]
    (conv => whnf); (repeat ((first | (refine ⟨rfl, ?_⟩) | (refine ⟨trivial, ?_⟩) | (refine Wk.yes ?_) | (refine Wk.no ?_) | (refine Wk.and ?_)); (conv => whnf)))
    exact AH.Fin.nil [] (bad (by unfold bad0; omega)) trivial trivial trivial rfl (by simp [GB])
  rw [decide_eq_false b6]
  (conv => whnf); (repeat ((first | (refine ⟨rfl, ?_⟩) | (refine ⟨trivial, ?_⟩) | (refine Wk.yes ?_) | (refine Wk.no ?_) | (refine Wk.and ?_)); (conv => whnf)))
  by_cases b7 : (10 : Int) < (m : Int)
  · rw [decide_eq_true (show (10 : Int) < (m : Int) from b7)]
    (conv => whnf); (repeat ((first | (refine ⟨rfl, ?_⟩) | (refine ⟨trivial, ?_⟩) | (refine Wk.yes ?_) | (refine Wk.no ?_) | (refine Wk.and ?_)); (conv => whnf)))
    exact AH.Fin.nil [] (bad (by unfold bad0; omega)) trivial trivial trivial rfl (by simp [GB])
  rw [decide_eq_false b7]
  (conv => whnf); (repeat ((first | (refine ⟨rfl, ?_⟩) | (refine ⟨trivial, ?_⟩) | (refine Wk.yes ?_) | (refine Wk.no ?_) | (refine Wk.and ?_)); (conv => whnf)))
  have hgood : ¬ bad0 n s t m := by
    unfold bad0; omega
  refine Tr.loop (md := true) (X := Nat) (st := fun i => ⟨[(1, .c (.ptr 1 0)), (3, .c (.int .i64 i))], [(1, .own (giC n s t m 0)), (0, .ro (ints fw))], 2, 101, 1⟩) (inv := fun i => i ≤ m ∧ ∀ j, j < i → ¬ badW n fw j) (μ := fun i => m - i) (x0 := 0) (l := []) tok ⟨Nat.zero_le _, fun j hj => by omega⟩ ?_ ?_
  · exact Sub.nil ⟨rfl, rfl, (by simp [tab64_LL, gC, wB, giC, noneB, tC, pC, rC, rB, giN]), rfl, (by simp [tupA, hpLt, tmLt, AV.lt, AE.lt, AC.lt, LL_cons, LL_nil, idOk, ABlk.lt, ints_LL, GB, tab64_LL, gC, wB, giC, noneB, tC, pC, rC, rB, giN]), (by simp [tupA, hpLt, tmLt, AV.lt, AE.lt, AC.lt, LL_cons, LL_nil, idOk, ABlk.lt, ints_LL, GB, tab64_LL, gC, wB, giC, noneB, tC, pC, rC, rB, giN])⟩ (by (repeat (first | exact trivial | refine ⟨trivial, ?_⟩ | refine ⟨rfl, ?_⟩))) (by (repeat (first | exact trivial | refine ⟨trivial, ?_⟩ | refine ⟨rfl, ?_⟩)))
  · rintro i ⟨hi, hj⟩
    by_cases hil : i < m
    rotate_left
    · have : i = m := by omega
      subst this
      (conv => whnf); (repeat ((first | (refine ⟨rfl, ?_⟩) | (refine ⟨trivial, ?_⟩) | (refine Wk.yes ?_) | (refine Wk.no ?_) | (refine Wk.and ?_)); (conv => whnf)))
      rw [decide_eq_false (show ¬ ((i : Nat) : Int) < ((i : Nat) : Int) by omega)]
      (conv => whnf); (repeat ((first | (refine ⟨rfl, ?_⟩) | (refine ⟨trivial, ?_⟩) | (refine Wk.yes ?_) | (refine Wk.no ?_) | (refine Wk.and ?_)); (conv => whnf)))
      intro _
      (conv => whnf); (repeat ((first | (refine ⟨rfl, ?_⟩) | (refine ⟨trivial, ?_⟩) | (refine Wk.yes ?_) | (refine Wk.no ?_) | (refine Wk.and ?_)); (conv => whnf)))
      exact AH.Fin.nil [] ⟨.inl ⟨⟨hgood, hj⟩, rfl⟩, rfl, rfl⟩ trivial trivial trivial rfl (by simp [GB])
    have badI : badW n fw i → CheckRPost n s t fw m (.c (.bool false)) [] 1 := fun h => ⟨.inr ⟨fun g => g.2 i hil h, rfl⟩, rfl, rfl⟩
    have hl2 : 0 + (i : Int).toNat * 2 + 2 ≤ (ints fw).length := by rw [ints_len]; omega
    (conv => whnf); (repeat ((first | (refine ⟨rfl, ?_⟩) | (refine ⟨trivial, ?_⟩) | (refine Wk.yes ?_) | (refine Wk.no ?_) | (refine Wk.and ?_)); (conv => whnf)))
    rw [decide_eq_true (show ((i : Nat) : Int) < ((m : Nat) : Int) by omega)]
    (conv => whnf); (repeat ((first | (refine ⟨rfl, ?_⟩) | (refine ⟨trivial, ?_⟩) | (refine Wk.yes ?_) | (refine Wk.no ?_) | (refine Wk.and ?_)); (conv => whnf)))
    refine Tr.draw (md := true) [⟨[], [60, 64, 65, 66, 67, 68, 69], []⟩, ⟨[0], [60, 64, 65, 66, 67, 68, 69], []⟩, ⟨[], [58, 59, 64, 65, 66, 67, 68, 69], [0, 1]⟩, ⟨[0, 1, 2], [64, 65, 66, 67, 68, 69], []⟩, ⟨[0, 1, 2, 3], [64, 65, 66, 67, 68, 69], []⟩, ⟨[0, 1, 2, 3, 4], [64, 65, 66, 67, 68, 69], []⟩, ⟨[], [4, 58, 59, 60, 61, 62, 63, 66], [0, 1, 2, 3, 4, 5]⟩, ⟨[6], [4, 58, 59, 60, 61, 62, 63, 66], [0, 1, 2, 3, 4, 5]⟩, ⟨[], [4, 58, 59, 60, 61, 62, 63, 64, 65], [0, 1, 2, 3, 4, 5, 6, 7]⟩, ⟨[6, 7, 8], [4, 58, 59, 60, 61, 62, 63], [0, 1, 2, 3, 4, 5]⟩, ⟨[6, 7, 8, 9], [4, 58, 59, 60, 61, 62, 63], [0, 1, 2, 3, 4, 5]⟩, ⟨[6, 7, 8, 9, 10], [4, 58, 59, 60, 61, 62, 63], [0, 1, 2, 3, 4, 5]⟩, ⟨[0, 1, 2, 3, 4, 5], [64, 65, 66, 67, 68, 69], [6, 7, 8, 9, 10, 11]⟩] tok (by kernel_rfl) (by kernel_rfl) ?_
    (conv => whnf); (repeat ((first | (refine ⟨rfl, ?_⟩) | (refine ⟨trivial, ?_⟩) | (refine Wk.yes ?_) | (refine Wk.no ?_) | (refine Wk.and ?_)); (conv => whnf)))
    simp only [ints_getD, Int.toNat_natCast, Nat.zero_add]
    rw [show i * 2 + Int.toNat 0 * 1 = i * 2 from by simp, show i * 2 + Int.toNat 1 * 1 = i * 2 + 1 from by simp]
    obtain ⟨a, ha⟩ : ∃ a, a = fw.getD (i * 2) 0 := ⟨_, rfl⟩
    obtain ⟨b, hb⟩ : ∃ b, b = fw.getD (i * 2 + 1) 0 := ⟨_, rfl⟩
    rw [← ha, ← hb]
    have next : ¬ badW n fw i → i + 1 ≤ m ∧ ∀ j, j < i + 1 → ¬ badW n fw j := fun h => ⟨hil, fun j hj2 => by
      by_cases e : j = i
      · exact e ▸ h
      · exact hj j (by omega)⟩
    refine Tr.draw (md := true) [⟨[], [], []⟩, ⟨[0], [], []⟩, ⟨[0, 1], [], []⟩, ⟨[0, 1, 2], [74], []⟩, ⟨[0, 1, 2], [73], [3]⟩, ⟨[0, 1, 2, 3, 4], [], []⟩, ⟨[0, 1, 2, 3, 4, 5], [], []⟩, ⟨[0, 1, 2, 3, 4, 5, 6], [], []⟩, ⟨[0, 1, 2, 3, 4, 5, 6, 7], [79, 80], []⟩, ⟨[0, 1, 2, 3, 4, 5, 6, 7], [78], [8]⟩, ⟨[0, 1, 2, 3, 4, 5, 6, 7, 9], [78], [8]⟩, ⟨[0, 1, 2, 3, 4, 5, 6, 7, 8, 9, 10], [], []⟩, ⟨[0, 1, 2, 3, 4, 5, 6, 7, 8, 9, 10, 11], [], []⟩, ⟨[0, 1, 2, 3, 4, 5, 6, 7, 8, 9, 10, 11, 12], [], []⟩, ⟨[0, 1, 2, 3, 4, 5, 6, 7, 8, 9, 10, 11, 12, 13], [], []⟩, ⟨[0, 1, 2, 3, 4, 5, 6, 7, 8, 9, 10, 11, 12, 13, 14], [], []⟩, ⟨[0, 1, 2, 3, 4, 5, 6, 7, 8, 9, 10, 11, 12, 13, 14, 15], [], []⟩, ⟨[0, 1, 2, 3, 4, 5, 6, 7, 8, 9, 10, 11, 12, 13, 14, 15, 16], [89, 92, 93, 94, 95, 96, 97], []⟩, ⟨[0, 1, 2, 3, 4, 5, 6, 7, 8, 9, 10, 11, 12, 13, 14, 15, 16, 17], [89, 92, 93, 94, 95, 96, 97], []⟩, ⟨[0, 1, 2, 3, 4, 5, 6, 7, 8, 9, 10, 11, 12, 13, 14, 15, 16], [87, 88, 92, 93, 94, 95, 96, 97], [17, 18]⟩, ⟨[0, 1, 2, 3, 4, 5, 6, 7, 8, 9, 10, 11, 12, 13, 14, 15, 16, 17, 18, 19], [92, 93, 94, 95, 96, 97], []⟩, ⟨[0, 1, 2, 3, 4, 5, 6, 7, 8, 9, 10, 11, 12, 13, 14, 15, 16, 17, 18, 19, 20], [92, 93, 94, 95, 96, 97], []⟩, ⟨[0, 1, 2, 3, 4, 5, 6, 7, 8, 9, 10, 11, 12, 13, 14, 15, 16], [87, 88, 89, 90, 91, 94, 95], [17, 18, 19, 20, 21]⟩, ⟨[0, 1, 2, 3, 4, 5, 6, 7, 8, 9, 10, 11, 12, 13, 14, 15, 16, 22], [87, 88, 89, 90, 91, 94, 95], [17, 18, 19, 20, 21]⟩, ⟨[0, 1, 2, 3, 4, 5, 6, 7, 8, 9, 10, 11, 12, 13, 14, 15, 16], [87, 88, 89, 90, 91, 92, 93], [17, 18, 19, 20, 21, 22, 23]⟩, ⟨[0, 1, 2, 3, 4, 5, 6, 7, 8, 9, 10, 11, 12, 13, 14, 15, 16, 24], [87, 88, 89, 90, 91, 92, 93], [17, 18, 19, 20, 21, 22, 23]⟩, ⟨[0, 1, 2, 3, 4, 5, 6, 7, 8, 9, 10, 11, 12, 13, 14, 15, 16, 22, 23, 24, 25], [87, 88, 89, 90, 91], [17, 18, 19, 20, 21]⟩, ⟨[0, 1, 2, 3, 4, 5, 6, 7, 8, 9, 10, 11, 12, 13, 14, 15, 16, 22, 23, 24, 25, 26], [87, 88, 89, 90, 91], [17, 18, 19, 20, 21]⟩] tok (by kernel_rfl) (by kernel_rfl) ?_
    (conv => whnf); (repeat ((first | (refine ⟨rfl, ?_⟩) | (refine ⟨trivial, ?_⟩) | (refine Wk.yes ?_) | (refine Wk.no ?_) | (refine Wk.and ?_)); (conv => whnf)))
    by_cases g1 : a < 0
    · rw [decide_eq_true g1]
      (conv => whnf); (repeat ((first | (refine ⟨rfl, ?_⟩) | (refine ⟨trivial, ?_⟩) | (refine Wk.yes ?_) | (refine Wk.no ?_) | (refine Wk.and ?_)); (conv => whnf)))
      exact AH.Fin.nil [] (badI (by unfold badW; rw [← ha, ← hb]; exact .inl g1)) trivial trivial trivial rfl (by simp [GB])
    rw [decide_eq_false g1]
    (conv => whnf); (repeat ((first | (refine ⟨rfl, ?_⟩) | (refine ⟨trivial, ?_⟩) | (refine Wk.yes ?_) | (refine Wk.no ?_) | (refine Wk.and ?_)); (conv => whnf)))
    by_cases g2 : b ≤ a
    · rw [decide_eq_true g2]
      (conv => whnf); (repeat ((first | (refine ⟨rfl, ?_⟩) | (refine ⟨trivial, ?_⟩) | (refine Wk.yes ?_) | (refine Wk.no ?_) | (refine Wk.and ?_)); (conv => whnf)))
      exact AH.Fin.nil [] (badI (by unfold badW; rw [← ha, ← hb]; exact .inr (.inl g2))) trivial trivial trivial rfl (by simp [GB])
    rw [decide_eq_false g2]
    (conv => whnf); (repeat ((first | (refine ⟨rfl, ?_⟩) | (refine ⟨trivial, ?_⟩) | (refine Wk.yes ?_) | (refine Wk.no ?_) | (refine Wk.and ?_)); (conv => whnf)))
    by_cases g3 : n ≤ b
    · rw [decide_eq_true g3]
      (conv => whnf); (repeat ((first | (refine ⟨rfl, ?_⟩) | (refine ⟨trivial, ?_⟩) | (refine Wk.yes ?_) | (refine Wk.no ?_) | (refine Wk.and ?_)); (conv => whnf)))
      exact AH.Fin.nil [] (badI (by unfold badW; rw [← ha, ← hb]; exact .inr (.inr (.inl g3)))) trivial trivial trivial rfl (by simp [GB])
    rw [decide_eq_false g3]
    (conv => whnf); (repeat ((first | (refine ⟨rfl, ?_⟩) | (refine ⟨trivial, ?_⟩) | (refine Wk.yes ?_) | (refine Wk.no ?_) | (refine Wk.and ?_)); (conv => whnf)))
    by_cases g4 : 0 < i
    rotate_left
    · rw [decide_eq_false (show ¬ (0 : Int) < ((i : Nat) : Int) by omega)]
      (conv => whnf); (repeat ((first | (refine ⟨rfl, ?_⟩) | (refine ⟨trivial, ?_⟩) | (refine Wk.yes ?_) | (refine Wk.no ?_) | (refine Wk.and ?_)); (conv => whnf)))
      refine Again.mk (i + 1) (Sub.nil ⟨rfl, rfl, (by simp [tab64_LL, gC, wB, giC, noneB, tC, pC, rC, rB, giN]), rfl, (by simp [tupA, hpLt, tmLt, AV.lt, AE.lt, AC.lt, LL_cons, LL_nil, idOk, ABlk.lt, ints_LL, GB, tab64_LL, gC, wB, giC, noneB, tC, pC, rC, rB, giN]), (by simp [tupA, hpLt, tmLt, AV.lt, AE.lt, AC.lt, LL_cons, LL_nil, idOk, ABlk.lt, ints_LL, GB, tab64_LL, gC, wB, giC, noneB, tC, pC, rC, rB, giN])⟩ (by (repeat (first | exact trivial | refine ⟨trivial, ?_⟩ | refine ⟨rfl, ?_⟩))) (by (repeat (first | exact trivial | refine ⟨trivial, ?_⟩ | refine ⟨rfl, ?_⟩)))) (next (by unfold badW; rw [← ha, ← hb]; omega)) (by omega)
    rw [decide_eq_true (show (0 : Int) < ((i : Nat) : Int) by omega)]
    (conv => whnf); (repeat ((first | (refine ⟨rfl, ?_⟩) | (refine ⟨trivial, ?_⟩) | (refine Wk.yes ?_) | (refine Wk.no ?_) | (refine Wk.and ?_)); (conv => whnf)))
    refine ⟨⟨by show 0 + ((i : Int) - 1).toNat * 2 + 2 ≤ _; rw [ints_len]; omega, rfl⟩, ?_⟩
    obtain ⟨a', ha'⟩ : ∃ a', a' = fw.getD ((i - 1) * 2) 0 := ⟨_, rfl⟩
    obtain ⟨b', hb'⟩ : ∃ b', b' = fw.getD ((i - 1) * 2 + 1) 0 := ⟨_, rfl⟩
    have e1 : rdn (ints fw) (0 + (i : Int).toNat * 2) [.int .i64 0, .int .i64 0] = [.int .i64 a, .int .i64 b] := by
      simp only [rdn, ints_getD, Int.toNat_natCast, Nat.zero_add]
      rw [ha, hb]
    have e2 : rdn (ints fw) (0 + ((i : Int) - 1).toNat * 2) [.int .i64 0, .int .i64 0] = [.int .i64 a', .int .i64 b'] := by
      simp only [rdn, ints_getD, Nat.zero_add]
      rw [show ((i : Int) - 1).toNat = i - 1 by omega, ha', hb']
    rw [e1]
    (conv => whnf); (repeat ((first | (refine ⟨rfl, ?_⟩) | (refine ⟨trivial, ?_⟩) | (refine Wk.yes ?_) | (refine Wk.no ?_) | (refine Wk.and ?_)); (conv => whnf)))
    rw [e2]
    have hcm : (0 < cmpL (win fw ((i - 1) * 2) 2) (win fw (i * 2) 2)) ↔ (a < a' ∨ (a = a' ∧ b < b')) := by
      rw [win2 (by omega), win2 (by omega), ← ha, ← hb, ← ha', ← hb']
      simp only [cmpL]
      unfold cmpI
      split <;> (try split) <;> omega
    refine CallA.ro [] (.c (.bool (decide (a < a' ∨ (a = a' ∧ b < b'))))) (before_spec a b a' b') (by first | rfl | exact congrArg AV.g (ints_ren _ _) | (simp [ints_ren, AV.ren, ABlk.ren, AC.ren, AE.ren, qq]; done)) rfl (by (repeat (first | exact trivial | refine ⟨⟨(by first | exact .inl (by decide) | exact .inr (by decide)), (by first | rfl | exact congrArg some (ints_ren _ _).symm | exact congrArg ABlk.own (ints_ren _ _).symm | exact congrArg some (tab64_ren _).symm)⟩, ?_⟩))) (by first | rfl | exact congrArg AV.g (ints_ren _ _) | (simp [ints_ren, AV.ren, ABlk.ren, AC.ren, AE.ren, qq]; done)) ?_
    by_cases g5 : a < a' ∨ (a = a' ∧ b < b')
    · rw [decide_eq_true g5]
      (conv => whnf); (repeat ((first | (refine ⟨rfl, ?_⟩) | (refine ⟨trivial, ?_⟩) | (refine Wk.yes ?_) | (refine Wk.no ?_) | (refine Wk.and ?_)); (conv => whnf)))
      exact AH.Fin.nil [] (badI (by unfold badW; exact .inr (.inr (.inr ⟨g4, hcm.2 g5⟩)))) trivial trivial trivial rfl (by simp [GB])
    · rw [decide_eq_false g5]
      (conv => whnf); (repeat ((first | (refine ⟨rfl, ?_⟩) | (refine ⟨trivial, ?_⟩) | (refine Wk.yes ?_) | (refine Wk.no ?_) | (refine Wk.and ?_)); (conv => whnf)))
      refine Again.mk (i + 1) (Sub.nil ⟨rfl, rfl, (by simp [tab64_LL, gC, wB, giC, noneB, tC, pC, rC, rB, giN]), rfl, (by simp [tupA, hpLt, tmLt, AV.lt, AE.lt, AC.lt, LL_cons, LL_nil, idOk, ABlk.lt, ints_LL, GB, tab64_LL, gC, wB, giC, noneB, tC, pC, rC, rB, giN]), (by simp [tupA, hpLt, tmLt, AV.lt, AE.lt, AC.lt, LL_cons, LL_nil, idOk, ABlk.lt, ints_LL, GB, tab64_LL, gC, wB, giC, noneB, tC, pC, rC, rB, giN])⟩ (by (repeat (first | exact trivial | refine ⟨trivial, ?_⟩ | refine ⟨rfl, ?_⟩))) (by (repeat (first | exact trivial | refine ⟨trivial, ?_⟩ | refine ⟨rfl, ?_⟩)))) (next (by unfold badW; rw [← ha, ← hb, hcm]; omega)) (by omega)
end Go.Proofs.YtfphkpdobbffeaaGreatDoor
