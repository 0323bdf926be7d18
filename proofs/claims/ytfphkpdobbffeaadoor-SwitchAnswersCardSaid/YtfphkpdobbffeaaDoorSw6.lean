/-
  Contracts: a copy of wires, one wire taken away; the game without a wire, by the program.
-/
import Derived.Test.YtfphkpdobbffeaaDoorSw5
import Derived.Test.YtfphkpdobbffeaaDoorAh6
set_option linter.unusedSimpArgs false
set_option linter.unusedVariables false
namespace Go.Proofs.YtfphkpdobbffeaaDoor
open Go Go.AH
set_option maxRecDepth 100000
set_option maxHeartbeats 1000000

/-- The game without a wire. -/
def lessG (g : Gm) (w : Nat) : Gm := ⟨g.n, g.s, g.t, g.ws.take w ++ g.ws.drop (w + 1)⟩
theorem game_ends {g : Gm} (h : g.game) : g.s ≠ g.t := by
  have h1 := h.1
  unfold bad0 at h1
  omega
theorem clone_spec {ws : List (Nat × Nat)} (h : 0 < ws.length) (h10 : ws.length ≤ 10) : FDet Tryd.prog 79 [.c (.rs 0 0 ws.length)] [(0, .ro (ints (fl ws)))] 1 (.c (.row 1 ws.length)) [(1, .row 60 2 (ints (fl ws)))] 2 := by
  have hl : (ints (fl ws)).length = ws.length * 2 := by rw [ints_len, fl_len]
  have ht : ((ints (fl ws)).drop 0).take (ws.length * 2) = ints (fl ws) := by rw [List.drop_zero, ← hl, List.take_length]
  refine FSpec.of_body tok true Tryd.func79 rfl (by kernel_rfl) (by decide) (by simp [tupA, hpLt, tmLt, AV.lt, AE.lt, AC.lt, LL_cons, LL_nil, idOk, ABlk.lt, ints_LL, GB, tab64_LL, gC, wB, giC, noneB, gst, tC, pC, gN, gR, rC, rB]) (by simp [tupA, hpLt, tmLt, AV.lt, AE.lt, AC.lt, LL_cons, LL_nil, idOk, ABlk.lt, ints_LL, GB, tab64_LL, gC, wB, giC, noneB, gst, tC, pC, gN, gR, rC, rB]) (by show 1 ≤ _; decide) ?_
  refine Wk.on ?_
  refine ⟨by rw [hl]; show 0 + ws.length * 2 ≤ _; omega, ?_⟩
  refine Wk.on ?_
  refine ⟨⟨Nat.le_of_ble_eq_true rfl, by show 0 < 0 + ws.length; omega, Nat.le_of_ble_eq_true rfl, by show ((0 + ws.length : Nat) : Int) * 16 ≤ _; omega, by show 0 + ws.length ≤ _; omega⟩, ?_⟩
  rw [show (((rep 0 [AC.int .i64 0, AC.int .i64 0]).drop 0).take (0 * 2) ++ ((ints (fl ws)).drop 0).take (ws.length * 2)) = ints (fl ws) from ht, Nat.zero_add]
  refine Wk.on ?_
  exact AH.Fin.new [2] _ _ ⟨rfl, rfl, rfl⟩ rfl ⟨by show some _ = some _; exact congrArg (fun l => some (ABlk.row 60 2 l)) (ints_ren _ _).symm, trivial⟩ rfl (by simp [tupA, hpLt, tmLt, AV.lt, AE.lt, AC.lt, LL_cons, LL_nil, idOk, ABlk.lt, ints_LL, GB, tab64_LL, gC, wB, giC, noneB, gst, tC, pC, gN, gR, rC, rB]) (by simp [tupA, hpLt, tmLt, AV.lt, AE.lt, AC.lt, LL_cons, LL_nil, idOk, ABlk.lt, ints_LL, GB, tab64_LL, gC, wB, giC, noneB, gst, tC, pC, gN, gR, rC, rB])
theorem openWire_ok {g : Gm} (hg : g.game) {i : Nat} (hi : i < g.ws.length) : FDet Tryd.prog 77 [.g (gC g 0), .c (.int .i64 i)] [(0, wB g)] 1 (.c (.int .i64 0)) [] 1 := by
  have hc := check_ok hg
  refine FSpec.of_body tok true Tryd.func77 rfl (by kernel_rfl) (by decide) (by simp [tupA, hpLt, tmLt, AV.lt, AE.lt, AC.lt, LL_cons, LL_nil, idOk, ABlk.lt, ints_LL, GB, tab64_LL, gC, wB, giC, noneB, gst, tC, pC, gN, gR, rC, rB]) (by simp [tupA, hpLt, tmLt, AV.lt, AE.lt, AC.lt, LL_cons, LL_nil, idOk, ABlk.lt, ints_LL, GB, tab64_LL, gC, wB, giC, noneB, gst, tC, pC, gN, gR, rC, rB]) (by show 2 ≤ _; decide) ?_
  refine Wk.on ?_
  refine CallA.ro [0] (.c (.int .i64 0)) (hc) (by first | rfl | exact congrArg AV.g (ints_ren _ _) | (simp [ints_ren, AV.ren, ABlk.ren, AC.ren, AE.ren, qq]; done)) rfl (by (repeat (first | exact trivial | refine ⟨⟨(by first | exact .inl (by decide) | exact .inr (by decide)), (by first | (refine Or.inl ?_; first | rfl | exact congrArg some (ints_ren _ _).symm | exact congrArg ABlk.own (ints_ren _ _).symm | exact congrArg some (tab64_ren _).symm | exact congrArg (ABlk.row _ _) (ints_ren _ _).symm) | rfl | exact congrArg some (ints_ren _ _).symm | exact congrArg ABlk.own (ints_ren _ _).symm | exact congrArg some (tab64_ren _).symm | exact congrArg (ABlk.row _ _) (ints_ren _ _).symm | exact Or.inr ⟨rfl, rfl⟩)⟩, ?_⟩))) (by first | rfl | exact congrArg AV.g (ints_ren _ _) | (simp [ints_ren, AV.ren, ABlk.ren, AC.ren, AE.ren, qq]; done)) ?_
  refine Wk.on ?_
  rw [decide_eq_false (show ¬ ((i : Nat) : Int) < 0 by omega)]
  refine Wk.on ?_
  rw [decide_eq_false (show ¬ ((g.ws.length : Nat) : Int) ≤ ((i : Nat) : Int) by omega)]
  refine Wk.on ?_
  exact AH.Fin.nil [] ⟨rfl, rfl, rfl⟩ (by first | exact trivial | (simp [tupA, hpLt, tmLt, AV.lt, AE.lt, AC.lt, LL_cons, LL_nil, idOk, ABlk.lt, ints_LL, GB, tab64_LL, gC, wB, giC, noneB, gst, tC, pC, gN, gR, rC, rB]; done) | (simp [tupA, hpLt, tmLt, AV.lt, AE.lt, AC.lt, LL_cons, LL_nil, idOk, ABlk.lt, ints_LL, GB, tab64_LL, gC, wB, giC, noneB, gst, tC, pC, gN, gR, rC, rB, rdn, wrn]; done)) trivial trivial rfl (by simp [GB])
theorem lessG_len {g : Gm} {w : Nat} (hw : w < g.ws.length) : (lessG g w).ws.length = g.ws.length - 1 := by
  show (g.ws.take w ++ g.ws.drop (w + 1)).length = _
  rw [List.length_append, List.length_take, List.length_drop]; omega
theorem cutZ {M Z P : List AC} {k : Nat} (hM : M.length = k) (hZ : Z.length ≤ 2) : (M ++ Z).take k ++ P ++ (M ++ Z).drop (k + 2) = M ++ P := by
  rw [← hM, List.take_left, List.drop_of_length_le (by rw [List.length_append]; omega), List.append_nil]
/-- One wire taken away: what lies in the row then. -/
theorem del_cells (W : List (Nat × Nat)) (i d : Nat) (hd : W.length = i + 1 + d) (P : List AC) : ((ints (fl W)).take (i * 2) ++ ((ints (fl W)).drop ((i + 1) * 2)).take (d * 2) ++ (ints (fl W)).drop (i * 2 + d * 2)).take ((i + d) * 2) ++ P ++ ((ints (fl W)).take (i * 2) ++ ((ints (fl W)).drop ((i + 1) * 2)).take (d * 2) ++ (ints (fl W)).drop (i * 2 + d * 2)).drop ((i + d) * 2 + 2) = ints (fl (W.take i ++ W.drop (i + 1))) ++ P := by
  have hl : (ints (fl W)).length = W.length * 2 := by rw [ints_len, fl_len]
  have e1 : (ints (fl W)).take (i * 2) = ints (fl (W.take i)) := by rw [fl_take]; simp [ints]
  have e2 : ((ints (fl W)).drop ((i + 1) * 2)).take (d * 2) = ints (fl (W.drop (i + 1))) := by
    rw [List.take_of_length_le (by rw [List.length_drop, hl]; omega), fl_drop]; simp [ints]
  have e3 : ints (fl (W.take i)) ++ ints (fl (W.drop (i + 1))) = ints (fl (W.take i ++ W.drop (i + 1))) := by simp [ints, fl]
  rw [e1, e2, e3]
  exact cutZ (by rw [ints_len, fl_len, List.length_append, List.length_take, List.length_drop]; omega) (by rw [List.length_drop, hl]; omega)
theorem delete_spec (W : List (Nat × Nat)) (hW : W.length ≤ 10) (i : Nat) (hi : i < W.length) : FDet Tryd.prog 78 [.c (.row 0 W.length), .c (.int .i64 i), .c (.int .i64 ((i : Int) + 1))] [(0, .row 60 2 (ints (fl W)))] 1 (.c (.row 0 (W.length - 1))) [(0, .row 60 2 (ints (fl (W.take i ++ W.drop (i + 1)))))] 1 := by
  have hl : (ints (fl W)).length = W.length * 2 := by rw [ints_len, fl_len]
  obtain ⟨d, hd⟩ : ∃ d, W.length = i + 1 + d := ⟨W.length - (i + 1), by omega⟩
  have hdc := del_cells W i d hd (ints [0, 0])
  refine FDet.cutRow (ys := ints [0, 0]) ?_
  have hcat : ints (fl (W.take i ++ W.drop (i + 1))) ++ ints [0, 0] = ints (fl (W.take i ++ W.drop (i + 1)) ++ [0, 0]) := by simp [ints]
  rw [hcat] at hdc ⊢
  have hDL : LL 1 (ints (fl (W.take i ++ W.drop (i + 1)) ++ [0, 0])) := ints_LL _ _
  generalize ints (fl (W.take i ++ W.drop (i + 1)) ++ [0, 0]) = D at *
  generalize hX : ints (fl W) = X at *
  have hXL : LL 1 X := hX ▸ ints_LL _ _
  clear hX hcat
  rw [hd] at hl hW ⊢
  clear hd hi
  have e2 : i + 1 + d - (i + 1) = d := by omega
  refine FSpec.capRow (z := 2) rfl (Go.Proofs.enters_of Tryd.func78 (by kernel_rfl) rfl) fun c hc1 hc2 => ?_
  refine FDet.post (r := .c (.rp 0 0 (i + 1 + d - 1) c 2)) (hq := [(0, .row 60 2 D)]) (k' := 1) ?_ _ _ ⟨rfl, rfl, rfl⟩ ⟨⟨⟨rfl, rfl⟩, .inl rfl⟩, trivial⟩ (by simp [tupA, hpLt, tmLt, AV.lt, AE.lt, AC.lt, LL_cons, LL_nil, idOk, ABlk.lt, ints_LL, GB, tab64_LL, gC, wB, giC, noneB, gst, tC, pC, gN, gR, rC, rB]) ⟨.inl (by decide), hDL, trivial⟩ rfl
  show FDet Tryd.prog 78 [.c (.rp 0 0 (i + 1 + d) c 2), .c (.int .i64 i), .c (.int .i64 ((i : Int) + 1))] _ 1 _ _ 1
  refine FSpec.of_body tok true Tryd.func78 rfl (by kernel_rfl) (by decide) (by simp [tupA, hpLt, tmLt, AV.lt, AE.lt, AC.lt, LL_cons, LL_nil, idOk, ABlk.lt, ints_LL, GB, tab64_LL, gC, wB, giC, noneB, gst, tC, pC, gN, gR, rC, rB]) ⟨.inl (by decide), hXL, trivial⟩ (by show 3 ≤ _; decide) ?_
  refine Wk.on ?_
  refine ⟨⟨rfl, rfl, by show (0 : Int) ≤ i; omega, by show (i : Int) ≤ i + 1; omega, by omega, by omega⟩, ?_⟩
  refine Wk.on ?_
  rw [decide_eq_false (show ¬ ((i : Nat) : Int) = ((i : Nat) : Int) + 1 by omega)]
  refine Wk.on ?_
  refine Tr.draw (md := true) [⟨[], [21, 23, 24, 25], [], [], []⟩, ⟨[], [20, 23, 24, 25], [0], [], []⟩, ⟨[0, 1], [23, 24, 25], [], [], []⟩, ⟨[], [20, 21, 22, 24], [0, 1, 2], [], []⟩, ⟨[], [20, 21, 22, 23], [0, 1, 2, 3], [], []⟩, ⟨[3, 4], [20, 21, 22], [0, 1, 2], [], []⟩] tok (by kernel_rfl) (by kernel_rfl) ?_
  refine Wk.on ?_
  refine ⟨⟨rfl, Int.le_refl 0, by show (0 : Int) ≤ i; omega, by show (i : Int) ≤ c; omega⟩, fun _ => ?_, fun h => absurd (Or.inl rfl) h⟩
  refine Wk.on ?_
  refine ⟨⟨rfl, by show (0 : Int) ≤ (i : Int) + 1; omega, by show (i : Int) + 1 ≤ ((i + 1 + d : Nat) : Int); omega, by show ((i + 1 + d : Nat) : Int) ≤ c; omega⟩, fun hlo => ?_, fun hlo => ?_⟩
  · have e1 : ((i : Int) + 1).toNat = i + 1 := by omega
    refine Wk.on ?_
    simp only [Option.getD_some, Option.getD_none, Int.toNat_natCast, Int.toNat_zero, Nat.sub_zero, Nat.zero_add, e1, e2]
    refine ⟨⟨by first | rfl | trivial, by show (i + 1) * 2 + d * 2 ≤ X.length; omega⟩, ?_⟩
    refine Wk.on ?_
    refine ⟨⟨by first | rfl | trivial, by first | rfl | trivial, by first | rfl | trivial, by show 0 * 2 + i * 2 ≤ X.length; omega⟩, fun _ => ?_, fun h => by (exfalso; omega)⟩
    refine Wk.on ?_
    refine ⟨⟨rfl, by show (0 : Int) ≤ ((i + d : Nat) : Int); omega, by show ((i + d : Nat) : Int) ≤ ((i + 1 + d : Nat) : Int); omega, by show ((i + 1 + d : Nat) : Int) ≤ c; omega⟩, fun _ => ?_, fun h => absurd (Or.inr (by show ((i + d : Nat) : Int) < c; omega)) h⟩
    refine Wk.on ?_
    have e3 : i + 1 + d - (i + d) = 1 := by omega
    simp only [Option.getD_some, Option.getD_none, Int.toNat_natCast, Int.toNat_zero, Nat.sub_zero, Nat.zero_add, Nat.zero_mul, e3]
    refine ⟨⟨by first | rfl | trivial, by first | rfl | trivial, by simp only [List.length_append, List.length_take, List.length_drop]; show (i + d) * 2 ≤ _; omega⟩, ?_⟩
    refine Wk.on ?_
    exact Fin.nil [(0, .row 60 2 D)] ⟨by rw [show i + 1 + d - 1 = i + d by omega]; rfl, rfl, rfl⟩ (Or.inl (by show 0 < 1; omega)) ⟨congrArg (ABlk.row 60 2) hdc, trivial⟩ ⟨.inl (by show 0 < 1; omega), hDL, trivial⟩ rfl (by simp [GB])
  · obtain ⟨rfl, rfl⟩ : d = 0 ∧ c = i + 1 := by
      have h1 : ¬ ((i : Int) + 1 = 0 ∨ (i : Int) + 1 < c) := hlo
      omega
    refine Wk.on ?_
    simp only [Option.getD_some, Option.getD_none, Int.toNat_natCast, Int.toNat_zero, Nat.sub_zero, Nat.zero_add, Nat.zero_mul, Nat.add_zero]
    refine ⟨⟨by first | rfl | trivial, by first | rfl | trivial, by first | rfl | trivial, by show i * 2 ≤ X.length; omega⟩, fun _ => ?_, fun h => by (exfalso; omega)⟩
    refine Wk.on ?_
    refine ⟨⟨by first | rfl | trivial, by show (0 : Int) ≤ ((i : Nat) : Int); omega, by show ((i : Nat) : Int) ≤ ((i + 1 : Nat) : Int); omega, by show ((i + 1 : Nat) : Int) ≤ ((i + 1 : Nat) : Int); omega⟩, fun _ => ?_, fun h => absurd (Or.inr (by show ((i : Nat) : Int) < ((i + 1 : Nat) : Int); omega)) h⟩
    refine Wk.on ?_
    have e3 : i + 1 - i = 1 := by omega
    simp only [Option.getD_some, Option.getD_none, Int.toNat_natCast, Int.toNat_zero, Nat.sub_zero, Nat.zero_add, Nat.zero_mul, e3]
    refine ⟨⟨by first | rfl | trivial, by first | rfl | trivial, by simp only [List.length_append, List.length_take, List.length_drop]; show i * 2 ≤ _; omega⟩, ?_⟩
    refine Wk.on ?_
    exact Fin.nil [(0, .row 60 2 D)] ⟨rfl, rfl, rfl⟩ (Or.inl (by show 0 < 1; omega)) ⟨by show ABlk.row 60 2 _ = ABlk.row 60 2 D; rw [← hdc]; simp; rfl, trivial⟩ ⟨.inl (by show 0 < 1; omega), hDL, trivial⟩ rfl (by simp [GB])
theorem without_ok {g : Gm} (hg : g.game) {i : Nat} (hi : i < g.ws.length) : FDet Tryd.prog 37 [.g (gC g 0), .c (.int .i64 i)] [(0, wB g)] 1 (.t [.g (gR (lessG g i) 1), .c (.int .i64 0)]) [(1, .row 60 2 (ints (fl (lessG g i).ws)))] 2 := by
  have hl10 := hg.ok.len
  have hc := clone_spec (ws := g.ws) (by omega) hl10
  have hd := delete_spec g.ws hl10 i hi
  rw [← lessG_len hi] at hd
  change FDet Tryd.prog _ _ _ _ _ [(0, .row 60 2 (ints (fl (lessG g i).ws)))] _ at hd
  have h3 : (lessG g i).n = g.n ∧ (lessG g i).s = g.s ∧ (lessG g i).t = g.t := ⟨rfl, rfl, rfl⟩
  show FDet Tryd.prog _ _ _ _ (.t [.g [.int .i64 g.n, .int .i64 g.s, .int .i64 g.t, .row 1 (lessG g i).ws.length], .c (.int .i64 0)]) _ _
  generalize (lessG g i).ws = L at *
  refine FSpec.of_body tok true Tryd.func37 rfl (by kernel_rfl) (by decide) (by simp [tupA, hpLt, tmLt, AV.lt, AE.lt, AC.lt, LL_cons, LL_nil, idOk, ABlk.lt, ints_LL, GB, tab64_LL, gC, wB, giC, noneB, gst, tC, pC, gN, gR, rC, rB]) (by simp [tupA, hpLt, tmLt, AV.lt, AE.lt, AC.lt, LL_cons, LL_nil, idOk, ABlk.lt, ints_LL, GB, tab64_LL, gC, wB, giC, noneB, gst, tC, pC, gN, gR, rC, rB]) (by show 2 ≤ _; decide) ?_
  refine Wk.on ?_
  refine CallA.ro [0] (.c (.int .i64 0)) (openWire_ok hg hi) (by first | rfl | exact congrArg AV.g (ints_ren _ _) | (simp [ints_ren, AV.ren, ABlk.ren, AC.ren, AE.ren, qq]; done)) rfl (by (repeat (first | exact trivial | refine ⟨⟨(by first | exact .inl (by decide) | exact .inr (by decide)), (by first | (refine Or.inl ?_; first | rfl | exact congrArg some (ints_ren _ _).symm | exact congrArg ABlk.own (ints_ren _ _).symm | exact congrArg some (tab64_ren _).symm | exact congrArg (ABlk.row _ _) (ints_ren _ _).symm) | rfl | exact congrArg some (ints_ren _ _).symm | exact congrArg ABlk.own (ints_ren _ _).symm | exact congrArg some (tab64_ren _).symm | exact congrArg (ABlk.row _ _) (ints_ren _ _).symm | exact Or.inr ⟨rfl, rfl⟩)⟩, ?_⟩))) (by first | rfl | exact congrArg AV.g (ints_ren _ _) | (simp [ints_ren, AV.ren, ABlk.ren, AC.ren, AE.ren, qq]; done)) ?_
  refine Wk.on ?_
  refine Tr.draw (md := true) [⟨[], [16, 17, 18, 19, 20, 21, 22, 23, 24, 25, 26], [], [], [3]⟩, ⟨[0], [16, 17, 18, 19, 20, 21, 22, 23, 24, 25, 26], [], [], [3]⟩, ⟨[], [14, 15, 18, 19, 20, 21, 22, 23, 24, 25, 26], [0, 1], [], [3]⟩, ⟨[2], [14, 15, 18, 19, 20, 21, 22, 23, 24, 25, 26], [0, 1], [], [3]⟩, ⟨[], [14, 15, 16, 17, 20, 21, 22, 23, 24, 25, 26], [0, 1, 2, 3], [], [3]⟩, ⟨[4], [14, 15, 16, 17, 20, 21, 22, 23, 24, 25, 26], [0, 1, 2, 3], [], [3]⟩, ⟨[], [14, 15, 16, 17, 18, 19, 23, 24, 25], [0, 1, 2, 3, 4, 5], [], []⟩, ⟨[6], [14, 15, 16, 17, 18, 19, 23, 24, 25], [0, 1, 2, 3, 4, 5], [], []⟩, ⟨[6, 7], [14, 15, 16, 17, 18, 19, 23, 24, 25], [0, 1, 2, 3, 4, 5], [], []⟩, ⟨[], [14, 15, 16, 17, 18, 19, 20, 21, 22, 24, 25], [0, 1, 2, 3, 4, 5, 6, 7, 8], [], []⟩, ⟨[], [14, 15, 16, 17, 18, 19, 20, 21, 22, 23], [0, 1, 2, 3, 4, 5, 6, 7, 8, 9], [], []⟩, ⟨[10], [14, 15, 16, 17, 18, 19, 20, 21, 22, 23], [0, 1, 2, 3, 4, 5, 6, 7, 8, 9], [], []⟩, ⟨[6, 7, 8, 9, 10, 11], [14, 15, 16, 17, 18, 19], [0, 1, 2, 3, 4, 5], [3], []⟩] tok (by kernel_rfl) (by kernel_rfl) ?_
  refine Wk.on ?_
  refine CallQ.new [0] (.c (.row 3 g.ws.length)) ([(3, .row 60 2 (ints (fl g.ws)))]) (hc) (by first | rfl | exact congrArg AV.g (ints_ren _ _) | (simp [ints_ren, AV.ren, ABlk.ren, AC.ren, AE.ren, qq]; done)) rfl (by (repeat (first | exact trivial | refine ⟨⟨(by first | exact .inl (by decide) | exact .inr (by decide)), (by first | (refine Or.inl ?_; first | rfl | exact congrArg some (ints_ren _ _).symm | exact congrArg ABlk.own (ints_ren _ _).symm | exact congrArg some (tab64_ren _).symm | exact congrArg (ABlk.row _ _) (ints_ren _ _).symm) | rfl | exact congrArg some (ints_ren _ _).symm | exact congrArg ABlk.own (ints_ren _ _).symm | exact congrArg some (tab64_ren _).symm | exact congrArg (ABlk.row _ _) (ints_ren _ _).symm | exact Or.inr ⟨rfl, rfl⟩)⟩, ?_⟩))) (by first | rfl | exact congrArg AV.g (ints_ren _ _) | (simp [ints_ren, AV.ren, ABlk.ren, AC.ren, AE.ren, qq]; done)) (by first | rfl | (simp [behind, gone, lk, up, del, qq, ABlk.wr, GB, ints_ren, AV.ren, ABlk.ren, AC.ren, AE.ren]; done) | (simp [behind, gone, lk, up, del, qq, ABlk.wr, GB, ints_ren, AV.ren, ABlk.ren, AC.ren, AE.ren]; rfl)) ?_
  refine Wk.on ?_
  refine CallQ.turn [3] (.c (.row 3 L.length)) ([(3, .row 60 2 (ints (fl L)))]) (hd) (by first | rfl | exact congrArg AV.g (ints_ren _ _) | (simp [ints_ren, AV.ren, ABlk.ren, AC.ren, AE.ren, qq]; done)) rfl (by (repeat (first | exact trivial | refine ⟨⟨(by first | exact .inl (by decide) | exact .inr (by decide)), (by first | (refine Or.inl ?_; first | rfl | exact congrArg some (ints_ren _ _).symm | exact congrArg ABlk.own (ints_ren _ _).symm | exact congrArg some (tab64_ren _).symm | exact congrArg (ABlk.row _ _) (ints_ren _ _).symm) | rfl | exact congrArg some (ints_ren _ _).symm | exact congrArg ABlk.own (ints_ren _ _).symm | exact congrArg some (tab64_ren _).symm | exact congrArg (ABlk.row _ _) (ints_ren _ _).symm | exact Or.inr ⟨rfl, rfl⟩)⟩, ?_⟩))) (by first | rfl | exact congrArg AV.g (ints_ren _ _) | (simp [ints_ren, AV.ren, ABlk.ren, AC.ren, AE.ren, qq]; done)) (by first | rfl | (simp [qq, GB, ints_ren, AV.ren, ABlk.ren, AC.ren, AE.ren]; done) | (simp [qq, GB, ints_ren, AV.ren, ABlk.ren, AC.ren, AE.ren]; rfl)) ?_
  refine Wk.on ?_
  exact AH.Fin.new [3] _ _ ⟨rfl, rfl, rfl⟩ rfl ⟨by show some _ = some _; exact congrArg (fun l => some (ABlk.row 60 2 l)) (ints_ren _ _).symm, trivial⟩ rfl (by simp [tupA, hpLt, tmLt, AV.lt, AE.lt, AC.lt, LL_cons, LL_nil, idOk, ABlk.lt, ints_LL, GB, tab64_LL, gC, wB, giC, noneB, gst, tC, pC, gN, gR, rC, rB]) (by simp [tupA, hpLt, tmLt, AV.lt, AE.lt, AC.lt, LL_cons, LL_nil, idOk, ABlk.lt, ints_LL, GB, tab64_LL, gC, wB, giC, noneB, gst, tC, pC, gN, gR, rC, rB])
theorem without_rs {g : Gm} (hg : g.game) {i : Nat} (hi : i < g.ws.length) : FDet Tryd.prog 37 [.g (gC g 0), .c (.int .i64 i)] [(0, wB g)] 1 (.t [.g (gC (lessG g i) 1), .c (.int .i64 0)]) [(1, .row 60 2 (ints (fl (lessG g i).ws)))] 2 :=
  FDet.post (without_ok hg hi) _ _ ⟨.inr ⟨rfl, rfl, rfl, ⟨⟨rfl, rfl, rfl⟩, trivial⟩, trivial⟩, rfl, trivial⟩ ⟨⟨⟨rfl, rfl⟩, .inl rfl⟩, trivial⟩ (by
    intro e he
    simp only [List.mem_cons, List.not_mem_nil, or_false] at he
    rcases he with rfl | rfl
    · exact gC_LL (.inl (by decide))
    · trivial) (by simp [tupA, hpLt, tmLt, AV.lt, AE.lt, AC.lt, LL_cons, LL_nil, idOk, ABlk.lt, ints_LL, GB, tab64_LL, gC, wB, giC, noneB, gst, tC, pC, gN, gR, rC, rB]) rfl
def zeroT : AV := .t [.g [.int .i64 0, .int .i64 0, .int .i64 0, .nils], .c (.int .i64 1)]
/-! Games. -/
theorem game_of {g : Gm} (h2 : 2 ≤ g.n) (h8 : g.n ≤ 8) (hs : g.s < g.n) (ht : g.t < g.n) (hst : g.s ≠ g.t) (hl : g.ws.length ≤ 10) (hT : Tm g.n g.ws) : g.game := by
  obtain ⟨hw, hp⟩ := hT
  obtain ⟨n, s, t, L⟩ := g
  dsimp only at *
  show isGame n s t (fl L) L.length
  refine ⟨by unfold bad0; omega, fun i hi => ?_⟩
  have hg : ∀ j, j < L.length → (L.getD j (0, 0)) ∈ L := fun j hj => by
    rw [List.getD_eq_getElem?_getD, List.getElem?_eq_getElem hj]; exact List.getElem_mem hj
  have hwi := hw _ (hg i hi)
  unfold badW
  rw [(fl_get L i).1, (fl_get L i).2]
  have hc : 0 < i → ¬ 0 < cmpL (win (fl L) ((i - 1) * 2) 2) (win (fl L) (i * 2) 2) := fun h0 => by
    have hle : leW (L.getD (i - 1) (0, 0)) (L.getD i (0, 0)) = true := by
      have := List.pairwise_iff_getElem.1 hp (i - 1) i (by omega) hi (by omega)
      rw [List.getD_eq_getElem?_getD, List.getD_eq_getElem?_getD, List.getElem?_eq_getElem hi, List.getElem?_eq_getElem (show i - 1 < L.length by omega)]
      exact this
    rw [leW_iff] at hle
    have hfl := fl_len L
    rw [win2 (by omega), win2 (by omega), (fl_get L i).1, (fl_get L i).2, (fl_get L (i - 1)).1, (fl_get L (i - 1)).2]
    simp only [cmpL]
    unfold cmpI
    split <;> omega
  omega
theorem tame_Tm (x : Rw) {pl most : Nat} (h1 : 2 ≤ pl) : Tm (tame x pl most).n (tame x pl most).ws :=
  (tameA_Tm x (n := tameN x pl) (most := most) (by unfold tameN; omega) _ (Nat.le_refl _)).1
theorem Tm.sub {n : Nat} {l l' : List (Nat × Nat)} (h : Tm n l) (hs : l'.Sublist l) : Tm n l' := ⟨fun w hw => h.1 w (hs.subset hw), h.2.sublist hs⟩
theorem lessG_sub (g : Gm) (w : Nat) : (lessG g w).ws.Sublist g.ws := by
  show (g.ws.take w ++ g.ws.drop (w + 1)).Sublist g.ws
  rw [← List.eraseIdx_eq_take_drop_succ]
  exact List.eraseIdx_sublist _ _
theorem lessG_Tm {g : Gm} (hT : Tm g.n g.ws) (w : Nat) : Tm (lessG g w).n (lessG g w).ws := hT.sub (lessG_sub g w)
theorem lessG_game {g : Gm} (hg : g.game) (hT : Tm g.n g.ws) (w : Nat) : (lessG g w).game :=
  game_of hg.ok.n2 hg.ok.n8 hg.ok.s hg.ok.t (show g.s ≠ g.t from game_ends hg) (Nat.le_trans (lessG_sub g w).length_le hg.ok.len) (lessG_Tm hT w)
end Go.Proofs.YtfphkpdobbffeaaDoor

/-
  Plain: keeping and cutting wires; the game without a wire.
-/
namespace Go.Proofs.YtfphkpdobbffeaaDoor
open Go Go.AH Go.Wire
set_option maxRecDepth 100000
set_option maxHeartbeats 1000000

theorem or2_lt {g : Gm} {k w : Nat} (hk : k < 2 ^ g.ws.length) (hw : w < g.ws.length) : k ||| 2 ^ w < 2 ^ g.ws.length := or_lt hk ((Nat.pow_lt_pow_iff_right (by omega)).2 hw)
theorem off_less {g : Gm} (hg : g.ok) {f w : Nat} (hf : f < 2 ^ g.ws.length) (hw : f.testBit w = true) : offN f w < 2 ^ g.ws.length := by
  have hp := ws1024 hg
  have := (off_ok f (by omega) w ((memN_mem (by omega)).2 hw)).2
  omega
theorem keep_kept {k w : Nat} (hk : k < 1024) (hw : w < 10) (j : Nat) : j ∈ memN (k ||| 2 ^ w) ↔ j ∈ w :: memN k := by
  rw [memN_mem (or_lt (k := 10) hk ((Nat.pow_lt_pow_iff_right (by omega)).2 hw)), or_bit, List.mem_cons, memN_mem hk]
  simp only [Bool.or_eq_true, decide_eq_true_eq]
  exact Or.comm
/-! Other numbers for the wires. -/
def upW (w i : Nat) : Nat := if i < w then i else i + 1
theorem lessG_eg {g : Gm} {w : Nat} (hw : w < g.ws.length) (i : Nat) : eg (lessG g w) i = eg g (upW w i) := by
  show (g.ws.take w ++ g.ws.drop (w + 1)).getD i (0, 0) = g.ws.getD (upW w i) (0, 0)
  unfold upW
  rw [List.getD_eq_getElem?_getD, List.getD_eq_getElem?_getD]
  by_cases h : i < w
  · rw [if_pos h, List.getElem?_append_left (by rw [List.length_take]; omega), List.getElem?_take_of_lt h]
  · rw [if_neg h, List.getElem?_append_right (by rw [List.length_take]; omega), List.getElem?_drop, List.length_take]
    congr 2
    omega
theorem range_less {m w : Nat} (hw : w < m) : (List.range (m - 1)).map (upW w) = (List.range m).erase w := by
  obtain ⟨d, hd⟩ : ∃ d, m = w + (d + 1) := ⟨m - w - 1, by omega⟩
  subst hd
  have e1 : List.range (w + (d + 1)) = List.range w ++ w :: (List.range d).map (fun i => w + (i + 1)) := by
    rw [List.range_add, List.range_succ_eq_map, List.map_cons, List.map_map]; rfl
  have e2 : List.range (w + (d + 1) - 1) = List.range w ++ (List.range d).map (fun i => w + i) := by
    rw [show w + (d + 1) - 1 = w + d by omega, List.range_add]
  rw [e1, e2, List.erase_append_right _ (fun h => by have := List.mem_range.1 h; omega), List.erase_cons_head, List.map_append, List.map_map]
  have h1 : (List.range w).map (upW w) = List.range w := by
    conv => rhs; rw [← List.map_id (List.range w)]
    refine List.map_congr_left fun i hi => ?_
    have := List.mem_range.1 hi
    unfold upW
    rw [if_pos this]; rfl
  have h2 : (List.range d).map (upW w ∘ fun i => w + i) = (List.range d).map (fun i => w + (i + 1)) := by
    refine List.map_congr_left fun i _ => ?_
    show upW w (w + i) = w + (i + 1)
    unfold upW
    rw [if_neg (by omega)]; omega
  rw [h1, h2]
end Go.Proofs.YtfphkpdobbffeaaDoor

/-
  Contracts: sorting of at most twelve wires.
-/
namespace Go.Proofs.YtfphkpdobbffeaaDoor
open Go Go.AH Go.Wire
set_option maxRecDepth 100000
set_option maxHeartbeats 1000000

/-- Wires put in order: the list reversed. -/
def insR (x : Nat × Nat) : List (Nat × Nat) → List (Nat × Nat)
  | [] => [x]
  | y :: l => if leW y x = true then x :: y :: l else y :: insR x l
def isortR (L : List (Nat × Nat)) : List (Nat × Nat) := L.foldl (fun acc x => insR x acc) []
def isort (L : List (Nat × Nat)) : List (Nat × Nat) := (isortR L).reverse
theorem insR_perm (x : Nat × Nat) : ∀ l, (insR x l).Perm (x :: l)
  | [] => List.Perm.refl _
  | y :: l => by
    rw [insR]
    split
    · exact List.Perm.refl _
    · exact ((insR_perm x l).cons y).trans (List.Perm.swap x y l)
theorem isortR_perm (L : List (Nat × Nat)) : (isortR L).Perm L := by
  have key : ∀ (L acc : List (Nat × Nat)), (L.foldl (fun acc x => insR x acc) acc).Perm (acc ++ L) := fun L => by
    induction L with
    | nil => intro acc; rw [List.append_nil]; exact List.Perm.refl _
    | cons x L ih =>
      intro acc
      refine (ih _).trans ?_
      exact ((insR_perm x acc).append_right L).trans (by rw [List.cons_append]; exact List.perm_middle.symm)
  exact key L []
theorem isort_perm (L : List (Nat × Nat)) : (isort L).Perm L := (List.reverse_perm _).trans (isortR_perm L)
theorem isort_len (L : List (Nat × Nat)) : (isort L).length = L.length := (isort_perm L).length_eq
theorem leW_total {x y : Nat × Nat} (h : leW y x = false) : leW x y = true := by
  rw [leW_iff]
  have : ¬ (y.1 < x.1 ∨ y.1 = x.1 ∧ y.2 ≤ x.2) := fun k => by rw [(leW_iff y x).2 k] at h; cases h
  omega
theorem leW_trans {x y z : Nat × Nat} (h : leW x y = true) (k : leW y z = true) : leW x z = true := by
  rw [leW_iff] at *; omega
theorem insR_sorted (x : Nat × Nat) : ∀ l, l.Pairwise (fun u v => leW v u = true) → (insR x l).Pairwise (fun u v => leW v u = true)
  | [], _ => List.pairwise_singleton _ _
  | y :: l, h => by
    have h2 := List.pairwise_cons.1 h
    rw [insR]
    split
    · rename_i c
      refine List.pairwise_cons.2 ⟨fun z hz => ?_, h⟩
      rcases List.mem_cons.1 hz with rfl | hz
      · exact c
      · exact leW_trans (h2.1 z hz) c
    · rename_i c
      refine List.pairwise_cons.2 ⟨fun z hz => ?_, insR_sorted x l h2.2⟩
      rcases List.mem_cons.1 ((insR_perm x l).mem_iff.1 hz) with rfl | hz
      · exact leW_total (by simpa using c)
      · exact h2.1 z hz
theorem isort_sorted (L : List (Nat × Nat)) : (isort L).Pairwise (fun u v => leW u v = true) := by
  have key : ∀ (L acc : List (Nat × Nat)), acc.Pairwise (fun u v => leW v u = true) → (L.foldl (fun acc x => insR x acc) acc).Pairwise (fun u v => leW v u = true) := fun L => by
    induction L with
    | nil => exact fun acc h => h
    | cons x L ih => exact fun acc h => ih _ (insR_sorted x acc h)
  exact List.pairwise_reverse.2 (key L [] List.Pairwise.nil)

/-- The game in which a wire is made short. -/
def shE (g : Gm) (w : Nat) : Nat × Nat := g.ws.getD w (0, 0)
def shortG (g : Gm) (w : Nat) : Gm := ⟨g.n - 1, plc (shE g w).1 (shE g w).2 g.s, plc (shE g w).1 (shE g w).2 g.t, isort (shW (shE g w).1 (shE g w).2 g.ws)⟩
/-- Whether a wire joins the ends. -/
def joinsE (g : Gm) (w : Nat) : Prop := min g.s g.t = (shE g w).1 ∧ max g.s g.t = (shE g w).2

def iS (L : List (Nat × Nat)) (i : Nat) : List (Nat × Nat) := (isortR (L.take i)).reverse ++ L.drop i
theorem iS_full (L : List (Nat × Nat)) {i : Nat} (h : L.length ≤ i) : iS L i = isort L := by
  rw [iS, List.take_of_length_le h, List.drop_of_length_le h, List.append_nil, isort]
theorem iS_succ (L : List (Nat × Nat)) {i : Nat} (h : i < L.length) : iS L (i + 1) = (insR L[i] (isortR (L.take i))).reverse ++ L.drop (i + 1) := by
  rw [iS, List.take_add_one, List.getElem?_eq_getElem h]
  simp only [isortR, Option.toList_some, List.foldl_append, List.foldl_cons, List.foldl_nil]
theorem iS_one (L : List (Nat × Nat)) : iS L 1 = L := by
  cases L with
  | nil => rfl
  | cons x L => simp [iS, isortR, insR]
theorem iS_at (L : List (Nat × Nat)) {i : Nat} (h : i < L.length) : iS L i = (isortR (L.take i)).reverse ++ L[i] :: ([] ++ L.drop (i + 1)) := by
  rw [iS, List.nil_append, List.drop_eq_getElem_cons h]
theorem isortR_len (L : List (Nat × Nat)) : (isortR L).length = L.length := (isortR_perm L).length_eq
theorem swap_eq (A : List (Nat × Nat)) (y x : Nat × Nat) (B : List (Nat × Nat)) : ((A ++ [y] ++ x :: B).set (A.length + 1) y).set A.length x = A ++ x :: (y :: B) := by
  rw [List.append_assoc, List.singleton_append, List.set_append_right _ _ (by omega), show A.length + 1 - A.length = 1 by omega, List.set_cons_succ, List.set_cons_zero, List.set_append_right _ _ (by omega), Nat.sub_self, List.set_cons_zero]
theorem get_x (A : List (Nat × Nat)) (y x : Nat × Nat) (B : List (Nat × Nat)) : (A ++ [y] ++ x :: B).getD (A.length + 1) (0, 0) = x ∧ (A ++ [y] ++ x :: B).getD A.length (0, 0) = y := by
  constructor
  · rw [List.getD_eq_getElem?_getD, List.getElem?_append_right (by simp)]; simp
  · rw [List.getD_eq_getElem?_getD, List.append_assoc, List.getElem?_append_right (by simp)]; simp
theorem fl_set : ∀ (V : List (Nat × Nat)) (i : Nat) (w : Nat × Nat), wrn (ints (fl V)) (i * 2) [.int .i64 (w.1 : Nat), .int .i64 (w.2 : Nat)] = ints (fl (V.set i w)) := by
  have key : ∀ (V : List (Nat × Nat)) (i : Nat) (w : Nat × Nat), ((fl V).set (i * 2) (w.1 : Nat)).set (i * 2 + 1) (w.2 : Nat) = fl (V.set i w) := fun V => by
    induction V with
    | nil => intro i w; simp [fl]
    | cons v V ih =>
      intro i w
      cases i with
      | zero => simp [fl]
      | succ i =>
        have := ih i w
        rw [show (i + 1) * 2 = i * 2 + 1 + 1 by omega]
        simp only [fl, List.flatMap_cons, List.cons_append, List.nil_append, List.set_cons_succ] at this ⊢
        rw [this]
  intro V i w
  show ((ints (fl V)).set (i * 2) (.int .i64 (w.1 : Nat))).set (i * 2 + 1) (.int .i64 (w.2 : Nat)) = _
  rw [ints_set, ints_set, key]
theorem rdn_fl (V : List (Nat × Nat)) (i : Nat) : rdn (ints (fl V)) (i * 2) [.int .i64 0, .int .i64 0] = [.int .i64 ((V.getD i (0, 0)).1 : Nat), .int .i64 ((V.getD i (0, 0)).2 : Nat)] := by
  have := wgetW V i
  rw [Nat.zero_add] at this
  exact this
/-- The order of wires, as the program says it. -/
def cmpW (x y : Nat × Nat) : Int := cmpL [(x.1 : Int), (x.2 : Int)] [(y.1 : Int), (y.2 : Int)]
theorem cmpI_or (a b : Int) : (cmpI a b = -1 ∧ a < b) ∨ (cmpI a b = 1 ∧ b < a) ∨ (cmpI a b = 0 ∧ a = b) := by
  unfold cmpI
  split
  · exact .inl ⟨rfl, by assumption⟩
  · split
    · exact .inr (.inl ⟨rfl, by assumption⟩)
    · exact .inr (.inr ⟨rfl, by omega⟩)
theorem cmpW_neg (x y : Nat × Nat) : decide (cmpW x y < 0) = !leW y x := by
  have h : cmpW x y < 0 ↔ ¬ leW y x = true := by
    rw [leW_iff]
    unfold cmpW
    rcases cmpI_or x.1 y.1 with ⟨e1, h1⟩ | ⟨e1, h1⟩ | ⟨e1, h1⟩
    · simp only [cmpL, e1]; omega
    · simp only [cmpL, e1]; omega
    · rcases cmpI_or x.2 y.2 with ⟨e2, h2⟩ | ⟨e2, h2⟩ | ⟨e2, h2⟩
      · simp [cmpL, e1, e2]; omega
      · simp [cmpL, e1, e2]; omega
      · simp [cmpL, e1, e2]; omega
  cases hl : leW y x with
  | true => exact decide_eq_false (by rw [h, hl]; simp)
  | false => exact decide_eq_true (by rw [h, hl]; simp)
theorem cmpW_spec (x y : Nat × Nat) : FDet Tryd.prog 90 [.g [.int .i64 (x.1 : Nat), .int .i64 (x.2 : Nat)], .g [.int .i64 (y.1 : Nat), .int .i64 (y.2 : Nat)]] [] 0 (.c (.int .i64 (cmpW x y))) [] 0 := by
  have h := cmpS2_spec (A := [(x.1 : Int), (x.2 : Int)]) (o := 0) (y.1 : Int) (y.2 : Int) (by simp)
  rw [win2 (by simp)] at h
  change FDet Tryd.prog _ _ _ _ (.c (.int .i64 (cmpW x y))) _ _ at h
  refine FSpec.of_body tok true Tryd.func90 rfl (by kernel_rfl) (by decide) (by simp [tupA, hpLt, tmLt, AV.lt, AE.lt, AC.lt, LL_cons, LL_nil, idOk, ABlk.lt, ints_LL, GB, tab64_LL, gC, wB]) (by simp [tupA, hpLt, tmLt, AV.lt, AE.lt, AC.lt, LL_cons, LL_nil, idOk, ABlk.lt, ints_LL, GB, tab64_LL, gC, wB]) (by show 2 ≤ _; decide) ?_
  refine Wk.on ?_
  refine Tr.draw (md := true) [⟨[], [6], [], [], []⟩, ⟨[], [5], [0], [], []⟩] tok (by kernel_rfl) (by kernel_rfl) ?_
  refine Wk.on ?_
  refine CallA.ro [0, 1] (.c (.int .i64 (cmpW x y))) (h) (by first | rfl | exact congrArg AV.g (ints_ren _ _) | (simp [ints_ren, AV.ren, ABlk.ren, AC.ren, AE.ren, qq]; done)) rfl (by (repeat (first | exact trivial | refine ⟨⟨(by first | exact .inl (by decide) | exact .inr (by decide)), (by first | (refine Or.inl ?_; first | rfl | exact congrArg some (ints_ren _ _).symm | exact congrArg ABlk.own (ints_ren _ _).symm | exact congrArg some (tab64_ren _).symm | exact congrArg (ABlk.row _ _) (ints_ren _ _).symm) | rfl | exact congrArg some (ints_ren _ _).symm | exact congrArg ABlk.own (ints_ren _ _).symm | exact congrArg some (tab64_ren _).symm | exact congrArg (ABlk.row _ _) (ints_ren _ _).symm | exact Or.inr ⟨rfl, rfl⟩)⟩, ?_⟩))) (by first | rfl | exact congrArg AV.g (ints_ren _ _) | (simp [ints_ren, AV.ren, ABlk.ren, AC.ren, AE.ren, qq]; done)) ?_
  refine Wk.on ?_
  exact AH.Fin.nil [] ⟨rfl, rfl, rfl⟩ (by first | exact trivial | (simp [tupA, hpLt, tmLt, AV.lt, AE.lt, AC.lt, LL_cons, LL_nil, idOk, ABlk.lt, ints_LL, GB, tab64_LL, gC, wB]; done) | (simp [tupA, hpLt, tmLt, AV.lt, AE.lt, AC.lt, LL_cons, LL_nil, idOk, ABlk.lt, ints_LL, GB, tab64_LL, gC, wB, rdn, wrn]; done)) trivial trivial rfl (by simp [GB])
theorem insort_spec (L : List (Nat × Nat)) (hL : L.length ≤ 1000) : FDet Tryd.prog 122 [.c (.row 0 L.length), .c (.int .i64 0), .c (.int .i64 L.length), .c (.fn 90 [] [])] [(0, .row 60 2 (ints (fl L)))] 1 (.t []) [(0, .row 60 2 (ints (fl (isort L))))] 1 := by
  refine FSpec.of_body tok true Tryd.func122 rfl (by kernel_rfl) (by decide) (by simp [tupA, hpLt, tmLt, AV.lt, AE.lt, AC.lt, LL_cons, LL_nil, idOk, ABlk.lt, ints_LL, GB, tab64_LL, gC, wB]) (by simp [tupA, hpLt, tmLt, AV.lt, AE.lt, AC.lt, LL_cons, LL_nil, idOk, ABlk.lt, ints_LL, GB, tab64_LL, gC, wB]) (by show 4 ≤ _; decide) ?_
  refine Wk.on ?_
  refine Tr.loop (md := true) (X := Nat) (st := fun i => ⟨[(0, .c (.row 0 L.length)), (1, .c (.int .i64 0)), (2, .c (.int .i64 L.length)), (3, .c (.fn 90 [] [])), (8, .c (.int .i64 i))], [(0, .row 60 2 (ints (fl (iS L i))))], 1, 53, 1⟩) (inv := fun i => 1 ≤ i ∧ i ≤ 1001) (μ := fun i => 1001 - i) (x0 := 1) (l := []) tok ⟨by omega, by omega⟩ ?_ ?_
  · exact Sub.nil ⟨rfl, rfl, (by simp [tab64_LL, gC, wB]), rfl, (by simp [tupA, hpLt, tmLt, AV.lt, AE.lt, AC.lt, LL_cons, LL_nil, idOk, ABlk.lt, ints_LL, GB, tab64_LL, gC, wB]), (by simp [tupA, hpLt, tmLt, AV.lt, AE.lt, AC.lt, LL_cons, LL_nil, idOk, ABlk.lt, ints_LL, GB, tab64_LL, gC, wB])⟩ (by (repeat (first | exact trivial | refine ⟨trivial, ?_⟩ | refine ⟨rfl, ?_⟩))) ⟨by rw [iS_one]; rfl, trivial⟩
  · rintro i ⟨h1, h2⟩
    by_cases hi : i < L.length
    · obtain ⟨P, hP⟩ : ∃ P, P = (isortR (L.take i)).reverse := ⟨_, rfl⟩
      obtain ⟨x, hx⟩ : ∃ x, x = L[i] := ⟨_, rfl⟩
      obtain ⟨S, hS⟩ : ∃ S, S = L.drop (i + 1) := ⟨_, rfl⟩
      have hat := iS_at L hi
      have hsu := iS_succ L hi
      rw [← hP, ← hx, ← hS] at hat
      rw [← hx, ← hS] at hsu
      have hPl : P.length = i := by rw [hP, List.length_reverse, isortR_len, List.length_take]; omega
      have hSl : S.length + (i + 1) = L.length := by rw [hS, List.length_drop]; omega
      have hPr : isortR (L.take i) = P.reverse := by rw [hP, List.reverse_reverse]
      rw [hPr] at hsu
      rw [hat]
      clear hP hx hS hPr hat
      refine Wk.on ?_
      rw [decide_eq_true (show ((i : Nat) : Int) < ((L.length : Nat) : Int) by omega)]
      refine Wk.on ?_
      refine Tr.loop (md := true) (X := List (Nat × Nat) × List (Nat × Nat)) (st := fun q => ⟨[(0, .c (.row 0 L.length)), (1, .c (.int .i64 0)), (2, .c (.int .i64 L.length)), (3, .c (.fn 90 [] [])), (8, .c (.int .i64 i)), (9, .c (.int .i64 q.1.length))], [(0, .row 60 2 (ints (fl (q.1 ++ x :: (q.2 ++ S)))))], 1, 53, 1⟩) (inv := fun q => q.1.length + q.2.length = i ∧ (insR x q.1.reverse).reverse ++ q.2 = (insR x P.reverse).reverse) (μ := fun q => q.1.length) (x0 := (P, [])) (l := []) tok ⟨by simp [hPl], by simp⟩ ?_ ?_
      · exact Sub.nil ⟨rfl, rfl, (by simp [tab64_LL, gC, wB]), rfl, (by simp [tupA, hpLt, tmLt, AV.lt, AE.lt, AC.lt, LL_cons, LL_nil, idOk, ABlk.lt, ints_LL, GB, tab64_LL, gC, wB]), (by simp [tupA, hpLt, tmLt, AV.lt, AE.lt, AC.lt, LL_cons, LL_nil, idOk, ABlk.lt, ints_LL, GB, tab64_LL, gC, wB])⟩ ⟨rfl, rfl, rfl, rfl, rfl, by rw [hPl]; rfl, trivial⟩ (by (repeat (first | exact trivial | refine ⟨trivial, ?_⟩ | refine ⟨rfl, ?_⟩)))
      · rintro ⟨A, B⟩ ⟨hl, hin⟩
        dsimp only at hl hin ⊢
        by_cases hA0 : A = []
        · subst hA0
          refine Wk.on ?_
          refine Tr.draw (md := true) [⟨[], [19], [], [], []⟩, ⟨[], [18], [0], [], []⟩, ⟨[0, 1], [], [], [], []⟩, ⟨[0, 1, 2], [], [], [], []⟩, ⟨[0, 1, 2, 3], [23, 24, 25, 26, 27, 28, 29, 30, 31], [], [], []⟩, ⟨[0, 1, 2, 3], [22, 24, 27, 28, 29, 30, 31], [4], [], []⟩, ⟨[0, 1, 2, 3], [22, 23, 27, 28, 29, 30, 31], [4, 5], [], []⟩, ⟨[0, 1, 2, 3, 5, 6], [22, 27, 28, 29, 30, 31], [4], [], []⟩, ⟨[0, 1, 2, 3, 5, 6, 7], [22, 27, 28, 29, 30, 31], [4], [], []⟩, ⟨[0, 1, 2, 3], [22, 23, 24, 25, 26, 28, 29], [4, 5, 6, 7, 8], [], []⟩, ⟨[0, 1, 2, 3], [22, 23, 24, 25, 26, 27], [4, 5, 6, 7, 8, 9], [], []⟩, ⟨[0, 1, 2, 3, 10], [22, 23, 24, 25, 26, 27], [4, 5, 6, 7, 8, 9], [], []⟩, ⟨[0, 1, 2, 3, 9, 10, 11], [22, 23, 24, 25, 26], [4, 5, 6, 7, 8], [], []⟩, ⟨[0, 1, 2, 3, 9, 10, 11, 12], [22, 23, 24, 25, 26], [4, 5, 6, 7, 8], [], []⟩] tok (by kernel_rfl) (by kernel_rfl) ?_
          refine Wk.on ?_
          refine Again.mk (i + 1) (Sub.nil ⟨rfl, rfl, (by simp [tab64_LL, gC, wB]), rfl, (by simp [tupA, hpLt, tmLt, AV.lt, AE.lt, AC.lt, LL_cons, LL_nil, idOk, ABlk.lt, ints_LL, GB, tab64_LL, gC, wB]), (by simp [tupA, hpLt, tmLt, AV.lt, AE.lt, AC.lt, LL_cons, LL_nil, idOk, ABlk.lt, ints_LL, GB, tab64_LL, gC, wB])⟩ (by (repeat (first | exact trivial | refine ⟨trivial, ?_⟩ | refine ⟨rfl, ?_⟩))) ⟨by show ABlk.row 60 2 (ints (fl _)) = ABlk.row 60 2 (ints (fl _)); rw [hsu, ← hin]; simp [insR], trivial⟩) (⟨by omega, by omega⟩) (by omega)
        · obtain ⟨A', y, rfl⟩ : ∃ A' y, A = A' ++ [y] := ⟨A.dropLast, A.getLast hA0, (List.dropLast_concat_getLast hA0).symm⟩
          rw [List.length_append, List.length_singleton] at hl
          have hlen : (ints (fl (A' ++ [y] ++ x :: (B ++ S)))).length = L.length * 2 := by rw [ints_len, fl_len]; simp; omega
          obtain ⟨g1, g2⟩ := get_x A' y x (B ++ S)
          have hsw := swap_eq A' y x (B ++ S)
          have e1 : (A' ++ [y]).length = A'.length + 1 := by simp
          have hr1 : (A' ++ [y]).reverse = y :: A'.reverse := by simp
          have k1 : (((A'.length + 1 : Nat) : Int)).toNat = A'.length + 1 := Int.toNat_natCast _
          have k2 : (((A'.length + 1 : Nat) : Int) - 1).toNat = A'.length := by omega
          rw [hr1] at hin
          rw [e1]
          generalize hj : A'.length = j at *
          generalize hV : A' ++ [y] ++ x :: (B ++ S) = V at *
          have r1 := rdn_fl V (j + 1)
          have r2 := rdn_fl V j
          rw [g1] at r1
          rw [g2] at r2
          have hb1 : (0 : Int) ≤ ((j + 1 : Nat) : Int) ∧ ((j + 1 : Nat) : Int) < ((L.length : Nat) : Int) := by omega
          have hb2 : (0 : Int) ≤ ((j + 1 : Nat) : Int) - 1 ∧ ((j + 1 : Nat) : Int) - 1 < ((L.length : Nat) : Int) := by omega
          refine Wk.on ?_
          refine Tr.draw (md := true) [⟨[], [19], [], [], []⟩, ⟨[], [18], [0], [], []⟩, ⟨[0, 1], [], [], [], []⟩, ⟨[0, 1, 2], [], [], [], []⟩, ⟨[0, 1, 2, 3], [23, 24, 25, 26, 27, 28, 29, 30, 31], [], [], []⟩, ⟨[0, 1, 2, 3], [22, 24, 27, 28, 29, 30, 31], [4], [], []⟩, ⟨[0, 1, 2, 3], [22, 23, 27, 28, 29, 30, 31], [4, 5], [], []⟩, ⟨[0, 1, 2, 3, 5, 6], [22, 27, 28, 29, 30, 31], [4], [], []⟩, ⟨[0, 1, 2, 3, 5, 6, 7], [22, 27, 28, 29, 30, 31], [4], [], []⟩, ⟨[0, 1, 2, 3], [22, 23, 24, 25, 26, 28, 29], [4, 5, 6, 7, 8], [], []⟩, ⟨[0, 1, 2, 3], [22, 23, 24, 25, 26, 27], [4, 5, 6, 7, 8, 9], [], []⟩, ⟨[0, 1, 2, 3, 10], [22, 23, 24, 25, 26, 27], [4, 5, 6, 7, 8, 9], [], []⟩, ⟨[0, 1, 2, 3, 9, 10, 11], [22, 23, 24, 25, 26], [4, 5, 6, 7, 8], [], []⟩, ⟨[0, 1, 2, 3, 9, 10, 11, 12], [22, 23, 24, 25, 26], [4, 5, 6, 7, 8], [], []⟩] tok (by kernel_rfl) (by kernel_rfl) ?_
          refine Wk.on ?_
          rw [decide_eq_true (show (0 : Int) < ((j + 1 : Nat) : Int) by omega)]
          refine Wk.on ?_
          refine ⟨⟨by rw [k1, hlen]; show (j + 1) * 2 + 2 ≤ _; omega, rfl⟩, ?_⟩
          rw [k1]
          refine Wk.on ?_
          refine ⟨⟨by rw [k2, hlen]; show j * 2 + 2 ≤ _; omega, rfl⟩, ?_⟩
          rw [k2]
          refine Wk.on ?_
          rw [show rdn (ints (fl V)) ((j + 1) * 2) [.int .i64 0, .int .i64 0] = _ from r1, show rdn (ints (fl V)) (j * 2) [.int .i64 0, .int .i64 0] = _ from r2]
          refine CallA.ro [] (.c (.int .i64 (cmpW x y))) (cmpW_spec x y) (by first | rfl | exact congrArg AV.g (ints_ren _ _) | (simp [ints_ren, AV.ren, ABlk.ren, AC.ren, AE.ren, qq]; done)) rfl (by (repeat (first | exact trivial | refine ⟨⟨(by first | exact .inl (by decide) | exact .inr (by decide)), (by first | (refine Or.inl ?_; first | rfl | exact congrArg some (ints_ren _ _).symm | exact congrArg ABlk.own (ints_ren _ _).symm | exact congrArg some (tab64_ren _).symm | exact congrArg (ABlk.row _ _) (ints_ren _ _).symm) | rfl | exact congrArg some (ints_ren _ _).symm | exact congrArg ABlk.own (ints_ren _ _).symm | exact congrArg some (tab64_ren _).symm | exact congrArg (ABlk.row _ _) (ints_ren _ _).symm | exact Or.inr ⟨rfl, rfl⟩)⟩, ?_⟩))) (by first | rfl | exact congrArg AV.g (ints_ren _ _) | (simp [ints_ren, AV.ren, ABlk.ren, AC.ren, AE.ren, qq]; done)) ?_
          refine Wk.on ?_
          rw [cmpW_neg]
          cases hlt : leW y x with
          | false =>
            refine Wk.on ?_
            refine Tr.draw (md := true) [⟨[], [38, 39, 40, 41, 42, 43, 44, 45, 46, 47, 48, 49, 50], [], [], []⟩, ⟨[], [37, 39, 40, 41, 42, 43, 44, 45, 46, 47, 48, 49, 50], [0], [], []⟩, ⟨[], [37, 38, 40, 41, 42, 43, 44, 45, 46, 47, 48, 49, 50, 51], [0, 1], [], [0]⟩, ⟨[], [37, 38, 39, 42, 43, 44, 45, 46, 47, 48, 49, 50, 51], [0, 1, 2], [], [0]⟩, ⟨[3], [37, 38, 39, 42, 43, 44, 45, 46, 47, 48, 49, 50, 51], [0, 1, 2], [], [0]⟩, ⟨[], [37, 38, 39, 40, 41, 43, 44, 47, 48, 49, 50], [0, 1, 2, 3, 4], [], []⟩, ⟨[], [37, 38, 39, 40, 41, 42, 47, 48, 49, 50], [0, 1, 2, 3, 4, 5], [], []⟩, ⟨[6], [37, 38, 39, 40, 41, 42, 47, 48, 49, 50], [0, 1, 2, 3, 4, 5], [], []⟩, ⟨[5, 6, 7], [37, 38, 39, 40, 41, 47, 48, 49, 50], [0, 1, 2, 3, 4], [], []⟩, ⟨[5, 6, 7, 8], [37, 38, 39, 40, 41, 47, 48, 49, 50], [0, 1, 2, 3, 4], [], []⟩, ⟨[], [37, 38, 39, 40, 41, 42, 43, 44, 45, 46, 48], [0, 1, 2, 3, 4, 5, 6, 7, 8, 9], [], []⟩, ⟨[], [37, 38, 39, 40, 41, 42, 43, 44, 45, 46, 47], [0, 1, 2, 3, 4, 5, 6, 7, 8, 9, 10], [], []⟩, ⟨[10, 11], [37, 38, 39, 40, 41, 42, 43, 44, 45, 46], [0, 1, 2, 3, 4, 5, 6, 7, 8, 9], [], []⟩, ⟨[10, 11, 12], [37, 38, 39, 40, 41, 42, 43, 44, 45, 46], [0, 1, 2, 3, 4, 5, 6, 7, 8, 9], [], []⟩, ⟨[0, 1, 5, 6, 7, 8, 9, 10, 11, 12, 13], [39, 40, 41], [2, 3, 4], [], []⟩, ⟨[0, 1, 5, 6, 7, 8, 9, 10, 11, 12, 13, 14], [39, 40, 41], [2, 3, 4], [0], []⟩] tok (by kernel_rfl) (by kernel_rfl) ?_
            refine Wk.on ?_
            refine ⟨⟨by rw [k2, hlen]; show j * 2 + 2 ≤ _; omega, rfl⟩, ?_⟩
            rw [k2]
            refine Wk.on ?_
            refine ⟨⟨by rw [k1, hlen]; show (j + 1) * 2 + 2 ≤ _; omega, rfl⟩, ?_⟩
            rw [k1]
            refine Wk.on ?_
            rw [show rdn (ints (fl V)) ((j + 1) * 2) [.int .i64 0, .int .i64 0] = _ from r1, show rdn (ints (fl V)) (j * 2) [.int .i64 0, .int .i64 0] = _ from r2]
            refine Wk.on ?_
            refine ⟨⟨rfl, by rw [k1, hlen]; show (j + 1) * 2 + 2 ≤ _; omega⟩, ?_⟩
            rw [k1]
            refine Wk.on ?_
            rw [fl_set]
            refine ⟨⟨rfl, by rw [k2, ints_len, fl_len, List.length_set]; rw [ints_len, fl_len] at hlen; show j * 2 + 2 ≤ _; omega⟩, ?_⟩
            rw [k2]
            refine Wk.on ?_
            refine Again.mk (A', y :: B) (Sub.nil ⟨rfl, rfl, (by simp [tab64_LL, gC, wB]), rfl, (by simp [tupA, hpLt, tmLt, AV.lt, AE.lt, AC.lt, LL_cons, LL_nil, idOk, ABlk.lt, ints_LL, GB, tab64_LL, gC, wB]), (by simp [tupA, hpLt, tmLt, AV.lt, AE.lt, AC.lt, LL_cons, LL_nil, idOk, ABlk.lt, ints_LL, GB, tab64_LL, gC, wB])⟩ ⟨rfl, rfl, rfl, rfl, rfl, by show AV.c (.int .i64 _) = AV.c (.int .i64 _); rw [hj]; congr 2; omega, trivial⟩ ⟨by show ABlk.row 60 2 (wrn _ _ [.int .i64 (x.1 : Nat), .int .i64 (x.2 : Nat)]) = ABlk.row 60 2 (ints (fl _)); rw [fl_set, hsw]; rfl, trivial⟩) ⟨by show A'.length + (y :: B).length = i; rw [hj, List.length_cons]; omega, by rw [← hin, insR, hlt]; simp⟩ (by show A'.length < j + 1; omega)
          | true =>
            refine Wk.on ?_
            refine Again.mk (i + 1) (Sub.nil ⟨rfl, rfl, (by simp [tab64_LL, gC, wB]), rfl, (by simp [tupA, hpLt, tmLt, AV.lt, AE.lt, AC.lt, LL_cons, LL_nil, idOk, ABlk.lt, ints_LL, GB, tab64_LL, gC, wB]), (by simp [tupA, hpLt, tmLt, AV.lt, AE.lt, AC.lt, LL_cons, LL_nil, idOk, ABlk.lt, ints_LL, GB, tab64_LL, gC, wB])⟩ (by (repeat (first | exact trivial | refine ⟨trivial, ?_⟩ | refine ⟨rfl, ?_⟩))) ⟨by show ABlk.row 60 2 (ints (fl _)) = ABlk.row 60 2 (ints (fl _)); rw [hsu, ← hin, insR, hlt]; simp [← hV], trivial⟩) (⟨by omega, by omega⟩) (by omega)
    · refine Wk.on ?_
      rw [decide_eq_false (show ¬ ((i : Nat) : Int) < ((L.length : Nat) : Int) by omega)]
      refine Wk.on ?_
      exact Fin.nil [(0, .row 60 2 (ints (fl (isort L))))] ⟨rfl, rfl, rfl⟩ (by simp [tupA, AV.lt]) ⟨by show ABlk.row 60 2 (ints (fl _)) = ABlk.row 60 2 (ints (fl _)); rw [iS_full L (by omega)], trivial⟩ (by simp [tupA, hpLt, tmLt, AV.lt, AE.lt, AC.lt, LL_cons, LL_nil, idOk, ABlk.lt, ints_LL, GB, tab64_LL, gC, wB]) rfl (by simp [GB])
def lenN (n : Nat) : Nat := if n = 0 then 0 else n.log2 + 1
theorem wrap8 {n : Nat} (h : n < 256) : IntKind.u8.wrap (n : Int) = n := AH.wrap_small _ _ (by omega) (by show (n : Int) < 2 ^ 8; omega) (by intro h; cases h)
theorem len64_spec {n : Nat} (h : n < 256) : FDet Tryd.prog 131 [.c (.int .u64 n)] [] 0 (.c (.int .i64 (lenN n))) [] 0 := by
  refine FSpec.of_body tok true Tryd.func131 rfl (by kernel_rfl) (by decide) (by simp [tupA, hpLt, tmLt, AV.lt, AE.lt, AC.lt, LL_cons, LL_nil, idOk, ABlk.lt, ints_LL, GB, tab64_LL, gC, wB]) (by simp [tupA, hpLt, tmLt, AV.lt, AE.lt, AC.lt, LL_cons, LL_nil, idOk, ABlk.lt, ints_LL, GB, tab64_LL, gC, wB]) (by show 1 ≤ _; decide) ?_
  refine Wk.on ?_
  rw [decide_eq_false (show ¬ (4294967296 : Int) ≤ (n : Int) by omega)]
  refine Wk.on ?_
  rw [decide_eq_false (show ¬ (65536 : Int) ≤ (n : Int) by omega)]
  refine Wk.on ?_
  rw [decide_eq_false (show ¬ (256 : Int) ≤ (n : Int) by omega)]
  refine Wk.on ?_
  rw [wrap8 h]
  generalize hX : ByteArray.mk _ = X
  have hsz : X.size = 256 := by rw [← hX]; kernel_rfl
  have key : ∀ m : Nat, m < 256 → IntKind.i64.wrap (((X.data.toList.getD m 0).toNat : Nat) : Int) = lenN m := by rw [← hX]; decide +kernel
  clear hX
  refine ⟨⟨by omega, by omega⟩, ?_⟩
  rw [Int.toNat_natCast]
  refine Wk.on ?_
  rw [key n h]
  have hl2 : lenN n ≤ 8 := by
    unfold lenN
    split
    · omega
    · have := (Nat.log2_lt (n := n) (k := 8) (by omega)).2 (by omega); omega
  refine Wk.on ?_
  exact AH.Fin.nil [] ⟨by show AV.c (.int .i64 (0 + (lenN n : Nat))) = _; rw [Int.zero_add], rfl, rfl⟩ (by first | exact trivial | (simp [tupA, hpLt, tmLt, AV.lt, AE.lt, AC.lt, LL_cons, LL_nil, idOk, ABlk.lt, ints_LL, GB, tab64_LL, gC, wB]; done) | (simp [tupA, hpLt, tmLt, AV.lt, AE.lt, AC.lt, LL_cons, LL_nil, idOk, ABlk.lt, ints_LL, GB, tab64_LL, gC, wB, rdn, wrn]; done)) trivial trivial rfl (by simp [GB])
theorem len_spec {n : Nat} (h : n < 256) : FDet Tryd.prog 112 [.c (.int .u64 n)] [] 0 (.c (.int .i64 (lenN n))) [] 0 := by
  refine FSpec.of_body tok true Tryd.func112 rfl (by kernel_rfl) (by decide) (by simp [tupA, hpLt, tmLt, AV.lt, AE.lt, AC.lt, LL_cons, LL_nil, idOk, ABlk.lt, ints_LL, GB, tab64_LL, gC, wB]) (by simp [tupA, hpLt, tmLt, AV.lt, AE.lt, AC.lt, LL_cons, LL_nil, idOk, ABlk.lt, ints_LL, GB, tab64_LL, gC, wB]) (by show 1 ≤ _; decide) ?_
  refine Wk.on ?_
  refine CallA.ro [] (.c (.int .i64 (lenN n))) (len64_spec h) (by first | rfl | exact congrArg AV.g (ints_ren _ _) | (simp [ints_ren, AV.ren, ABlk.ren, AC.ren, AE.ren, qq]; done)) rfl (by (repeat (first | exact trivial | refine ⟨⟨(by first | exact .inl (by decide) | exact .inr (by decide)), (by first | (refine Or.inl ?_; first | rfl | exact congrArg some (ints_ren _ _).symm | exact congrArg ABlk.own (ints_ren _ _).symm | exact congrArg some (tab64_ren _).symm | exact congrArg (ABlk.row _ _) (ints_ren _ _).symm) | rfl | exact congrArg some (ints_ren _ _).symm | exact congrArg ABlk.own (ints_ren _ _).symm | exact congrArg some (tab64_ren _).symm | exact congrArg (ABlk.row _ _) (ints_ren _ _).symm | exact Or.inr ⟨rfl, rfl⟩)⟩, ?_⟩))) (by first | rfl | exact congrArg AV.g (ints_ren _ _) | (simp [ints_ren, AV.ren, ABlk.ren, AC.ren, AE.ren, qq]; done)) ?_
  refine Wk.on ?_
  exact AH.Fin.nil [] ⟨rfl, rfl, rfl⟩ (by first | exact trivial | (simp [tupA, hpLt, tmLt, AV.lt, AE.lt, AC.lt, LL_cons, LL_nil, idOk, ABlk.lt, ints_LL, GB, tab64_LL, gC, wB]; done) | (simp [tupA, hpLt, tmLt, AV.lt, AE.lt, AC.lt, LL_cons, LL_nil, idOk, ABlk.lt, ints_LL, GB, tab64_LL, gC, wB, rdn, wrn]; done)) trivial trivial rfl (by simp [GB])
theorem pdq_spec (L : List (Nat × Nat)) (hL : L.length ≤ 12) (m : Nat) : FDet Tryd.prog 111 [.c (.row 0 L.length), .c (.int .i64 0), .c (.int .i64 L.length), .c (.int .i64 m), .c (.fn 90 [] [])] [(0, .row 60 2 (ints (fl L)))] 1 (.t []) [(0, .row 60 2 (ints (fl (isort L))))] 1 := by
  refine FSpec.of_body tok true Tryd.func111 rfl (by kernel_rfl) (by decide) (by simp [tupA, hpLt, tmLt, AV.lt, AE.lt, AC.lt, LL_cons, LL_nil, idOk, ABlk.lt, ints_LL, GB, tab64_LL, gC, wB]) (by simp [tupA, hpLt, tmLt, AV.lt, AE.lt, AC.lt, LL_cons, LL_nil, idOk, ABlk.lt, ints_LL, GB, tab64_LL, gC, wB]) (by show 5 ≤ _; decide) ?_
  refine Wk.on ?_
  refine Tr.loop (md := true) (X := Unit) (st := fun _ => ⟨[(0, .c (.row 0 L.length)), (1, .c (.int .i64 0)), (2, .c (.int .i64 L.length)), (4, .c (.fn 90 [] []))], [(0, .row 60 2 (ints (fl L)))], 1, 148, 1⟩) (inv := fun _ => True) (μ := fun _ => 0) (x0 := ()) (l := []) tok trivial ?_ ?_
  · exact Sub.nil ⟨rfl, rfl, (by simp [tab64_LL, gC, wB]), rfl, (by simp [tupA, hpLt, tmLt, AV.lt, AE.lt, AC.lt, LL_cons, LL_nil, idOk, ABlk.lt, ints_LL, GB, tab64_LL, gC, wB]), (by simp [tupA, hpLt, tmLt, AV.lt, AE.lt, AC.lt, LL_cons, LL_nil, idOk, ABlk.lt, ints_LL, GB, tab64_LL, gC, wB])⟩ (by (repeat (first | exact trivial | refine ⟨trivial, ?_⟩ | refine ⟨rfl, ?_⟩))) (by (repeat (first | exact trivial | refine ⟨trivial, ?_⟩ | refine ⟨rfl, ?_⟩)))
  · intro _ _
    refine Wk.on ?_
    rw [decide_eq_true (show ((L.length : Nat) : Int) - 0 ≤ 12 by omega)]
    refine Wk.on ?_
    refine CallA.det [0] (.t []) ([(0, .row 60 2 (ints (fl (isort L))))]) (insort_spec L (by omega)) (by first | rfl | exact congrArg AV.g (ints_ren _ _) | (simp [ints_ren, AV.ren, ABlk.ren, AC.ren, AE.ren, qq]; done)) rfl (by (repeat (first | exact trivial | refine ⟨⟨(by first | exact .inl (by decide) | exact .inr (by decide)), (by first | (refine Or.inl ?_; first | rfl | exact congrArg some (ints_ren _ _).symm | exact congrArg ABlk.own (ints_ren _ _).symm | exact congrArg some (tab64_ren _).symm | exact congrArg (ABlk.row _ _) (ints_ren _ _).symm) | rfl | exact congrArg some (ints_ren _ _).symm | exact congrArg ABlk.own (ints_ren _ _).symm | exact congrArg some (tab64_ren _).symm | exact congrArg (ABlk.row _ _) (ints_ren _ _).symm | exact Or.inr ⟨rfl, rfl⟩)⟩, ?_⟩))) (by first | rfl | exact congrArg AV.g (ints_ren _ _) | (simp [ints_ren, AV.ren, ABlk.ren, AC.ren, AE.ren, qq]; done)) (by first | rfl | (simp [behind, gone, lk, up, del, qq, ABlk.wr, GB, ints_ren, AV.ren, ABlk.ren, AC.ren, AE.ren]; done) | (simp [behind, gone, lk, up, del, qq, ABlk.wr, GB, ints_ren, AV.ren, ABlk.ren, AC.ren, AE.ren]; rfl)) ?_
    refine Wk.on ?_
    exact Fin.nil [(0, .row 60 2 (ints (fl (isort L))))] ⟨rfl, rfl, rfl⟩ (by simp [tupA, AV.lt]) ⟨rfl, trivial⟩ (by simp [tupA, hpLt, tmLt, AV.lt, AE.lt, AC.lt, LL_cons, LL_nil, idOk, ABlk.lt, ints_LL, GB, tab64_LL, gC, wB]) rfl (by simp [GB])
theorem sortW_spec (L : List (Nat × Nat)) (hL : L.length ≤ 12) : FDet Tryd.prog 89 [.c (.row 0 L.length), .c (.fn 90 [] [])] [(0, .row 60 2 (ints (fl L)))] 1 (.t []) [(0, .row 60 2 (ints (fl (isort L))))] 1 := by
  have hw : IntKind.u64.wrap (L.length : Int) = L.length := wrapU (by omega)
  refine FSpec.of_body tok true Tryd.func89 rfl (by kernel_rfl) (by decide) (by simp [tupA, hpLt, tmLt, AV.lt, AE.lt, AC.lt, LL_cons, LL_nil, idOk, ABlk.lt, ints_LL, GB, tab64_LL, gC, wB]) (by simp [tupA, hpLt, tmLt, AV.lt, AE.lt, AC.lt, LL_cons, LL_nil, idOk, ABlk.lt, ints_LL, GB, tab64_LL, gC, wB]) (by show 2 ≤ _; decide) ?_
  refine Wk.on ?_
  rw [hw]
  refine CallA.ro [] (.c (.int .i64 (lenN L.length))) (len_spec (n := L.length) (by omega)) (by first | rfl | exact congrArg AV.g (ints_ren _ _) | (simp [ints_ren, AV.ren, ABlk.ren, AC.ren, AE.ren, qq]; done)) rfl (by (repeat (first | exact trivial | refine ⟨⟨(by first | exact .inl (by decide) | exact .inr (by decide)), (by first | (refine Or.inl ?_; first | rfl | exact congrArg some (ints_ren _ _).symm | exact congrArg ABlk.own (ints_ren _ _).symm | exact congrArg some (tab64_ren _).symm | exact congrArg (ABlk.row _ _) (ints_ren _ _).symm) | rfl | exact congrArg some (ints_ren _ _).symm | exact congrArg ABlk.own (ints_ren _ _).symm | exact congrArg some (tab64_ren _).symm | exact congrArg (ABlk.row _ _) (ints_ren _ _).symm | exact Or.inr ⟨rfl, rfl⟩)⟩, ?_⟩))) (by first | rfl | exact congrArg AV.g (ints_ren _ _) | (simp [ints_ren, AV.ren, ABlk.ren, AC.ren, AE.ren, qq]; done)) ?_
  refine Wk.on ?_
  refine CallA.det [0] (.t []) ([(0, .row 60 2 (ints (fl (isort L))))]) (pdq_spec L hL (lenN L.length)) (by first | rfl | exact congrArg AV.g (ints_ren _ _) | (simp [ints_ren, AV.ren, ABlk.ren, AC.ren, AE.ren, qq]; done)) rfl (by (repeat (first | exact trivial | refine ⟨⟨(by first | exact .inl (by decide) | exact .inr (by decide)), (by first | (refine Or.inl ?_; first | rfl | exact congrArg some (ints_ren _ _).symm | exact congrArg ABlk.own (ints_ren _ _).symm | exact congrArg some (tab64_ren _).symm | exact congrArg (ABlk.row _ _) (ints_ren _ _).symm) | rfl | exact congrArg some (ints_ren _ _).symm | exact congrArg ABlk.own (ints_ren _ _).symm | exact congrArg some (tab64_ren _).symm | exact congrArg (ABlk.row _ _) (ints_ren _ _).symm | exact Or.inr ⟨rfl, rfl⟩)⟩, ?_⟩))) (by first | rfl | exact congrArg AV.g (ints_ren _ _) | (simp [ints_ren, AV.ren, ABlk.ren, AC.ren, AE.ren, qq]; done)) (by first | rfl | (simp [behind, gone, lk, up, del, qq, ABlk.wr, GB, ints_ren, AV.ren, ABlk.ren, AC.ren, AE.ren]; done) | (simp [behind, gone, lk, up, del, qq, ABlk.wr, GB, ints_ren, AV.ren, ABlk.ren, AC.ren, AE.ren]; rfl)) ?_
  refine Wk.on ?_
  exact Fin.nil [(0, .row 60 2 (ints (fl (isort L))))] ⟨rfl, rfl, rfl⟩ (by simp [tupA, AV.lt]) ⟨rfl, trivial⟩ (by simp [tupA, hpLt, tmLt, AV.lt, AE.lt, AC.lt, LL_cons, LL_nil, idOk, ABlk.lt, ints_LL, GB, tab64_LL, gC, wB]) rfl (by simp [GB])
theorem insort_nil : FDet Tryd.prog 122 [.c .nils, .c (.int .i64 0), .c (.int .i64 0), .c (.fn 90 [] [])] [] 0 (.t []) [] 0 := by
  refine FSpec.of_body tok true Tryd.func122 rfl (by kernel_rfl) (by decide) (by simp [tupA, hpLt, tmLt, AV.lt, AE.lt, AC.lt, LL_cons, LL_nil, idOk, ABlk.lt, ints_LL, GB, tab64_LL, gC, wB]) (by simp [tupA, hpLt, tmLt, AV.lt, AE.lt, AC.lt, LL_cons, LL_nil, idOk, ABlk.lt, ints_LL, GB, tab64_LL, gC, wB]) (by show 4 ≤ _; decide) ?_
  refine Wk.on ?_
  refine Tr.loop (md := true) (X := Unit) (st := fun _ => ⟨[(0, .c .nils), (1, .c (.int .i64 0)), (2, .c (.int .i64 0)), (8, .c (.int .i64 1))], [], 0, 53, 0⟩) (inv := fun _ => True) (μ := fun _ => 0) (x0 := ()) (l := []) tok trivial ?_ ?_
  · exact Sub.nil ⟨rfl, rfl, (by simp [tab64_LL, gC, wB]), rfl, (by simp [tupA, hpLt, tmLt, AV.lt, AE.lt, AC.lt, LL_cons, LL_nil, idOk, ABlk.lt, ints_LL, GB, tab64_LL, gC, wB]), (by simp [tupA, hpLt, tmLt, AV.lt, AE.lt, AC.lt, LL_cons, LL_nil, idOk, ABlk.lt, ints_LL, GB, tab64_LL, gC, wB])⟩ (by (repeat (first | exact trivial | refine ⟨trivial, ?_⟩ | refine ⟨rfl, ?_⟩))) (by (repeat (first | exact trivial | refine ⟨trivial, ?_⟩ | refine ⟨rfl, ?_⟩)))
  · intro _ _
    refine Wk.on ?_
    exact AH.Fin.nil [] ⟨rfl, rfl, rfl⟩ (by first | exact trivial | (simp [tupA, hpLt, tmLt, AV.lt, AE.lt, AC.lt, LL_cons, LL_nil, idOk, ABlk.lt, ints_LL, GB, tab64_LL, gC, wB]; done) | (simp [tupA, hpLt, tmLt, AV.lt, AE.lt, AC.lt, LL_cons, LL_nil, idOk, ABlk.lt, ints_LL, GB, tab64_LL, gC, wB, rdn, wrn]; done)) trivial trivial rfl (by simp [GB])
theorem pdq_nil : FDet Tryd.prog 111 [.c .nils, .c (.int .i64 0), .c (.int .i64 0), .c (.int .i64 0), .c (.fn 90 [] [])] [] 0 (.t []) [] 0 := by
  refine FSpec.of_body tok true Tryd.func111 rfl (by kernel_rfl) (by decide) (by simp [tupA, hpLt, tmLt, AV.lt, AE.lt, AC.lt, LL_cons, LL_nil, idOk, ABlk.lt, ints_LL, GB, tab64_LL, gC, wB]) (by simp [tupA, hpLt, tmLt, AV.lt, AE.lt, AC.lt, LL_cons, LL_nil, idOk, ABlk.lt, ints_LL, GB, tab64_LL, gC, wB]) (by show 5 ≤ _; decide) ?_
  refine Wk.on ?_
  refine Tr.loop (md := true) (X := Unit) (st := fun _ => ⟨[(0, .c .nils), (1, .c (.int .i64 0)), (2, .c (.int .i64 0)), (4, .c (.fn 90 [] []))], [], 0, 148, 0⟩) (inv := fun _ => True) (μ := fun _ => 0) (x0 := ()) (l := []) tok trivial ?_ ?_
  · exact Sub.nil ⟨rfl, rfl, (by simp [tab64_LL, gC, wB]), rfl, (by simp [tupA, hpLt, tmLt, AV.lt, AE.lt, AC.lt, LL_cons, LL_nil, idOk, ABlk.lt, ints_LL, GB, tab64_LL, gC, wB]), (by simp [tupA, hpLt, tmLt, AV.lt, AE.lt, AC.lt, LL_cons, LL_nil, idOk, ABlk.lt, ints_LL, GB, tab64_LL, gC, wB])⟩ (by (repeat (first | exact trivial | refine ⟨trivial, ?_⟩ | refine ⟨rfl, ?_⟩))) (by (repeat (first | exact trivial | refine ⟨trivial, ?_⟩ | refine ⟨rfl, ?_⟩)))
  · intro _ _
    refine Wk.on ?_
    refine CallA.ro [] (.t []) (insort_nil) (by first | rfl | exact congrArg AV.g (ints_ren _ _) | (simp [ints_ren, AV.ren, ABlk.ren, AC.ren, AE.ren, qq]; done)) rfl (by (repeat (first | exact trivial | refine ⟨⟨(by first | exact .inl (by decide) | exact .inr (by decide)), (by first | (refine Or.inl ?_; first | rfl | exact congrArg some (ints_ren _ _).symm | exact congrArg ABlk.own (ints_ren _ _).symm | exact congrArg some (tab64_ren _).symm | exact congrArg (ABlk.row _ _) (ints_ren _ _).symm) | rfl | exact congrArg some (ints_ren _ _).symm | exact congrArg ABlk.own (ints_ren _ _).symm | exact congrArg some (tab64_ren _).symm | exact congrArg (ABlk.row _ _) (ints_ren _ _).symm | exact Or.inr ⟨rfl, rfl⟩)⟩, ?_⟩))) (by first | rfl | exact congrArg AV.g (ints_ren _ _) | (simp [ints_ren, AV.ren, ABlk.ren, AC.ren, AE.ren, qq]; done)) ?_
    refine Wk.on ?_
    exact AH.Fin.nil [] ⟨rfl, rfl, rfl⟩ (by first | exact trivial | (simp [tupA, hpLt, tmLt, AV.lt, AE.lt, AC.lt, LL_cons, LL_nil, idOk, ABlk.lt, ints_LL, GB, tab64_LL, gC, wB]; done) | (simp [tupA, hpLt, tmLt, AV.lt, AE.lt, AC.lt, LL_cons, LL_nil, idOk, ABlk.lt, ints_LL, GB, tab64_LL, gC, wB, rdn, wrn]; done)) trivial trivial rfl (by simp [GB])
theorem sortW_nil : FDet Tryd.prog 89 [.c .nils, .c (.fn 90 [] [])] [] 0 (.t []) [] 0 := by
  refine FSpec.of_body tok true Tryd.func89 rfl (by kernel_rfl) (by decide) (by simp [tupA, hpLt, tmLt, AV.lt, AE.lt, AC.lt, LL_cons, LL_nil, idOk, ABlk.lt, ints_LL, GB, tab64_LL, gC, wB]) (by simp [tupA, hpLt, tmLt, AV.lt, AE.lt, AC.lt, LL_cons, LL_nil, idOk, ABlk.lt, ints_LL, GB, tab64_LL, gC, wB]) (by show 2 ≤ _; decide) ?_
  refine Wk.on ?_
  refine CallA.ro [] (.c (.int .i64 (lenN 0))) (len_spec (n := 0) (by omega)) (by first | rfl | exact congrArg AV.g (ints_ren _ _) | (simp [ints_ren, AV.ren, ABlk.ren, AC.ren, AE.ren, qq]; done)) rfl (by (repeat (first | exact trivial | refine ⟨⟨(by first | exact .inl (by decide) | exact .inr (by decide)), (by first | (refine Or.inl ?_; first | rfl | exact congrArg some (ints_ren _ _).symm | exact congrArg ABlk.own (ints_ren _ _).symm | exact congrArg some (tab64_ren _).symm | exact congrArg (ABlk.row _ _) (ints_ren _ _).symm) | rfl | exact congrArg some (ints_ren _ _).symm | exact congrArg ABlk.own (ints_ren _ _).symm | exact congrArg some (tab64_ren _).symm | exact congrArg (ABlk.row _ _) (ints_ren _ _).symm | exact Or.inr ⟨rfl, rfl⟩)⟩, ?_⟩))) (by first | rfl | exact congrArg AV.g (ints_ren _ _) | (simp [ints_ren, AV.ren, ABlk.ren, AC.ren, AE.ren, qq]; done)) ?_
  refine Wk.on ?_
  refine CallA.ro [] (.t []) (pdq_nil) (by first | rfl | exact congrArg AV.g (ints_ren _ _) | (simp [ints_ren, AV.ren, ABlk.ren, AC.ren, AE.ren, qq]; done)) rfl (by (repeat (first | exact trivial | refine ⟨⟨(by first | exact .inl (by decide) | exact .inr (by decide)), (by first | (refine Or.inl ?_; first | rfl | exact congrArg some (ints_ren _ _).symm | exact congrArg ABlk.own (ints_ren _ _).symm | exact congrArg some (tab64_ren _).symm | exact congrArg (ABlk.row _ _) (ints_ren _ _).symm) | rfl | exact congrArg some (ints_ren _ _).symm | exact congrArg ABlk.own (ints_ren _ _).symm | exact congrArg some (tab64_ren _).symm | exact congrArg (ABlk.row _ _) (ints_ren _ _).symm | exact Or.inr ⟨rfl, rfl⟩)⟩, ?_⟩))) (by first | rfl | exact congrArg AV.g (ints_ren _ _) | (simp [ints_ren, AV.ren, ABlk.ren, AC.ren, AE.ren, qq]; done)) ?_
  refine Wk.on ?_
  exact AH.Fin.nil [] ⟨rfl, rfl, rfl⟩ (by first | exact trivial | (simp [tupA, hpLt, tmLt, AV.lt, AE.lt, AC.lt, LL_cons, LL_nil, idOk, ABlk.lt, ints_LL, GB, tab64_LL, gC, wB]; done) | (simp [tupA, hpLt, tmLt, AV.lt, AE.lt, AC.lt, LL_cons, LL_nil, idOk, ABlk.lt, ints_LL, GB, tab64_LL, gC, wB, rdn, wrn]; done)) trivial trivial rfl (by simp [GB])
end Go.Proofs.YtfphkpdobbffeaaDoor

/-
  Plain: the game without a wire, and with one made short, are games; the number of trees; the trees that are left.
-/
namespace Go.Proofs.YtfphkpdobbffeaaDoor
open Go Go.AH Go.Wire
set_option maxRecDepth 100000
set_option maxHeartbeats 1000000

/-! Games. -/
theorem shE_ok {g : Gm} (hT : Tm g.n g.ws) {w : Nat} (hw : w < g.ws.length) : (shE g w).1 < (shE g w).2 ∧ (shE g w).2 < g.n := by
  refine hT.1 _ ?_
  unfold shE
  rw [List.getD_eq_getElem?_getD, List.getElem?_eq_getElem hw]; exact List.getElem_mem hw
theorem shW_Tm {n a b : Nat} {l : List (Nat × Nat)} (hab : a < b) (hb : b < n) (h : Tm n l) : Tm (n - 1) (isort (shW a b l)) := by
  refine ⟨fun w hw => ?_, isort_sorted _⟩
  have hw := (isort_perm _).mem_iff.1 hw
  obtain ⟨v, hv, rfl⟩ := List.mem_map.1 hw
  obtain ⟨h1, h2⟩ := List.mem_filter.1 hv
  have h2 := of_decide_eq_true h2
  have h3 := h.1 v h1
  have h4 := cw_lt (w := v) hab hb ⟨by omega, h3.2⟩
  refine ⟨?_, h4.2⟩
  show min _ _ < max _ _
  omega
theorem shortG_game {g : Gm} (hg : g.game) (hT : Tm g.n g.ws) {w : Nat} (hw : w < g.ws.length) (hj : ¬ joinsE g w) : (shortG g w).game := by
  have hE := shE_ok hT hw
  have hn2 := hg.ok.n2
  have hs := hg.ok.s
  have ht := hg.ok.t
  have hst := game_ends hg
  have h8 := hg.ok.n8
  have hl := hg.ok.len
  unfold joinsE at hj
  have hlen : (shortG g w).ws.length ≤ 10 := by
    show (isort (shW _ _ g.ws)).length ≤ 10
    rw [isort_len]
    refine Nat.le_trans ?_ hl
    show ((g.ws.filter _).map _).length ≤ _
    rw [List.length_map]
    exact List.length_filter_le _ _
  refine game_of (g := shortG g w) ?_ ?_ (plc_lt hE.1 hE.2 hs) (plc_lt hE.1 hE.2 ht) ?_ hlen (shW_Tm hE.1 hE.2 hT)
  · show 2 ≤ g.n - 1; omega
  · show g.n - 1 ≤ 8; omega
  · intro h
    have := (plc_eq hE.1 (u := g.s) (v := g.t)).1 h
    omega
/-! The number of trees. -/
theorem shW_perm {a b : Nat} {l l' : List (Nat × Nat)} (h : l.Perm l') : (shW a b l).Perm (shW a b l') := (h.filter _).map _
theorem shW_self {a b : Nat} (hab : a < b) (l : List (Nat × Nat)) : shW a b ((a, b) :: l) = shW a b l := by
  have h : plc a b a = plc a b b := (plc_eq hab).2 (.inr (.inl ⟨rfl, rfl⟩))
  unfold shW
  rw [List.filter_cons_of_neg (by simp [h])]
theorem Tm.in {n : Nat} {l : List (Nat × Nat)} (h : Tm n l) : In (id : Wr → Wr) n l := fun w hw => by
  have := h.1 w hw
  exact ⟨by show w.1 < n; omega, this.2⟩
/-! The trees that are left. -/
theorem tree_fo {g : Gm} (hg : g.ok) {pl c : Nat} (hpl : pl < 2 ^ g.n) (hpop : 2 ≤ pop pl) (hc : c < 2 ^ g.ws.length) (h : isTreeB g c pl = true) : Fo (eg g) g.n (memN c) ∧ placesN g c = pl ∧ oneG (keptL g c) pl := by
  have k := h
  rw [isTreeB, Bool.and_eq_true, Bool.and_eq_true, decide_eq_true_eq, acy_fo hg hc] at k
  rw [tree_pl hg hc hpl hpop, treeR_iff hg hc hpl] at h
  exact ⟨k.2, k.1.1, h.2.1⟩
theorem tree_jn {g : Gm} (hg : g.ok) {pl c d : Nat} (hpl : pl < 2 ^ g.n) (hc : c < 2 ^ g.ws.length) (hd : d < 2 ^ g.ws.length) (hpc : placesN g c = pl) (hod : oneG (keptL g d) pl) {u v : Nat} (hj : Wire.Jn (eg g) (memN c) u v) : Wire.Jn (eg g) (memN d) u v := by
  have hp := ws1024 hg
  have h8 := hg.n8
  refine jn_least (Jn.eqv _) (fun i hi => ?_) hj
  have e1 : pl.testBit (eg g i).1 = true := by rw [← hpc]; exact (end_iff (by omega)).2 ⟨i, hi, .inl rfl⟩
  have e2 : pl.testBit (eg g i).2 = true := by rw [← hpc]; exact (end_iff (by omega)).2 ⟨i, hi, .inr rfl⟩
  have l1 := lt_len hpl e1
  have l2 := lt_len hpl e2
  exact (root_jn hg hd (by omega) (by omega)).1 (hod _ _ e1 e2)
theorem less_ws {g : Gm} {w : Nat} (hw : w < g.ws.length) : (lessG g w).ws = ((List.range g.ws.length).erase w).map (eg g) := by
  rw [← range_less hw, List.map_map, ← eg_map (lessG g w), lessG_len hw]
  exact List.map_congr_left fun i _ => lessG_eg hw i
/-- Without a wire that is in no tree. -/
theorem less_trees {g : Gm} (hg : g.game) (hT : Tm g.n g.ws) {a b w : Nat} (h : treesF g (alT g) = some (a, b)) (hw : w < g.ws.length) (hwa : a.testBit w = false) (hwb : b.testBit w = false) : treesF (lessG g w) (alT (lessG g w)) ≠ none := by
  have hp := ws1024 hg.ok
  obtain ⟨k1, k2, k3, _⟩ := treesF_lt hg.ok.len h
  have hP := trees_pair hg.ok (game_ends hg) h
  have hna : w ∉ memN a := fun k => by rw [(memN_mem (by omega)).1 k] at hwa; cases hwa
  have hnb : w ∉ memN b := fun k => by rw [(memN_mem (by omega)).1 k] at hwb; cases hwb
  have hnd : (memN a ++ memN b).Nodup := List.nodup_append.2 ⟨hP.fa.nodup, hP.fb.nodup, fun i hi j hj hij => hP.dj i hi (hij ▸ hj)⟩
  have hr := rest_of_sub hnd (l' := (List.range g.ws.length).erase w) (fun i hi => by
    rcases List.mem_append.1 hi with hi | hi
    · exact (List.mem_erase_of_ne (by rintro rfl; exact hna hi)).2 (List.mem_range.2 (hP.la i hi))
    · exact (List.mem_erase_of_ne (by rintro rfl; exact hnb hi)).2 (List.mem_range.2 (hP.lb i hi))) (List.nodup_range.erase _)
  obtain ⟨C, hC⟩ : ∃ C, C = ((List.range g.ws.length).erase w).filter fun i => decide (i ∉ memN a ++ memN b) := ⟨_, rfl⟩
  rw [← hC] at hr
  have hL : PairL g.n g.s g.t (lessG g w).ws ((memN a).map (eg g)) ((memN b).map (eg g)) (C.map (eg g)) := ⟨by
    rw [less_ws hw, ← List.append_assoc, ← List.map_append, ← List.map_append]; exact hr.map _, (fo_map (eg g)).2 hP.fa, (fo_map (eg g)).2 hP.fb, fun u v => (jn_map (eg g)).trans ((hP.same u v).trans (jn_map (eg g)).symm), (jn_map (eg g)).2 hP.st⟩
  rw [← eg_map (lessG g w)] at hL
  obtain ⟨A, B, hAB, _⟩ := hL.toI
  exact pair_trees (lessG_game hg hT w).ok (show g.s ≠ g.t from game_ends hg) hAB
/-- A wire of one tree is cut, and the reply is made short. -/
theorem short_trees {g : Gm} (hg : g.game) (hT : Tm g.n g.ws) {own oth pl w r q : Nat} (ho : own < 2 ^ g.ws.length) (ht : oth < 2 ^ g.ws.length) (hpl : pl < 2 ^ g.n) (hs : pl.testBit g.s = true) (htt : pl.testBit g.t = true) (hd : own &&& oth = 0)
    (h2 : isTreeB g oth pl = true) (hm : isTreeB g (offN own w ||| 2 ^ r) pl = true) (hw : own.testBit w = true) (hr : oth.testBit r = true) (hq : upW w q = r) (hj : ¬ joinsE (lessG g w) q) : treesF (shortG (lessG g w) q) (alT (shortG (lessG g w) q)) ≠ none := by
  have hp := ws1024 hg.ok
  have h8 := hg.ok.n8
  have hwl := lt_len ho hw
  have hrl := lt_len ht hr
  have hlen := hg.ok.len
  have hpl8 : pl < 256 := by have := Nat.pow_le_pow_right (show 0 < 2 by omega) h8; omega
  have hpop := pop_two hpl8 (game_ends hg) hs htt
  have hdis : ∀ i, own.testBit i = true → oth.testBit i = true → False := fun i h1 h2 => by
    have := congrArg (fun x => x.testBit i) hd
    simp [h1, h2] at this
  have how : offN own w < 2 ^ g.ws.length := off_less hg.ok ho hw
  have hor : offN own w ||| 2 ^ r < 2 ^ g.ws.length := or2_lt how hrl
  obtain ⟨f1, p1, o1⟩ := tree_fo hg.ok hpl hpop hor hm
  obtain ⟨f2, p2, o2⟩ := tree_fo hg.ok hpl hpop ht h2
  have mo := fun i => memN_mem (n := own) (i := i) (by omega)
  have mt := fun i => memN_mem (n := oth) (i := i) (by omega)
  have m1 : memN (offN own w) = (memN own).erase w := memN_off (by omega) (by omega)
  have nd1 := memN_nodup own
  have nd2 := memN_nodup oth
  obtain ⟨A, hA⟩ : ∃ A, A = (memN own).erase w := ⟨_, rfl⟩
  obtain ⟨B, hB⟩ : ∃ B, B = (memN oth).erase r := ⟨_, rfl⟩
  have mA : ∀ i, i ∈ A ↔ i ≠ w ∧ own.testBit i = true := fun i => by rw [hA, nd1.mem_erase_iff, mo]
  have mB : ∀ i, i ∈ B ↔ i ≠ r ∧ oth.testBit i = true := fun i => by rw [hB, nd2.mem_erase_iff, mt]
  have ndA : A.Nodup := hA ▸ nd1.erase _
  have ndB : B.Nodup := hB ▸ nd2.erase _
  have hrA : r ∉ A := fun k => hdis r ((mA r).1 k).2 hr
  have hrB : r ∉ B := fun k => ((mB r).1 k).1 rfl
  have pA : (memN (offN own w ||| 2 ^ r)).Perm (A ++ [r]) := by
    refine (List.perm_ext_iff_of_nodup (memN_nodup _) (List.nodup_append.2 ⟨ndA, (by simp), fun i hi j hj hij => ?_⟩)).2 fun i => ?_
    · rw [List.mem_singleton] at hj; subst hj; subst hij; exact hrA hi
    · rw [keep_kept (k := offN own w) (by omega) (by omega) i, m1, List.mem_cons, List.mem_append, List.mem_singleton, ← hA]
      exact Or.comm
  have pB : (memN oth).Perm (B ++ [r]) := by
    have h3 : (memN oth).Perm (r :: B) := hB ▸ List.perm_cons_erase ((mt r).2 hr)
    exact h3.trans (List.perm_append_comm (l₁ := [r]) (l₂ := B))
  have nd3 : (A ++ B).Nodup := List.nodup_append.2 ⟨ndA, ndB, fun i hi j hj hij => hdis i ((mA i).1 hi).2 ((mB i).1 (hij ▸ hj)).2⟩
  have hrs := rest_of_sub (l := r :: (A ++ B)) (l' := (List.range g.ws.length).erase w) (List.nodup_cons.2 ⟨fun k => by
      rcases List.mem_append.1 k with k | k
      · exact hrA k
      · exact hrB k, nd3⟩) (fun i hi => by
    have hil : i < g.ws.length ∧ i ≠ w := by
      rcases List.mem_cons.1 hi with rfl | hi
      · exact ⟨hrl, fun k => hdis i (k ▸ hw) hr⟩
      rcases List.mem_append.1 hi with hi | hi
      · exact ⟨lt_len ho ((mA i).1 hi).2, ((mA i).1 hi).1⟩
      · exact ⟨lt_len ht ((mB i).1 hi).2, fun k => hdis i (k ▸ hw) ((mB i).1 hi).2⟩
    exact (List.mem_erase_of_ne hil.2).2 (List.mem_range.2 hil.1)) (List.nodup_range.erase _)
  obtain ⟨C, hC⟩ : ∃ C, C = ((List.range g.ws.length).erase w).filter fun i => decide (i ∉ r :: (A ++ B)) := ⟨_, rfl⟩
  rw [← hC] at hrs
  have hql : q < (lessG g w).ws.length := by
    rw [lessG_len hwl]
    unfold upW at hq
    split at hq <;> omega
  have hEr : shE (lessG g w) q = eg g r := by rw [← hq]; exact lessG_eg hwl q
  have hE := shE_ok (lessG_Tm hT w) hql
  have hb : (shE (lessG g w) q).2 < g.n := hE.2
  have hW : (lessG g w).ws.Perm (shE (lessG g w) q :: (A.map (eg g) ++ (B.map (eg g) ++ C.map (eg g)))) := by
    rw [less_ws hwl, hEr, ← List.map_append, ← List.map_append, ← List.append_assoc, ← List.map_cons]
    exact (hrs.map (eg g)).symm
  have eA : A.map (eg g) ++ [((shE (lessG g w) q).1, (shE (lessG g w) q).2)] = (A ++ [r]).map (eg g) := by
    rw [List.map_append]; show _ = _ ++ [eg g r]; rw [← hEr]
  have eB : B.map (eg g) ++ [((shE (lessG g w) q).1, (shE (lessG g w) q).2)] = (B ++ [r]).map (eg g) := by
    rw [List.map_append]; show _ = _ ++ [eg g r]; rw [← hEr]
  have ls := lt_len hpl hs
  have lt := lt_len hpl htt
  have hPL := PairL.short (n := g.n) (s := g.s) (t := g.t) (W := A.map (eg g) ++ (B.map (eg g) ++ C.map (eg g))) (A := A.map (eg g)) (B := B.map (eg g)) (C := C.map (eg g)) hE.1 hb
    (fun x hx => (lessG_Tm hT w).in x (hW.mem_iff.2 (List.mem_cons_of_mem _ (List.mem_append_right _ (List.mem_append_right _ hx))))) (List.Perm.refl _)
    (by rw [eA]; exact (fo_map (eg g)).2 (f1.perm pA)) (by rw [eB]; exact (fo_map (eg g)).2 (f2.perm pB))
    (fun u v => by
      rw [eA, eB]
      refine (jn_map (eg g)).trans (Iff.trans ?_ (jn_map (eg g)).symm)
      rw [← jn_perm pA, ← jn_perm pB]
      exact ⟨tree_jn hg.ok hpl hor ht p1 o2, tree_jn hg.ok hpl ht hor p2 o1⟩)
    (by rw [eA]; exact (jn_map (eg g)).2 ((jn_perm pA).1 ((root_jn hg.ok hor (by omega) (by omega)).1 (o1 _ _ hs htt))))
  have hPW := hPL.perm (W' := (shortG (lessG g w) q).ws) (by
    show List.Perm _ (isort (shW _ _ (lessG g w).ws))
    refine List.Perm.trans ?_ (isort_perm _).symm
    have := shW_perm (a := (shE (lessG g w) q).1) (b := (shE (lessG g w) q).2) hW
    rw [show shE (lessG g w) q = ((shE (lessG g w) q).1, (shE (lessG g w) q).2) from rfl, shW_self hE.1] at this
    exact this.symm)
  have hgs := shortG_game (lessG_game hg hT w) (lessG_Tm hT w) hql hj
  rw [← eg_map (shortG (lessG g w) q)] at hPW
  obtain ⟨A', B', hAB, _⟩ := hPW.toI
  exact pair_trees hgs.ok (game_ends hgs) hAB
end Go.Proofs.YtfphkpdobbffeaaDoor

/-
  Contracts: the game in which a wire is made short, by the program.
-/
namespace Go.Proofs.YtfphkpdobbffeaaDoor
open Go Go.AH Go.Wire
set_option maxRecDepth 100000
set_option maxHeartbeats 1000000

/-- The game that grows. -/
def gS (n S T : Nat) (l : List (Nat × Nat)) : List AC := match l with
  | [] => [.int .i64 n, .int .i64 S, .int .i64 T, .nils]
  | _ :: l => [.int .i64 n, .int .i64 S, .int .i64 T, .row 6 (l.length + 1)]
def gSH (l : List (Nat × Nat)) : List (Nat × ABlk) := match l with
  | [] => []
  | w :: l => [(6, .row 60 2 (ints (fl (w :: l))))]
def gSK (l : List (Nat × Nat)) : Nat := match l with
  | [] => 6
  | _ :: _ => 7
theorem place_spec (a b x : Nat) (hx : x < 1000) : FDet Tryd.prog 88 [.c (.int .i64 x), .c (.ptr 0 0), .c (.ptr 1 0)] [(0, .ro [.int .i64 b]), (1, .ro [.int .i64 a])] 2 (.c (.int .i64 (plc a b x : Nat))) [] 2 := by
  refine FSpec.of_body tok true Tryd.func88 rfl (by kernel_rfl) (by decide) (by simp [tupA, hpLt, tmLt, AV.lt, AE.lt, AC.lt, LL_cons, LL_nil, idOk, ABlk.lt, ints_LL, GB, tab64_LL, gC, wB, giC, noneB, gst, tC, pC, gN, gR, rC, rB, gS, gSH, gSK, tameH]) (by simp [tupA, hpLt, tmLt, AV.lt, AE.lt, AC.lt, LL_cons, LL_nil, idOk, ABlk.lt, ints_LL, GB, tab64_LL, gC, wB, giC, noneB, gst, tC, pC, gN, gR, rC, rB, gS, gSH, gSK, tameH]) (by show 3 ≤ _; decide) ?_
  refine Wk.on ?_
  by_cases h1 : x = b
  · rw [decide_eq_true (show (x : Int) = (b : Int) by omega)]
    refine Wk.on ?_
    exact AH.Fin.nil [] ⟨by rw [plc, if_pos h1]; rfl, rfl, rfl⟩ (by first | exact trivial | (simp [tupA, hpLt, tmLt, AV.lt, AE.lt, AC.lt, LL_cons, LL_nil, idOk, ABlk.lt, ints_LL, GB, tab64_LL, gC, wB, giC, noneB, gst, tC, pC, gN, gR, rC, rB, gS, gSH, gSK, tameH]; done) | (simp [tupA, hpLt, tmLt, AV.lt, AE.lt, AC.lt, LL_cons, LL_nil, idOk, ABlk.lt, ints_LL, GB, tab64_LL, gC, wB, giC, noneB, gst, tC, pC, gN, gR, rC, rB, gS, gSH, gSK, tameH, rdn, wrn]; done)) trivial trivial rfl (by simp [GB])
  · rw [decide_eq_false (show ¬ (x : Int) = (b : Int) by omega)]
    refine Wk.on ?_
    by_cases h2 : b < x
    · rw [decide_eq_true (show (b : Int) < (x : Int) by omega)]
      refine Wk.on ?_
      have e : ((x - 1 : Nat) : Int) = (x : Int) - 1 := by omega
      exact AH.Fin.nil [] ⟨by rw [plc, if_neg h1, if_pos h2, e]; rfl, rfl, rfl⟩ (by first | exact trivial | (simp [tupA, hpLt, tmLt, AV.lt, AE.lt, AC.lt, LL_cons, LL_nil, idOk, ABlk.lt, ints_LL, GB, tab64_LL, gC, wB, giC, noneB, gst, tC, pC, gN, gR, rC, rB, gS, gSH, gSK, tameH]; done) | (simp [tupA, hpLt, tmLt, AV.lt, AE.lt, AC.lt, LL_cons, LL_nil, idOk, ABlk.lt, ints_LL, GB, tab64_LL, gC, wB, giC, noneB, gst, tC, pC, gN, gR, rC, rB, gS, gSH, gSK, tameH, rdn, wrn]; done)) trivial trivial rfl (by simp [GB])
    · rw [decide_eq_false (show ¬ (b : Int) < (x : Int) by omega)]
      refine Wk.on ?_
      exact AH.Fin.nil [] ⟨by rw [plc, if_neg h1, if_neg h2]; rfl, rfl, rfl⟩ (by first | exact trivial | (simp [tupA, hpLt, tmLt, AV.lt, AE.lt, AC.lt, LL_cons, LL_nil, idOk, ABlk.lt, ints_LL, GB, tab64_LL, gC, wB, giC, noneB, gst, tC, pC, gN, gR, rC, rB, gS, gSH, gSK, tameH]; done) | (simp [tupA, hpLt, tmLt, AV.lt, AE.lt, AC.lt, LL_cons, LL_nil, idOk, ABlk.lt, ints_LL, GB, tab64_LL, gC, wB, giC, noneB, gst, tC, pC, gN, gR, rC, rB, gS, gSH, gSK, tameH, rdn, wrn]; done)) trivial trivial rfl (by simp [GB])
/-- A game and no error. -/
def okT (g : Gm) : AV := match g.ws with
  | [] => .t [.g (gN g), .c (.int .i64 0)]
  | _ => .t [.g (gR g 1), .c (.int .i64 0)]
theorem shorter_joins {g : Gm} (hg : g.game) {i : Nat} (hi : i < g.ws.length) (hj : joinsE g i) : FDet Tryd.prog 52 [.g (gC g 0), .c (.int .i64 i)] [(0, wB g)] 1 zeroT [] 1 := by
  have hl : (ints (fl g.ws)).length = g.ws.length * 2 := by rw [ints_len, fl_len]
  refine FSpec.of_body tok true Tryd.func52 rfl (by kernel_rfl) (by decide) (by simp [tupA, hpLt, tmLt, AV.lt, AE.lt, AC.lt, LL_cons, LL_nil, idOk, ABlk.lt, ints_LL, GB, tab64_LL, gC, wB, giC, noneB, gst, tC, pC, gN, gR, rC, rB, gS, gSH, gSK, tameH]) (by simp [tupA, hpLt, tmLt, AV.lt, AE.lt, AC.lt, LL_cons, LL_nil, idOk, ABlk.lt, ints_LL, GB, tab64_LL, gC, wB, giC, noneB, gst, tC, pC, gN, gR, rC, rB, gS, gSH, gSK, tameH]) (by show 2 ≤ _; decide) ?_
  refine Wk.on ?_
  refine CallA.ro [0] (.c (.int .i64 0)) (openWire_ok hg hi) (by first | rfl | exact congrArg AV.g (ints_ren _ _) | (simp [ints_ren, AV.ren, ABlk.ren, AC.ren, AE.ren, qq]; done)) rfl (by (repeat (first | exact trivial | refine ⟨⟨(by first | exact .inl (by decide) | exact .inr (by decide)), (by first | (refine Or.inl ?_; first | rfl | exact congrArg some (ints_ren _ _).symm | exact congrArg ABlk.own (ints_ren _ _).symm | exact congrArg some (tab64_ren _).symm | exact congrArg (ABlk.row _ _) (ints_ren _ _).symm) | rfl | exact congrArg some (ints_ren _ _).symm | exact congrArg ABlk.own (ints_ren _ _).symm | exact congrArg some (tab64_ren _).symm | exact congrArg (ABlk.row _ _) (ints_ren _ _).symm | exact Or.inr ⟨rfl, rfl⟩)⟩, ?_⟩))) (by first | rfl | exact congrArg AV.g (ints_ren _ _) | (simp [ints_ren, AV.ren, ABlk.ren, AC.ren, AE.ren, qq]; done)) ?_
  refine Wk.on ?_
  refine Tr.draw (md := true) [⟨[], [7, 8, 24, 28, 29, 30, 31, 32, 33], [], [], []⟩, ⟨[0], [7, 8, 24, 28, 29, 30, 31, 32, 33], [], [], []⟩, ⟨[], [7, 8, 22, 23, 28, 29, 30, 31, 32, 33], [0, 1], [], []⟩, ⟨[0, 1, 2], [7, 8, 28, 29, 30, 31, 32, 33], [], [], []⟩, ⟨[0, 1, 2, 3], [7, 8, 28, 29, 30, 31, 32, 33], [], [], []⟩, ⟨[0, 1, 2, 3, 4], [7, 8, 28, 29, 30, 31, 32, 33], [], [], []⟩, ⟨[], [7, 8, 22, 23, 24, 25, 26, 27, 30], [0, 1, 2, 3, 4, 5], [], [3]⟩, ⟨[6], [7, 8, 22, 23, 24, 25, 26, 27, 30], [0, 1, 2, 3, 4, 5], [], [3]⟩, ⟨[], [7, 8, 22, 23, 24, 25, 26, 27, 28, 29], [0, 1, 2, 3, 4, 5, 6, 7], [], [3]⟩, ⟨[6, 7, 8], [7, 8, 22, 23, 24, 25, 26, 27], [0, 1, 2, 3, 4, 5], [], [3]⟩, ⟨[6, 7, 8, 9], [7, 8, 22, 23, 24, 25, 26, 27], [0, 1, 2, 3, 4, 5], [], [3]⟩, ⟨[6, 7, 8, 9, 10], [7, 8, 22, 23, 24, 25, 26, 27], [0, 1, 2, 3, 4, 5], [], [3]⟩, ⟨[], [8, 22, 23, 24, 25, 26, 27, 28, 29, 30, 31, 32, 33], [0, 1, 2, 3, 4, 5, 6, 7, 8, 9, 10, 11], [], []⟩, ⟨[], [7, 22, 23, 24, 25, 26, 27, 28, 29, 30, 31, 32, 33], [0, 1, 2, 3, 4, 5, 6, 7, 8, 9, 10, 11, 12], [], []⟩, ⟨[0, 1, 2, 3, 4, 5, 12, 13], [28, 29, 30, 31, 32, 33], [6, 7, 8, 9, 10, 11], [3], []⟩] tok (by kernel_rfl) (by kernel_rfl) ?_
  refine Wk.on ?_
  simp only [Int.toNat_natCast]
  rw [wget0, wget1]
  obtain ⟨h1, h2⟩ := hj
  unfold shE at h1 h2
  refine Wk.on ?_
  rw [decide_eq_true (show min (g.s : Int) (g.t : Int) = ((g.ws.getD i (0, 0)).1 : Nat) by omega)]
  refine Wk.on ?_
  rw [decide_eq_true (show max (g.s : Int) (g.t : Int) = ((g.ws.getD i (0, 0)).2 : Nat) by omega)]
  refine Wk.on ?_
  exact AH.Fin.nil [] ⟨rfl, rfl, rfl⟩ (by first | exact trivial | (simp [tupA, hpLt, tmLt, AV.lt, AE.lt, AC.lt, LL_cons, LL_nil, idOk, ABlk.lt, ints_LL, GB, tab64_LL, gC, wB, giC, noneB, gst, tC, pC, gN, gR, rC, rB, gS, gSH, gSK, tameH]; done) | (simp [tupA, hpLt, tmLt, AV.lt, AE.lt, AC.lt, LL_cons, LL_nil, idOk, ABlk.lt, ints_LL, GB, tab64_LL, gC, wB, giC, noneB, gst, tC, pC, gN, gR, rC, rB, gS, gSH, gSK, tameH, rdn, wrn]; done)) trivial trivial rfl (by simp [GB])
theorem shW_succ (a b : Nat) (W : List (Nat × Nat)) {k : Nat} (h : k < W.length) : shW a b (W.take (k + 1)) = shW a b (W.take k) ++ (if plc a b (W.getD k (0, 0)).1 ≠ plc a b (W.getD k (0, 0)).2 then [cw a b (W.getD k (0, 0))] else []) := by
  have e : W.take (k + 1) = W.take k ++ [W.getD k (0, 0)] := by
    rw [List.take_add_one, List.getElem?_eq_getElem h, List.getD_eq_getElem?_getD, List.getElem?_eq_getElem h]; rfl
  unfold shW
  rw [e, List.filter_append, List.map_append]
  congr 1
  generalize W.getD k (0, 0) = w
  split
  · rename_i c; simp [c]
  · rename_i c; simp at c; simp [c]
theorem shorter_ok {g : Gm} (hg : g.game) {i : Nat} (hi : i < g.ws.length) (hj : ¬ joinsE g i) : FDet Tryd.prog 52 [.g (gC g 0), .c (.int .i64 i)] [(0, wB g)] 1 (okT (shortG g i)) (tameH (shortG g i)) (tameK (shortG g i)) := by
  have hl : (ints (fl g.ws)).length = g.ws.length * 2 := by rw [ints_len, fl_len]
  have hn2 := hg.ok.n2
  have hn8 := hg.ok.n8
  have hl10 := hg.ok.len
  obtain ⟨a, ha⟩ : ∃ a, a = (shE g i).1 := ⟨_, rfl⟩
  obtain ⟨b, hb⟩ : ∃ b, b = (shE g i).2 := ⟨_, rfl⟩
  have hsg : shortG g i = ⟨g.n - 1, plc a b g.s, plc a b g.t, isort (shW a b g.ws)⟩ := by rw [ha, hb]; rfl
  have ha2 : ((g.ws.getD i (0, 0)).1 : Nat) = a := ha.symm
  have hb2 : ((g.ws.getD i (0, 0)).2 : Nat) = b := hb.symm
  unfold joinsE at hj
  rw [← ha, ← hb] at hj
  rw [hsg]
  clear hsg ha hb
  refine FSpec.of_body tok true Tryd.func52 rfl (by kernel_rfl) (by decide) (by simp [tupA, hpLt, tmLt, AV.lt, AE.lt, AC.lt, LL_cons, LL_nil, idOk, ABlk.lt, ints_LL, GB, tab64_LL, gC, wB, giC, noneB, gst, tC, pC, gN, gR, rC, rB, gS, gSH, gSK, tameH]) (by simp [tupA, hpLt, tmLt, AV.lt, AE.lt, AC.lt, LL_cons, LL_nil, idOk, ABlk.lt, ints_LL, GB, tab64_LL, gC, wB, giC, noneB, gst, tC, pC, gN, gR, rC, rB, gS, gSH, gSK, tameH]) (by show 2 ≤ _; decide) ?_
  refine Wk.on ?_
  refine CallA.ro [0] (.c (.int .i64 0)) (openWire_ok hg hi) (by first | rfl | exact congrArg AV.g (ints_ren _ _) | (simp [ints_ren, AV.ren, ABlk.ren, AC.ren, AE.ren, qq]; done)) rfl (by (repeat (first | exact trivial | refine ⟨⟨(by first | exact .inl (by decide) | exact .inr (by decide)), (by first | (refine Or.inl ?_; first | rfl | exact congrArg some (ints_ren _ _).symm | exact congrArg ABlk.own (ints_ren _ _).symm | exact congrArg some (tab64_ren _).symm | exact congrArg (ABlk.row _ _) (ints_ren _ _).symm) | rfl | exact congrArg some (ints_ren _ _).symm | exact congrArg ABlk.own (ints_ren _ _).symm | exact congrArg some (tab64_ren _).symm | exact congrArg (ABlk.row _ _) (ints_ren _ _).symm | exact Or.inr ⟨rfl, rfl⟩)⟩, ?_⟩))) (by first | rfl | exact congrArg AV.g (ints_ren _ _) | (simp [ints_ren, AV.ren, ABlk.ren, AC.ren, AE.ren, qq]; done)) ?_
  refine Wk.on ?_
  refine Tr.draw (md := true) [⟨[], [7, 8, 24, 28, 29, 30, 31, 32, 33], [], [], []⟩, ⟨[0], [7, 8, 24, 28, 29, 30, 31, 32, 33], [], [], []⟩, ⟨[], [7, 8, 22, 23, 28, 29, 30, 31, 32, 33], [0, 1], [], []⟩, ⟨[0, 1, 2], [7, 8, 28, 29, 30, 31, 32, 33], [], [], []⟩, ⟨[0, 1, 2, 3], [7, 8, 28, 29, 30, 31, 32, 33], [], [], []⟩, ⟨[0, 1, 2, 3, 4], [7, 8, 28, 29, 30, 31, 32, 33], [], [], []⟩, ⟨[], [7, 8, 22, 23, 24, 25, 26, 27, 30], [0, 1, 2, 3, 4, 5], [], [3]⟩, ⟨[6], [7, 8, 22, 23, 24, 25, 26, 27, 30], [0, 1, 2, 3, 4, 5], [], [3]⟩, ⟨[], [7, 8, 22, 23, 24, 25, 26, 27, 28, 29], [0, 1, 2, 3, 4, 5, 6, 7], [], [3]⟩, ⟨[6, 7, 8], [7, 8, 22, 23, 24, 25, 26, 27], [0, 1, 2, 3, 4, 5], [], [3]⟩, ⟨[6, 7, 8, 9], [7, 8, 22, 23, 24, 25, 26, 27], [0, 1, 2, 3, 4, 5], [], [3]⟩, ⟨[6, 7, 8, 9, 10], [7, 8, 22, 23, 24, 25, 26, 27], [0, 1, 2, 3, 4, 5], [], [3]⟩, ⟨[], [8, 22, 23, 24, 25, 26, 27, 28, 29, 30, 31, 32, 33], [0, 1, 2, 3, 4, 5, 6, 7, 8, 9, 10, 11], [], []⟩, ⟨[], [7, 22, 23, 24, 25, 26, 27, 28, 29, 30, 31, 32, 33], [0, 1, 2, 3, 4, 5, 6, 7, 8, 9, 10, 11, 12], [], []⟩, ⟨[0, 1, 2, 3, 4, 5, 12, 13], [28, 29, 30, 31, 32, 33], [6, 7, 8, 9, 10, 11], [3], []⟩] tok (by kernel_rfl) (by kernel_rfl) ?_
  refine Wk.on ?_
  simp only [Int.toNat_natCast]
  rw [wget0, wget1, ha2, hb2]
  clear ha2 hb2
  refine Wk.on ?_
  by_cases h1 : min g.s g.t = a
  rw [decide_eq_true (show min (g.s : Int) (g.t : Int) = (a : Nat) by omega)]
  refine Wk.on ?_
  rw [decide_eq_false (show ¬ max (g.s : Int) (g.t : Int) = (b : Nat) by omega)]
  refine Wk.on ?_
  rotate_left
  rw [decide_eq_false (show ¬ min (g.s : Int) (g.t : Int) = (a : Nat) by omega)]
  refine Wk.on ?_
  all_goals
    have hs := hg.ok.s
    have ht := hg.ok.t
    have hps := place_spec a b g.s (by omega)
    have hpt := place_spec a b g.t (by omega)
    refine Tr.draw (md := true) [⟨[], [10, 55, 56, 57, 58, 59, 60, 61, 62], [], [], []⟩, ⟨[0], [10, 55, 56, 57, 58, 59, 60, 61, 62], [], [], []⟩, ⟨[0, 1], [10, 55, 56, 57, 58, 59, 60, 61, 62], [], [], []⟩, ⟨[], [10, 52, 53, 54, 56, 57, 59, 60, 61], [0, 1, 2], [], []⟩, ⟨[], [10, 52, 53, 54, 55, 59, 60, 61], [0, 1, 2, 3], [], []⟩, ⟨[4], [10, 52, 53, 54, 55, 59, 60, 61], [0, 1, 2, 3], [], []⟩, ⟨[3, 4, 5], [10, 52, 53, 54, 59, 60, 61], [0, 1, 2], [], []⟩, ⟨[], [10, 52, 53, 54, 55, 56, 57, 58, 60, 61], [0, 1, 2, 3, 4, 5, 6], [], []⟩, ⟨[], [10, 52, 53, 54, 55, 56, 57, 58, 59], [0, 1, 2, 3, 4, 5, 6, 7], [], []⟩, ⟨[8], [10, 52, 53, 54, 55, 56, 57, 58, 59], [0, 1, 2, 3, 4, 5, 6, 7], [], []⟩, ⟨[3, 4, 5, 6, 7, 8, 9], [10, 52, 53, 54], [0, 1, 2], [], []⟩, ⟨[0, 1, 2, 3, 4, 5, 6, 7, 8, 9, 10], [10], [], [], []⟩, ⟨[], [52, 53, 54, 55, 56, 57, 58, 59, 60, 61, 62, 63], [0, 1, 2, 3, 4, 5, 6, 7, 8, 9, 10, 11], [], []⟩] tok (by kernel_rfl) (by kernel_rfl) ?_
    refine Wk.on ?_
    rw [show (g.n : Int) - 1 = ((g.n - 1 : Nat) : Int) by omega]
    refine Wk.on ?_
    refine CallQ.ro [4, 3] (.c (.int .i64 (plc a b g.s : Nat))) (hps) (by first | rfl | exact congrArg AV.g (ints_ren _ _) | (simp [ints_ren, AV.ren, ABlk.ren, AC.ren, AE.ren, qq]; done)) rfl (by (repeat (first | exact trivial | refine ⟨⟨(by first | exact .inl (by decide) | exact .inr (by decide)), (by first | (refine Or.inl ?_; first | rfl | exact congrArg some (ints_ren _ _).symm | exact congrArg ABlk.own (ints_ren _ _).symm | exact congrArg some (tab64_ren _).symm | exact congrArg (ABlk.row _ _) (ints_ren _ _).symm) | rfl | exact congrArg some (ints_ren _ _).symm | exact congrArg ABlk.own (ints_ren _ _).symm | exact congrArg some (tab64_ren _).symm | exact congrArg (ABlk.row _ _) (ints_ren _ _).symm | exact Or.inr ⟨rfl, rfl⟩)⟩, ?_⟩))) (by first | rfl | exact congrArg AV.g (ints_ren _ _) | (simp [ints_ren, AV.ren, ABlk.ren, AC.ren, AE.ren, qq]; done)) ?_
    refine Wk.on ?_
    refine CallQ.ro [4, 3] (.c (.int .i64 (plc a b g.t : Nat))) (hpt) (by first | rfl | exact congrArg AV.g (ints_ren _ _) | (simp [ints_ren, AV.ren, ABlk.ren, AC.ren, AE.ren, qq]; done)) rfl (by (repeat (first | exact trivial | refine ⟨⟨(by first | exact .inl (by decide) | exact .inr (by decide)), (by first | (refine Or.inl ?_; first | rfl | exact congrArg some (ints_ren _ _).symm | exact congrArg ABlk.own (ints_ren _ _).symm | exact congrArg some (tab64_ren _).symm | exact congrArg (ABlk.row _ _) (ints_ren _ _).symm) | rfl | exact congrArg some (ints_ren _ _).symm | exact congrArg ABlk.own (ints_ren _ _).symm | exact congrArg some (tab64_ren _).symm | exact congrArg (ABlk.row _ _) (ints_ren _ _).symm | exact Or.inr ⟨rfl, rfl⟩)⟩, ?_⟩))) (by first | rfl | exact congrArg AV.g (ints_ren _ _) | (simp [ints_ren, AV.ren, ABlk.ren, AC.ren, AE.ren, qq]; done)) ?_
    refine Wk.on ?_
    refine Tr.loop (md := true) (X := Nat × List (Nat × Nat)) (st := fun q => ⟨[(2, .c (.ptr 1 0)), (4, .c (.ptr 2 0)), (9, .c (.fn 88 [] [4, 3])), (10, .c (.ptr 5 0)), (65, .c (.rs 0 0 g.ws.length)), (66, .c (.int .i64 g.ws.length)), (67, .c (.int .i64 q.1))], (5, .own (gS (g.n - 1) (plc a b g.s) (plc a b g.t) q.2)) :: (4, .own [.int .i64 b]) :: (3, .own [.int .i64 a]) :: (2, .own [.int .i64 0, .int .i64 0, .int .i64 0, .nils]) :: (1, .own (gC g 0)) :: (0, wB g) :: gSH q.2, gSK q.2, 99, 1⟩) (inv := fun q => q.1 ≤ g.ws.length ∧ q.2 = shW a b (g.ws.take q.1)) (μ := fun q => g.ws.length - q.1) (x0 := (0, [])) (l := []) tok ⟨Nat.zero_le _, rfl⟩ ?_ ?_
    · exact Sub.nil ⟨rfl, rfl, (by simp [tab64_LL, gC, wB, giC, noneB, gst, tC, pC, gN, gR, rC, rB, gS, gSH, gSK, tameH]), rfl, (by simp [tupA, hpLt, tmLt, AV.lt, AE.lt, AC.lt, LL_cons, LL_nil, idOk, ABlk.lt, ints_LL, GB, tab64_LL, gC, wB, giC, noneB, gst, tC, pC, gN, gR, rC, rB, gS, gSH, gSK, tameH]), (by simp [tupA, hpLt, tmLt, AV.lt, AE.lt, AC.lt, LL_cons, LL_nil, idOk, ABlk.lt, ints_LL, GB, tab64_LL, gC, wB, giC, noneB, gst, tC, pC, gN, gR, rC, rB, gS, gSH, gSK, tameH])⟩ ⟨rfl, rfl, rfl, rfl, rfl, rfl, rfl, trivial⟩ ⟨rfl, rfl, rfl, rfl, rfl, rfl, trivial⟩
    · rintro ⟨k, l⟩ ⟨hk, hlk⟩
      dsimp only at hk hlk
      have hll : l.length ≤ 10 := by
        rw [hlk]
        refine Nat.le_trans ?_ hl10
        show ((List.filter _ _).map _).length ≤ _
        rw [List.length_map]
        exact Nat.le_trans (List.length_filter_le _ _) (by rw [List.length_take]; omega)
      by_cases hkl : k < g.ws.length
      · have hsu := shW_succ a b g.ws hkl
        rw [← hlk] at hsu
        have hend := hg.ok.ends k hkl
        have hr := rdn_fl g.ws k
        generalize g.ws.getD k (0, 0) = w at *
        have hp1 := place_spec a b w.1 (by omega)
        have hp2 := place_spec a b w.2 (by omega)
        rcases l with _ | ⟨w0, l⟩
        · skip
          dsimp only [gSH, gSK]
          refine Wk.on ?_
          rw [decide_eq_true (show ((k : Nat) : Int) < ((g.ws.length : Nat) : Int) by omega)]
          refine Wk.on ?_
          refine ⟨⟨by rw [hl, Int.toNat_natCast]; show 0 + k * 2 + 2 ≤ _; omega, rfl⟩, ?_⟩
          rw [Int.toNat_natCast, Nat.zero_add]
          rw [show rdn (ints (fl g.ws)) (k * 2) [.int .i64 0, .int .i64 0] = _ from hr]
          refine Wk.on ?_
          refine Tr.draw (md := true) [⟨[], [72, 73, 75, 76, 77], [], [], []⟩, ⟨[], [71, 75, 76, 77], [0], [], []⟩, ⟨[1], [71, 75, 76, 77], [0], [], []⟩, ⟨[0, 1, 2], [75, 76, 77], [], [], []⟩, ⟨[], [71, 72, 73, 74, 76, 77], [0, 1, 2, 3], [], []⟩, ⟨[], [71, 72, 73, 74, 75], [0, 1, 2, 3, 4], [], []⟩, ⟨[5], [71, 72, 73, 74, 75], [0, 1, 2, 3, 4], [], []⟩] tok (by kernel_rfl) (by kernel_rfl) ?_
          refine Wk.on ?_
          refine CallQ.ro [4, 3] (.c (.int .i64 (plc a b w.1 : Nat))) (hp1) (by first | rfl | exact congrArg AV.g (ints_ren _ _) | (simp [ints_ren, AV.ren, ABlk.ren, AC.ren, AE.ren, qq]; done)) rfl (by (repeat (first | exact trivial | refine ⟨⟨(by first | exact .inl (by decide) | exact .inr (by decide)), (by first | (refine Or.inl ?_; first | rfl | exact congrArg some (ints_ren _ _).symm | exact congrArg ABlk.own (ints_ren _ _).symm | exact congrArg some (tab64_ren _).symm | exact congrArg (ABlk.row _ _) (ints_ren _ _).symm) | rfl | exact congrArg some (ints_ren _ _).symm | exact congrArg ABlk.own (ints_ren _ _).symm | exact congrArg some (tab64_ren _).symm | exact congrArg (ABlk.row _ _) (ints_ren _ _).symm | exact Or.inr ⟨rfl, rfl⟩)⟩, ?_⟩))) (by first | rfl | exact congrArg AV.g (ints_ren _ _) | (simp [ints_ren, AV.ren, ABlk.ren, AC.ren, AE.ren, qq]; done)) ?_
          refine Wk.on ?_
          refine CallA.ro [4, 3] (.c (.int .i64 (plc a b w.2 : Nat))) (hp2) (by first | rfl | exact congrArg AV.g (ints_ren _ _) | (simp [ints_ren, AV.ren, ABlk.ren, AC.ren, AE.ren, qq]; done)) rfl (by (repeat (first | exact trivial | refine ⟨⟨(by first | exact .inl (by decide) | exact .inr (by decide)), (by first | (refine Or.inl ?_; first | rfl | exact congrArg some (ints_ren _ _).symm | exact congrArg ABlk.own (ints_ren _ _).symm | exact congrArg some (tab64_ren _).symm | exact congrArg (ABlk.row _ _) (ints_ren _ _).symm) | rfl | exact congrArg some (ints_ren _ _).symm | exact congrArg ABlk.own (ints_ren _ _).symm | exact congrArg some (tab64_ren _).symm | exact congrArg (ABlk.row _ _) (ints_ren _ _).symm | exact Or.inr ⟨rfl, rfl⟩)⟩, ?_⟩))) (by first | rfl | exact congrArg AV.g (ints_ren _ _) | (simp [ints_ren, AV.ren, ABlk.ren, AC.ren, AE.ren, qq]; done)) ?_
          refine Wk.on ?_
          by_cases hc : plc a b w.1 = plc a b w.2
          · rw [decide_eq_false (show ¬ ((plc a b w.1 : Nat) : Int) ≠ ((plc a b w.2 : Nat) : Int) by omega)]
            refine Wk.on ?_
            refine Again.mk (k + 1, []) (Sub.nil ⟨rfl, rfl, (by simp [tab64_LL, gC, wB, giC, noneB, gst, tC, pC, gN, gR, rC, rB, gS, gSH, gSK, tameH]), rfl, (by simp [tupA, hpLt, tmLt, AV.lt, AE.lt, AC.lt, LL_cons, LL_nil, idOk, ABlk.lt, ints_LL, GB, tab64_LL, gC, wB, giC, noneB, gst, tC, pC, gN, gR, rC, rB, gS, gSH, gSK, tameH]), (by simp [tupA, hpLt, tmLt, AV.lt, AE.lt, AC.lt, LL_cons, LL_nil, idOk, ABlk.lt, ints_LL, GB, tab64_LL, gC, wB, giC, noneB, gst, tC, pC, gN, gR, rC, rB, gS, gSH, gSK, tameH])⟩ ⟨rfl, rfl, rfl, rfl, rfl, rfl, rfl, trivial⟩ ⟨rfl, rfl, rfl, rfl, rfl, rfl, trivial⟩) ⟨by omega, ?_⟩ (by show g.ws.length - (k + 1) < g.ws.length - k; omega)
            show [] = shW a b (g.ws.take (k + 1))
            rw [hsu, if_neg (fun h => h hc)]; simp
          · rw [decide_eq_true (show ((plc a b w.1 : Nat) : Int) ≠ ((plc a b w.2 : Nat) : Int) by omega)]
            refine Wk.on ?_
            rw [show min ((plc a b w.1 : Nat) : Int) ((plc a b w.2 : Nat) : Int) = ((cw a b w).1 : Nat) by unfold cw; dsimp only; omega]
            refine Wk.on ?_
            rw [show max ((plc a b w.1 : Nat) : Int) ((plc a b w.2 : Nat) : Int) = ((cw a b w).2 : Nat) by unfold cw; dsimp only; omega]
            refine Wk.on ?_
            refine Again.mk (k + 1, [cw a b w]) (Sub.new [(6, 8)] ⟨rfl, rfl, Nat.le_of_ble_eq_true rfl, Nat.le_of_ble_eq_true rfl⟩ rfl ⟨rfl, rfl, rfl, rfl, rfl, rfl, rfl, trivial⟩ ⟨rfl, rfl, rfl, rfl, rfl, wBren g _, rfl, trivial⟩ rfl (by simp [tupA, hpLt, tmLt, AV.lt, AE.lt, AC.lt, LL_cons, LL_nil, idOk, ABlk.lt, ints_LL, GB, tab64_LL, gC, wB, giC, noneB, gst, tC, pC, gN, gR, rC, rB, gS, gSH, gSK, tameH]) (by simp [tupA, hpLt, tmLt, AV.lt, AE.lt, AC.lt, LL_cons, LL_nil, idOk, ABlk.lt, ints_LL, GB, tab64_LL, gC, wB, giC, noneB, gst, tC, pC, gN, gR, rC, rB, gS, gSH, gSK, tameH])) ⟨by omega, ?_⟩ (by show g.ws.length - (k + 1) < g.ws.length - k; omega)
            show [cw a b w] = shW a b (g.ws.take (k + 1))
            rw [hsu, if_pos hc]; rfl
        · rw [List.length_cons] at hll
          have hfl2 : (ints (fl (w0 :: l))).length = (l.length + 1) * 2 := by rw [ints_len, fl_len]; rfl
          dsimp only [gSH, gSK]
          refine Wk.on ?_
          rw [decide_eq_true (show ((k : Nat) : Int) < ((g.ws.length : Nat) : Int) by omega)]
          refine Wk.on ?_
          refine ⟨⟨by rw [hl, Int.toNat_natCast]; show 0 + k * 2 + 2 ≤ _; omega, rfl⟩, ?_⟩
          rw [Int.toNat_natCast, Nat.zero_add]
          rw [show rdn (ints (fl g.ws)) (k * 2) [.int .i64 0, .int .i64 0] = _ from hr]
          refine Wk.on ?_
          refine Tr.draw (md := true) [⟨[], [72, 73, 75, 76, 77], [], [], []⟩, ⟨[], [71, 75, 76, 77], [0], [], []⟩, ⟨[1], [71, 75, 76, 77], [0], [], []⟩, ⟨[0, 1, 2], [75, 76, 77], [], [], []⟩, ⟨[], [71, 72, 73, 74, 76, 77], [0, 1, 2, 3], [], []⟩, ⟨[], [71, 72, 73, 74, 75], [0, 1, 2, 3, 4], [], []⟩, ⟨[5], [71, 72, 73, 74, 75], [0, 1, 2, 3, 4], [], []⟩] tok (by kernel_rfl) (by kernel_rfl) ?_
          refine Wk.on ?_
          refine CallQ.ro [4, 3] (.c (.int .i64 (plc a b w.1 : Nat))) (hp1) (by first | rfl | exact congrArg AV.g (ints_ren _ _) | (simp [ints_ren, AV.ren, ABlk.ren, AC.ren, AE.ren, qq]; done)) rfl (by (repeat (first | exact trivial | refine ⟨⟨(by first | exact .inl (by decide) | exact .inr (by decide)), (by first | (refine Or.inl ?_; first | rfl | exact congrArg some (ints_ren _ _).symm | exact congrArg ABlk.own (ints_ren _ _).symm | exact congrArg some (tab64_ren _).symm | exact congrArg (ABlk.row _ _) (ints_ren _ _).symm) | rfl | exact congrArg some (ints_ren _ _).symm | exact congrArg ABlk.own (ints_ren _ _).symm | exact congrArg some (tab64_ren _).symm | exact congrArg (ABlk.row _ _) (ints_ren _ _).symm | exact Or.inr ⟨rfl, rfl⟩)⟩, ?_⟩))) (by first | rfl | exact congrArg AV.g (ints_ren _ _) | (simp [ints_ren, AV.ren, ABlk.ren, AC.ren, AE.ren, qq]; done)) ?_
          refine Wk.on ?_
          refine CallA.ro [4, 3] (.c (.int .i64 (plc a b w.2 : Nat))) (hp2) (by first | rfl | exact congrArg AV.g (ints_ren _ _) | (simp [ints_ren, AV.ren, ABlk.ren, AC.ren, AE.ren, qq]; done)) rfl (by (repeat (first | exact trivial | refine ⟨⟨(by first | exact .inl (by decide) | exact .inr (by decide)), (by first | (refine Or.inl ?_; first | rfl | exact congrArg some (ints_ren _ _).symm | exact congrArg ABlk.own (ints_ren _ _).symm | exact congrArg some (tab64_ren _).symm | exact congrArg (ABlk.row _ _) (ints_ren _ _).symm) | rfl | exact congrArg some (ints_ren _ _).symm | exact congrArg ABlk.own (ints_ren _ _).symm | exact congrArg some (tab64_ren _).symm | exact congrArg (ABlk.row _ _) (ints_ren _ _).symm | exact Or.inr ⟨rfl, rfl⟩)⟩, ?_⟩))) (by first | rfl | exact congrArg AV.g (ints_ren _ _) | (simp [ints_ren, AV.ren, ABlk.ren, AC.ren, AE.ren, qq]; done)) ?_
          refine Wk.on ?_
          by_cases hc : plc a b w.1 = plc a b w.2
          · rw [decide_eq_false (show ¬ ((plc a b w.1 : Nat) : Int) ≠ ((plc a b w.2 : Nat) : Int) by omega)]
            refine Wk.on ?_
            refine Again.mk (k + 1, w0 :: l) (Sub.nil ⟨rfl, rfl, (by simp [tab64_LL, gC, wB, giC, noneB, gst, tC, pC, gN, gR, rC, rB, gS, gSH, gSK, tameH]), rfl, (by simp [tupA, hpLt, tmLt, AV.lt, AE.lt, AC.lt, LL_cons, LL_nil, idOk, ABlk.lt, ints_LL, GB, tab64_LL, gC, wB, giC, noneB, gst, tC, pC, gN, gR, rC, rB, gS, gSH, gSK, tameH]), (by simp [tupA, hpLt, tmLt, AV.lt, AE.lt, AC.lt, LL_cons, LL_nil, idOk, ABlk.lt, ints_LL, GB, tab64_LL, gC, wB, giC, noneB, gst, tC, pC, gN, gR, rC, rB, gS, gSH, gSK, tameH])⟩ ⟨rfl, rfl, rfl, rfl, rfl, rfl, rfl, trivial⟩ ⟨rfl, rfl, rfl, rfl, rfl, rfl, rfl, trivial⟩) ⟨by omega, ?_⟩ (by show g.ws.length - (k + 1) < g.ws.length - k; omega)
            show w0 :: l = shW a b (g.ws.take (k + 1))
            rw [hsu, if_neg (fun h => h hc)]; simp
          · rw [decide_eq_true (show ((plc a b w.1 : Nat) : Int) ≠ ((plc a b w.2 : Nat) : Int) by omega)]
            refine Wk.on ?_
            rw [show min ((plc a b w.1 : Nat) : Int) ((plc a b w.2 : Nat) : Int) = ((cw a b w).1 : Nat) by unfold cw; dsimp only; omega]
            refine Wk.on ?_
            rw [show max ((plc a b w.1 : Nat) : Int) ((plc a b w.2 : Nat) : Int) = ((cw a b w).2 : Nat) by unfold cw; dsimp only; omega]
            refine Wk.on ?_
            refine ⟨⟨Nat.le_of_ble_eq_true rfl, rfl, rfl, hfl2, by show ((l.length + 1 + 1 : Nat) : Int) * 16 ≤ _; omega, by omega⟩, ?_⟩
            refine Wk.on ?_
            refine Again.mk (k + 1, w0 :: (l ++ [cw a b w])) (Sub.new [(6, 9)] ⟨rfl, rfl, Nat.le_of_ble_eq_true rfl, Nat.le_of_ble_eq_true rfl⟩ rfl ⟨rfl, rfl, rfl, rfl, rfl, rfl, rfl, trivial⟩ ⟨by show some (ABlk.own _) = some (ABlk.own _); simp [gS, AC.ren, rn, lk], rfl, rfl, rfl, rfl, wBren g _, by show some (ABlk.row 60 2 _) = some (ABlk.row 60 2 ((ints _).map _)); rw [ints_ren]; exact congrArg (fun l => some (ABlk.row 60 2 l)) (by simp [ints, fl]; rfl), trivial⟩ rfl (by simp [tupA, hpLt, tmLt, AV.lt, AE.lt, AC.lt, LL_cons, LL_nil, idOk, ABlk.lt, ints_LL, GB, tab64_LL, gC, wB, giC, noneB, gst, tC, pC, gN, gR, rC, rB, gS, gSH, gSK, tameH]) (by simp [tupA, hpLt, tmLt, AV.lt, AE.lt, AC.lt, LL_cons, LL_nil, idOk, ABlk.lt, ints_LL, GB, tab64_LL, gC, wB, giC, noneB, gst, tC, pC, gN, gR, rC, rB, gS, gSH, gSK, tameH])) ⟨by omega, ?_⟩ (by show g.ws.length - (k + 1) < g.ws.length - k; omega)
            show w0 :: (l ++ [cw a b w]) = shW a b (g.ws.take (k + 1))
            rw [hsu, if_pos hc]; rfl
      · rw [List.take_of_length_le (by omega)] at hlk
        rw [← hlk]
        clear hlk
        rcases l with _ | ⟨w0, l⟩
        · dsimp only [gSH, gSK]
          refine Wk.on ?_
          rw [decide_eq_false (show ¬ ((k : Nat) : Int) < ((g.ws.length : Nat) : Int) by omega)]
          refine Wk.on ?_
          refine CallA.ro [] (.t []) (sortW_nil) (by first | rfl | exact congrArg AV.g (ints_ren _ _) | (simp [ints_ren, AV.ren, ABlk.ren, AC.ren, AE.ren, qq]; done)) rfl (by (repeat (first | exact trivial | refine ⟨⟨(by first | exact .inl (by decide) | exact .inr (by decide)), (by first | (refine Or.inl ?_; first | rfl | exact congrArg some (ints_ren _ _).symm | exact congrArg ABlk.own (ints_ren _ _).symm | exact congrArg some (tab64_ren _).symm | exact congrArg (ABlk.row _ _) (ints_ren _ _).symm) | rfl | exact congrArg some (ints_ren _ _).symm | exact congrArg ABlk.own (ints_ren _ _).symm | exact congrArg some (tab64_ren _).symm | exact congrArg (ABlk.row _ _) (ints_ren _ _).symm | exact Or.inr ⟨rfl, rfl⟩)⟩, ?_⟩))) (by first | rfl | exact congrArg AV.g (ints_ren _ _) | (simp [ints_ren, AV.ren, ABlk.ren, AC.ren, AE.ren, qq]; done)) ?_
          refine Wk.on ?_
          exact AH.Fin.nil [] ⟨rfl, rfl, rfl⟩ (by first | exact trivial | (simp [tupA, hpLt, tmLt, AV.lt, AE.lt, AC.lt, LL_cons, LL_nil, idOk, ABlk.lt, ints_LL, GB, tab64_LL, gC, wB, giC, noneB, gst, tC, pC, gN, gR, rC, rB, gS, gSH, gSK, tameH]; done) | (simp [tupA, hpLt, tmLt, AV.lt, AE.lt, AC.lt, LL_cons, LL_nil, idOk, ABlk.lt, ints_LL, GB, tab64_LL, gC, wB, giC, noneB, gst, tC, pC, gN, gR, rC, rB, gS, gSH, gSK, tameH, rdn, wrn]; done)) trivial trivial rfl (by simp [GB])
        · rw [List.length_cons] at hll
          have hsp := sortW_spec (w0 :: l) (by rw [List.length_cons]; omega)
          obtain ⟨v, vs, hv⟩ : ∃ v vs, isort (w0 :: l) = v :: vs := by
            have := isort_len (w0 :: l)
            cases hq : isort (w0 :: l) with
            | nil => rw [hq] at this; simp at this
            | cons v vs => exact ⟨v, vs, rfl⟩
          have hvl : vs.length = l.length := by
            have := isort_len (w0 :: l)
            rw [hv] at this
            simpa using this
          rw [hv] at hsp ⊢
          dsimp only [gSH, gSK]
          refine Wk.on ?_
          rw [decide_eq_false (show ¬ ((k : Nat) : Int) < ((g.ws.length : Nat) : Int) by omega)]
          refine Wk.on ?_
          refine CallA.det [6] (.t []) ([(5, .own (gS (g.n - 1) (plc a b g.s) (plc a b g.t) (w0 :: l))), (4, .own [.int .i64 b]), (3, .own [.int .i64 a]), (2, .own [.int .i64 0, .int .i64 0, .int .i64 0, .nils]), (1, .own (gC g 0)), (0, wB g), (6, .row 60 2 (ints (fl (v :: vs))))]) (hsp) (by first | rfl | exact congrArg AV.g (ints_ren _ _) | (simp [ints_ren, AV.ren, ABlk.ren, AC.ren, AE.ren, qq]; done)) rfl (by (repeat (first | exact trivial | refine ⟨⟨(by first | exact .inl (by decide) | exact .inr (by decide)), (by first | (refine Or.inl ?_; first | rfl | exact congrArg some (ints_ren _ _).symm | exact congrArg ABlk.own (ints_ren _ _).symm | exact congrArg some (tab64_ren _).symm | exact congrArg (ABlk.row _ _) (ints_ren _ _).symm) | rfl | exact congrArg some (ints_ren _ _).symm | exact congrArg ABlk.own (ints_ren _ _).symm | exact congrArg some (tab64_ren _).symm | exact congrArg (ABlk.row _ _) (ints_ren _ _).symm | exact Or.inr ⟨rfl, rfl⟩)⟩, ?_⟩))) (by first | rfl | exact congrArg AV.g (ints_ren _ _) | (simp [ints_ren, AV.ren, ABlk.ren, AC.ren, AE.ren, qq]; done)) (by first | rfl | (simp [behind, gone, lk, up, del, qq, ABlk.wr, GB, ints_ren, AV.ren, ABlk.ren, AC.ren, AE.ren]; done) | (simp [behind, gone, lk, up, del, qq, ABlk.wr, GB, ints_ren, AV.ren, ABlk.ren, AC.ren, AE.ren]; rfl)) ?_
          refine Wk.on ?_
          exact AH.Fin.new [6] _ _ ⟨by show _ = AV.t [.g (gR ⟨g.n - 1, plc a b g.s, plc a b g.t, v :: vs⟩ 1), .c (.int .i64 0)]; rw [gR, List.length_cons, hvl], rfl, rfl⟩ rfl ⟨by show some _ = some _; exact congrArg (fun l => some (ABlk.row 60 2 l)) (ints_ren _ _).symm, trivial⟩ rfl (by simp [tupA, hpLt, tmLt, AV.lt, AE.lt, AC.lt, LL_cons, LL_nil, idOk, ABlk.lt, ints_LL, GB, tab64_LL, gC, wB, giC, noneB, gst, tC, pC, gN, gR, rC, rB, gS, gSH, gSK, tameH]) (by simp [tupA, hpLt, tmLt, AV.lt, AE.lt, AC.lt, LL_cons, LL_nil, idOk, ABlk.lt, ints_LL, GB, tab64_LL, gC, wB, giC, noneB, gst, tC, pC, gN, gR, rC, rB, gS, gSH, gSK, tameH])
end Go.Proofs.YtfphkpdobbffeaaDoor

/-
  The law SwitchDeletes, as a contract.
-/
namespace Go.Proofs.YtfphkpdobbffeaaDoor
open Go Go.AH Go.Wire
set_option maxRecDepth 100000
set_option maxHeartbeats 1000000

theorem shorter_rs {g : Gm} (hg : g.game) {i : Nat} (hi : i < g.ws.length) (hj : ¬ joinsE g i) (h : ¬ (shortG g i).ws = []) : FDet Tryd.prog 52 [.g (gC g 0), .c (.int .i64 i)] [(0, wB g)] 1 (.t [.g (gC (shortG g i) 1), .c (.int .i64 0)]) [(1, .row 60 2 (ints (fl (shortG g i).ws)))] 2 := by
  have := shorter_ok hg hi hj
  obtain ⟨w, l, hw⟩ : ∃ w l, (shortG g i).ws = w :: l := by
    cases hq : (shortG g i).ws with
    | nil => exact absurd hq h
    | cons w l => exact ⟨w, l, rfl⟩
  rw [show okT (shortG g i) = .t [.g (gR (shortG g i) 1), .c (.int .i64 0)] by rw [okT, hw], show tameH (shortG g i) = [(1, .row 60 2 (ints (fl (shortG g i).ws)))] by rw [tameH, hw], show tameK (shortG g i) = 2 by rw [tameK, hw]] at this
  exact FDet.post this _ _ ⟨.inr ⟨rfl, rfl, rfl, ⟨⟨rfl, rfl, rfl⟩, trivial⟩, trivial⟩, rfl, trivial⟩ ⟨⟨⟨rfl, rfl⟩, .inl rfl⟩, trivial⟩ (by
    intro e he
    simp only [List.mem_cons, List.not_mem_nil, or_false] at he
    rcases he with rfl | rfl
    · exact gC_LL (.inl (by decide))
    · trivial) (by simp [tupA, hpLt, tmLt, AV.lt, AE.lt, AC.lt, LL_cons, LL_nil, idOk, ABlk.lt, ints_LL, GB, tab64_LL, gC, wB, giC, noneB, gst, tC, pC, gN, gR, rC, rB, zeroT]) rfl
end Go.Proofs.YtfphkpdobbffeaaDoor

/-
  The law SwitchPositions, as a contract.
-/
namespace Go.Proofs.YtfphkpdobbffeaaDoor
open Go Go.AH
set_option maxRecDepth 100000
set_option maxHeartbeats 1000000

end Go.Proofs.YtfphkpdobbffeaaDoor

/-
  Contracts: who wins by the reference, with what is known as a law.
-/
namespace Go.Proofs.YtfphkpdobbffeaaDoor
open Go Go.AH
set_option maxRecDepth 100000
set_option maxHeartbeats 1000000

/-- Cells of what is known. -/
def KIc (g : Gm) (cs : List AC) : Prop := ∃ L, KI g L ∧ cs = ints L
end Go.Proofs.YtfphkpdobbffeaaDoor

/-
  Contracts: a list of wires as a set, by the program and by the reference.
-/
namespace Go.Proofs.YtfphkpdobbffeaaDoor
open Go Go.AH
set_option maxRecDepth 100000
set_option maxHeartbeats 1000000

/-- The first elements rise, and are wires. -/
def risTo (n : Nat) (L : List Int) : Nat → Bool
  | 0 => true
  | i + 1 => risTo n L i && (decide (0 ≤ L.getD i 0) && (decide (L.getD i 0 < n) && (decide (i = 0) || decide (L.getD (i - 1) 0 < L.getD i 0))))
theorem risTo_succ (n : Nat) (L : List Int) (i : Nat) : risTo n L (i + 1) = true ↔ risTo n L i = true ∧ 0 ≤ L.getD i 0 ∧ L.getD i 0 < n ∧ (i = 0 ∨ L.getD (i - 1) 0 < L.getD i 0) := by
  simp [risTo]
theorem risTo_up {n : Nat} {L : List Int} {i : Nat} (h : risTo n L i = false) : ∀ j, i ≤ j → risTo n L j = false := by
  intro j hj
  induction j with
  | zero => obtain rfl : i = 0 := by omega
            exact h
  | succ j ih =>
    by_cases e : i = j + 1
    · exact e ▸ h
    · rw [risTo, ih (by omega)]; rfl
def setToL (L : List Int) : Nat → Nat
  | 0 => 0
  | i + 1 => setToL L i ||| 2 ^ (L.getD i 0).toNat
theorem setToL_lt {n : Nat} {L : List Int} : ∀ i, risTo n L i = true → setToL L i < 2 ^ n
  | 0, _ => Nat.pow_pos (by omega)
  | i + 1, h => by
    obtain ⟨h1, h2, h3, _⟩ := (risTo_succ n L i).1 h
    exact or_lt (setToL_lt i h1) ((Nat.pow_lt_pow_iff_right (by omega)).2 (by omega))
def lastOf (L : List Int) (i : Nat) : Int := if i = 0 then -1 else L.getD (i - 1) 0
theorem set_spec {g : Gm} (hg : g.ok) (L : List Int) (hL : L.length ≤ 1000) : FDet Tryd.prog 97 [.g (gC g 0), .c (.rs 1 0 L.length)] [(0, wB g), (1, .ro (ints L))] 2
    (.t [.c (.int .i64 (cond (risTo g.ws.length L L.length) (setToL L L.length) 0 : Nat)), .c (.bool (risTo g.ws.length L L.length))]) [] 2 := by
  have hgl := hg.len
  refine FSpec.of_body tok true Tryd.func97 rfl (by kernel_rfl) (by decide) (by simp [tupA, hpLt, tmLt, AV.lt, AE.lt, AC.lt, LL_cons, LL_nil, idOk, ABlk.lt, ints_LL, GB, tab64_LL, gC, wB, giC, noneB, gst, tC, pC]) (by simp [tupA, hpLt, tmLt, AV.lt, AE.lt, AC.lt, LL_cons, LL_nil, idOk, ABlk.lt, ints_LL, GB, tab64_LL, gC, wB, giC, noneB, gst, tC, pC]) (by show 2 ≤ _; decide) ?_
  refine Wk.on ?_
  refine Tr.loop (md := true) (X := Nat) (st := fun i => ⟨[(2, .c (.ptr 2 0)), (10, .c (.rs 1 0 L.length)), (11, .c (.int .i64 L.length)), (12, .c (.int .i64 i)), (6, .c (.int .i64 (setToL L i))), (7, .c (.int .i64 (lastOf L i)))], [(2, .own (gC g 0)), (0, wB g), (1, .ro (ints L))], 3, 34, 2⟩) (inv := fun i => i ≤ L.length ∧ risTo g.ws.length L i = true) (μ := fun i => L.length - i) (x0 := 0) (l := []) tok ⟨Nat.zero_le _, rfl⟩ ?_ ?_
  · exact Sub.nil ⟨rfl, rfl, (by simp [tab64_LL, gC, wB, giC, noneB, gst, tC, pC]), rfl, (by simp [tupA, hpLt, tmLt, AV.lt, AE.lt, AC.lt, LL_cons, LL_nil, idOk, ABlk.lt, ints_LL, GB, tab64_LL, gC, wB, giC, noneB, gst, tC, pC]), (by simp [tupA, hpLt, tmLt, AV.lt, AE.lt, AC.lt, LL_cons, LL_nil, idOk, ABlk.lt, ints_LL, GB, tab64_LL, gC, wB, giC, noneB, gst, tC, pC])⟩ (by (repeat (first | exact trivial | refine ⟨trivial, ?_⟩ | refine ⟨rfl, ?_⟩))) (by (repeat (first | exact trivial | refine ⟨trivial, ?_⟩ | refine ⟨rfl, ?_⟩)))
  · rintro i ⟨hi, hr⟩
    have hsl := setToL_lt i hr
    have hlow : -1 ≤ lastOf L i := by
      unfold lastOf
      split
      · omega
      · obtain ⟨j, rfl⟩ : ∃ j, i = j + 1 := ⟨i - 1, by omega⟩
        have := ((risTo_succ _ L j).1 hr).2.1
        rw [Nat.add_sub_cancel]; omega
    by_cases hil : i < L.length
    · have hnx := risTo_succ g.ws.length L i
      have hla : lastOf L (i + 1) = L.getD i 0 := by simp [lastOf]
      have hss : setToL L (i + 1) = setToL L i ||| 2 ^ (L.getD i 0).toNat := rfl
      have hat : (ints L).getD (0 + (i : Int).toNat * 1) (.int .i64 0) = .int .i64 (L.getD i 0) := by rw [ints_getD, Int.toNat_natCast, Nat.mul_one, Nat.zero_add]
      have hfail : ¬ (lastOf L i < L.getD i 0 ∧ L.getD i 0 < g.ws.length) → risTo g.ws.length L L.length = false := fun h => by
        refine risTo_up (i := i + 1) ?_ _ (by omega)
        cases hq : risTo g.ws.length L (i + 1) with
        | false => rfl
        | true =>
          obtain ⟨_, h2, h3, h4⟩ := hnx.1 hq
          refine absurd ⟨?_, h3⟩ h
          unfold lastOf
          split
          · omega
          · rcases h4 with h4 | h4
            · omega
            · exact h4
      have hgo : lastOf L i < L.getD i 0 → L.getD i 0 < g.ws.length → risTo g.ws.length L (i + 1) = true := fun h1 h2 => by
        refine hnx.2 ⟨hr, by omega, h2, ?_⟩
        unfold lastOf at h1
        split at h1
        · exact .inl (by assumption)
        · exact .inr h1
      refine Wk.on ?_
      rw [decide_eq_true (show ((i : Nat) : Int) < ((L.length : Nat) : Int) by omega)]
      refine Wk.on ?_
      refine ⟨by rw [ints_len, Int.toNat_natCast]; omega, ?_⟩
      rw [hat]
      generalize hc : L.getD i 0 = c at *
      refine Wk.on ?_
      by_cases c1 : c ≤ lastOf L i
      · have hf := hfail (by omega)
        rw [hf, decide_eq_true c1]
        refine Wk.on ?_
        exact AH.Fin.nil [] ⟨rfl, rfl, rfl⟩ (by first | exact trivial | (simp [tupA, hpLt, tmLt, AV.lt, AE.lt, AC.lt, LL_cons, LL_nil, idOk, ABlk.lt, ints_LL, GB, tab64_LL, gC, wB, giC, noneB, gst, tC, pC]; done) | (simp [tupA, hpLt, tmLt, AV.lt, AE.lt, AC.lt, LL_cons, LL_nil, idOk, ABlk.lt, ints_LL, GB, tab64_LL, gC, wB, giC, noneB, gst, tC, pC, rdn, wrn]; done)) trivial trivial rfl (by simp [GB])
      rw [decide_eq_false c1]
      refine Wk.on ?_
      by_cases c2 : (g.ws.length : Int) ≤ c
      · have hf := hfail (by omega)
        rw [hf, decide_eq_true c2]
        refine Wk.on ?_
        exact AH.Fin.nil [] ⟨rfl, rfl, rfl⟩ (by first | exact trivial | (simp [tupA, hpLt, tmLt, AV.lt, AE.lt, AC.lt, LL_cons, LL_nil, idOk, ABlk.lt, ints_LL, GB, tab64_LL, gC, wB, giC, noneB, gst, tC, pC]; done) | (simp [tupA, hpLt, tmLt, AV.lt, AE.lt, AC.lt, LL_cons, LL_nil, idOk, ABlk.lt, ints_LL, GB, tab64_LL, gC, wB, giC, noneB, gst, tC, pC, rdn, wrn]; done)) trivial trivial rfl (by simp [GB])
      rw [decide_eq_false c2]
      have hgo2 := hgo (by omega) (by omega)
      obtain ⟨w, rfl⟩ : ∃ w : Nat, c = w := ⟨c.toNat, by omega⟩
      obtain ⟨q, hq⟩ : ∃ q, q = 2 ^ w := ⟨_, rfl⟩
      have hpi : q < 2048 := hq ▸ pow_small (by omega)
      have hp2 : 2 ^ g.ws.length ≤ 1024 := Nat.pow_le_pow_right (by omega) hgl
      rw [Int.toNat_natCast, ← hq] at hss
      refine Wk.on ?_
      rw [wrapU (by omega)]
      refine ⟨⟨by omega, by omega, by rw [shl1 hq]; unfold I64; omega⟩, ?_⟩
      rw [shl1 hq]
      refine Wk.on ?_
      refine Again.mk (i + 1) (Sub.nil ⟨rfl, rfl, (by simp [tab64_LL, gC, wB, giC, noneB, gst, tC, pC]), rfl, (by simp [tupA, hpLt, tmLt, AV.lt, AE.lt, AC.lt, LL_cons, LL_nil, idOk, ABlk.lt, ints_LL, GB, tab64_LL, gC, wB, giC, noneB, gst, tC, pC]), (by simp [tupA, hpLt, tmLt, AV.lt, AE.lt, AC.lt, LL_cons, LL_nil, idOk, ABlk.lt, ints_LL, GB, tab64_LL, gC, wB, giC, noneB, gst, tC, pC])⟩ ⟨rfl, rfl, rfl, rfl, by rw [hss]; rfl, by rw [hla]; rfl, trivial⟩ (by (repeat (first | exact trivial | refine ⟨trivial, ?_⟩ | refine ⟨rfl, ?_⟩)))) ⟨by omega, hgo2⟩ (by omega)
    · obtain rfl : i = L.length := by omega
      rw [hr]
      refine Wk.on ?_
      rw [decide_eq_false (show ¬ ((L.length : Nat) : Int) < ((L.length : Nat) : Int) by omega)]
      intro _
      refine Wk.on ?_
      exact AH.Fin.nil [] ⟨rfl, rfl, rfl⟩ (by first | exact trivial | (simp [tupA, hpLt, tmLt, AV.lt, AE.lt, AC.lt, LL_cons, LL_nil, idOk, ABlk.lt, ints_LL, GB, tab64_LL, gC, wB, giC, noneB, gst, tC, pC]; done) | (simp [tupA, hpLt, tmLt, AV.lt, AE.lt, AC.lt, LL_cons, LL_nil, idOk, ABlk.lt, ints_LL, GB, tab64_LL, gC, wB, giC, noneB, gst, tC, pC, rdn, wrn]; done)) trivial trivial rfl (by simp [GB])
end Go.Proofs.YtfphkpdobbffeaaDoor

/-
  Contracts: the places of a set, by the reference.
-/
namespace Go.Proofs.YtfphkpdobbffeaaDoor
open Go Go.AH
set_option maxRecDepth 100000
set_option maxHeartbeats 1000000

def placesTo (g : Gm) (a : Nat) (i : Nat) : Nat := (((List.range i).filter a.testBit).map Int.ofNat).foldl (placesF g) 0
end Go.Proofs.YtfphkpdobbffeaaDoor

/-
  Contracts: two lists as two trees, by the reference.
-/
namespace Go.Proofs.YtfphkpdobbffeaaDoor
open Go Go.AH
set_option maxRecDepth 100000
set_option maxHeartbeats 1000000

def setV (n : Nat) (L : List Int) : Nat := cond (risTo n L L.length) (setToL L L.length) 0
def setOk (n : Nat) (L : List Int) : Bool := risTo n L L.length
theorem setV_lt (n : Nat) (L : List Int) : setV n L < 2 ^ n := by
  unfold setV
  cases h : risTo n L L.length with
  | true => exact setToL_lt _ h
  | false => exact Nat.pow_pos (by omega)
/-- Two sets are two trees, for the reference. -/
def areR (g : Gm) (x y : Bool) (a b : Nat) : Bool := x && (y && (decide (a &&& b = 0) && (decide (bit (placesN g a) g.s = 1) && (decide (bit (placesN g a) g.t = 1) && (treeR g a (placesN g a) && treeR g b (placesN g a))))))
end Go.Proofs.YtfphkpdobbffeaaDoor
