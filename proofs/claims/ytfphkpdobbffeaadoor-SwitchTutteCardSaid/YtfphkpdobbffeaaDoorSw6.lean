/-
  Contract: the lists of a division, made.
-/
import Derived.Test.YtfphkpdobbffeaaDoorSw5
set_option linter.unusedSimpArgs false
set_option linter.unusedVariables false
namespace Go.Proofs.YtfphkpdobbffeaaDoor
open Go Go.AH
set_option maxRecDepth 100000
set_option maxHeartbeats 4000000

def rwC : Nat → List (List Int) → List AC
  | _, [] => []
  | j, a :: V => .row (6 + j) a.length :: rwC (j + 1) V
def rwH : Nat → List (List Int) → List (Nat × ABlk)
  | _, [] => []
  | j, a :: V => (6 + j, .row 3 1 (ints a)) :: rwH (j + 1) V
theorem rep_nils : ∀ M : Nat, rep M [AC.nils] = List.replicate M .nils
  | 0 => rfl
  | M + 1 => by rw [List.replicate_succ, ← rep_nils M]; rfl
theorem wk_tail (hp : List (Nat × ABlk)) (f : Nat → Nat) : ∀ q : Nat, wkL hp (List.replicate q .nils) ((List.replicate q .nils).map (AC.ren f))
  | 0 => trivial
  | q + 1 => ⟨rfl, wk_tail hp f q⟩
theorem app_in (a : List Int) (p : Int) : (ints a).take (0 * 1 + a.length * 1) ++ [.int .i64 p] ++ (ints a).drop (0 * 1 + a.length * 1 + 1 * 1) = ints (a ++ [p]) := by
  have h : (ints a).length = a.length := ints_len a
  rw [Nat.zero_mul, Nat.zero_add, Nat.mul_one, List.take_of_length_le (by omega), List.drop_of_length_le (by omega), List.append_nil]
  simp [ints]
theorem app_new (a : List Int) (p : Int) : ((ints a).drop (0 * 1)).take (a.length * 1) ++ [.int .i64 p] = ints (a ++ [p]) := by
  have h : (ints a).length = a.length := ints_len a
  rw [Nat.zero_mul, Nat.mul_one, List.drop_zero, List.take_of_length_le (by omega)]
  simp [ints]
theorem row_len (i : Nat) (a : List Int) (p : Int) : AC.row i (a.length + 1) = .row i (a ++ [p]).length := by rw [List.length_append]; rfl
theorem nils_LL (n : Nat) : ∀ q : Nat, LL n (List.replicate q .nils) ↔ True
  | 0 => by simp [LL_nil]
  | q + 1 => by rw [List.replicate_succ, LL_cons, nils_LL n q]; exact ⟨fun _ => trivial, fun _ => ⟨trivial, trivial⟩⟩
def putB (g : Gm) (w : Nat → Nat) : List (Nat × ABlk) := [(0, wB g), (1, .ro (gC g 0)), (2, .own (ints (wL w))), (3, .own [.nils]), (4, .ro [.fn 66 [] [1, 2, 3, 4]])]
def putS (g : Gm) (w : Nat → Nat) (M : Nat) (x : Nat × Nat × List (List Int)) : AS :=
  ⟨[(2, .c (.ptr 1 0)), (3, .c (.ptr 2 0)), (4, .c (.ptr 3 0)), (31, .c (.sl 2 0 g.n (some 8))), (32, .c (.int .i64 g.n)), (33, .c (.int .i64 x.1))], (5, .own (rwC 0 x.2.2 ++ List.replicate x.2.1 .nils)) :: (3, .own [.sl 5 0 M (some M)]) :: (2, .own (ints (wL w))) :: (1, .ro (gC g 0)) :: (0, wB g) :: (4, .ro [.fn 66 [] [1, 2, 3, 4]]) :: rwH 0 x.2.2, 6 + x.2.2.length, 66, 5⟩
theorem leaf_no {g : Gm} (hg : g.ok) (w : Nat → Nat) (hb : ¬ Bar g w) : FDet Tryd.prog 66 [.c (.int .i64 g.n), .c (.int .i64 (mx w g.n : Nat)), .c (.ptr 1 0), .c (.ptr 2 0), .c (.ptr 3 0), .c (.ptr 4 0)] (putB g w) 5 (.c (.bool false)) [(2, .own (ints (wL w))), (3, .own [.nils])] 14 := by
  have h8 := hg.n8
  have hl := hg.len
  have hc10 : crN w g.ws ≤ 10 := Nat.le_trans List.countP_le_length hl
  have hW8 : (ints (wL w)).length = 8 := by rw [ints_len, wL_len]
  unfold Bar at hb
  refine FSpec.of_body tok true Tryd.func66 rfl (by kernel_rfl) (by decide) (by simp [tupA, hpLt, tmLt, AV.lt, AE.lt, AC.lt, LL_cons, LL_nil, idOk, ABlk.lt, ints_LL, GB, tab64_LL, gC, wB, giC, noneB, putB, putS, nils_LL, rwC, rwH, List.replicate]) (by simp [tupA, hpLt, tmLt, AV.lt, AE.lt, AC.lt, LL_cons, LL_nil, idOk, ABlk.lt, ints_LL, GB, tab64_LL, gC, wB, giC, noneB, putB, putS, nils_LL, rwC, rwH, List.replicate]) (by show 6 ≤ _; decide) ?_
  refine Wk.on ?_
  rw [decide_eq_true (show ((g.n : Nat) : Int) = ((g.n : Nat) : Int) from rfl)]
  refine Wk.on ?_
  by_cases h2 : mx w g.n < 2
  · rw [decide_eq_true (show ((mx w g.n : Nat) : Int) < 2 by omega)]
    refine Wk.on ?_
    exact AH.Fin.new [5, 6, 7, 8, 9, 10, 11, 12, 13] _ _ ⟨rfl, rfl, rfl⟩ rfl ⟨by show some (ABlk.own _) = some (ABlk.own ((ints _).map _)); rw [ints_ren], rfl, trivial⟩ rfl (by simp [tupA, hpLt, tmLt, AV.lt, AE.lt, AC.lt, LL_cons, LL_nil, idOk, ABlk.lt, ints_LL, GB, tab64_LL, gC, wB, giC, noneB, putB, putS, nils_LL, rwC, rwH, List.replicate]) (by simp [tupA, hpLt, tmLt, AV.lt, AE.lt, AC.lt, LL_cons, LL_nil, idOk, ABlk.lt, ints_LL, GB, tab64_LL, gC, wB, giC, noneB, putB, putS, nils_LL, rwC, rwH, List.replicate])
  · rw [decide_eq_false (show ¬ ((mx w g.n : Nat) : Int) < 2 by omega)]
    refine Wk.on ?_
    refine CallA.ro [0] (.c (.int .i64 (crN w g.ws : Nat))) (between_spec hg w) (by first | rfl | exact congrArg AV.g (ints_ren _ _) | (simp [ints_ren, AV.ren, ABlk.ren, AC.ren, AE.ren, qq]; done)) rfl (by (repeat (first | exact trivial | refine ⟨⟨(by first | exact .inl (by decide) | exact .inr (by decide)), (by first | (refine Or.inl ?_; first | rfl | exact congrArg some (ints_ren _ _).symm | exact congrArg ABlk.own (ints_ren _ _).symm | exact congrArg some (tab64_ren _).symm) | rfl | exact congrArg some (ints_ren _ _).symm | exact congrArg ABlk.own (ints_ren _ _).symm | exact congrArg some (tab64_ren _).symm | exact Or.inr ⟨rfl, rfl⟩)⟩, ?_⟩))) (by first | rfl | exact congrArg AV.g (ints_ren _ _) | (simp [ints_ren, AV.ren, ABlk.ren, AC.ren, AE.ren, qq]; done)) ?_
    refine Wk.on ?_
    rw [decide_eq_true (show 2 * (((mx w g.n : Nat) : Int) - 1) ≤ ((crN w g.ws : Nat) : Int) by omega)]
    refine Wk.on ?_
    exact AH.Fin.new [5, 6, 7, 8, 9, 10, 11, 12, 13] _ _ ⟨rfl, rfl, rfl⟩ rfl ⟨by show some (ABlk.own _) = some (ABlk.own ((ints _).map _)); rw [ints_ren], rfl, trivial⟩ rfl (by simp [tupA, hpLt, tmLt, AV.lt, AE.lt, AC.lt, LL_cons, LL_nil, idOk, ABlk.lt, ints_LL, GB, tab64_LL, gC, wB, giC, noneB, putB, putS, nils_LL, rwC, rwH, List.replicate]) (by simp [tupA, hpLt, tmLt, AV.lt, AE.lt, AC.lt, LL_cons, LL_nil, idOk, ABlk.lt, ints_LL, GB, tab64_LL, gC, wB, giC, noneB, putB, putS, nils_LL, rwC, rwH, List.replicate])
theorem leaf_yes {g : Gm} (hg : g.ok) (w : Nat → Nat) (hr : RG w g.n) (hb : Bar g w) : FDet Tryd.prog 66 [.c (.int .i64 g.n), .c (.int .i64 (mx w g.n : Nat)), .c (.ptr 1 0), .c (.ptr 2 0), .c (.ptr 3 0), .c (.ptr 4 0)] (putB g w) 5 (.c (.bool true)) ((2, .own (ints (wL w))) :: (3, .own [.sl 5 0 (mx w g.n) (some (mx w g.n))]) :: (5, .own (rwC 0 (LV w g.n))) :: rwH 0 (LV w g.n)) 14 := by
  have h8 := hg.n8
  have hl := hg.len
  have hc10 : crN w g.ws ≤ 10 := Nat.le_trans List.countP_le_length hl
  have hW8 : (ints (wL w)).length = 8 := by rw [ints_len, wL_len]
  have hM8 := mx_le hr g.n (by omega)
  obtain ⟨hb1, hb2⟩ := hb
  have hfin : LV w g.n = LV w g.n := rfl
  have hsucc : ∀ p, p < g.n → mx w (p + 1) ≤ mx w g.n := fun p hp => mx_mono _ hp
  obtain ⟨M, hM⟩ : ∃ M, M = mx w g.n := ⟨_, rfl⟩
  rw [← hM] at hb1 hb2 hM8 hsucc ⊢
  refine FSpec.of_body tok true Tryd.func66 rfl (by kernel_rfl) (by decide) (by simp [tupA, hpLt, tmLt, AV.lt, AE.lt, AC.lt, LL_cons, LL_nil, idOk, ABlk.lt, ints_LL, GB, tab64_LL, gC, wB, giC, noneB, putB, putS, nils_LL, rwC, rwH, List.replicate]) (by simp [tupA, hpLt, tmLt, AV.lt, AE.lt, AC.lt, LL_cons, LL_nil, idOk, ABlk.lt, ints_LL, GB, tab64_LL, gC, wB, giC, noneB, putB, putS, nils_LL, rwC, rwH, List.replicate]) (by show 6 ≤ _; decide) ?_
  refine Wk.on ?_
  rw [decide_eq_true (show ((g.n : Nat) : Int) = ((g.n : Nat) : Int) from rfl)]
  refine Wk.on ?_
  rw [decide_eq_false (show ¬ ((M : Nat) : Int) < 2 by omega)]
  refine Wk.on ?_
  refine CallA.ro [0] (.c (.int .i64 (crN w g.ws : Nat))) (between_spec hg w) (by first | rfl | exact congrArg AV.g (ints_ren _ _) | (simp [ints_ren, AV.ren, ABlk.ren, AC.ren, AE.ren, qq]; done)) rfl (by (repeat (first | exact trivial | refine ⟨⟨(by first | exact .inl (by decide) | exact .inr (by decide)), (by first | (refine Or.inl ?_; first | rfl | exact congrArg some (ints_ren _ _).symm | exact congrArg ABlk.own (ints_ren _ _).symm | exact congrArg some (tab64_ren _).symm) | rfl | exact congrArg some (ints_ren _ _).symm | exact congrArg ABlk.own (ints_ren _ _).symm | exact congrArg some (tab64_ren _).symm | exact Or.inr ⟨rfl, rfl⟩)⟩, ?_⟩))) (by first | rfl | exact congrArg AV.g (ints_ren _ _) | (simp [ints_ren, AV.ren, ABlk.ren, AC.ren, AE.ren, qq]; done)) ?_
  refine Wk.on ?_
  rw [decide_eq_false (show ¬ 2 * (((M : Nat) : Int) - 1) ≤ ((crN w g.ws : Nat) : Int) by omega)]
  refine Wk.on ?_
  refine ⟨⟨Nat.le_of_ble_eq_true rfl, Nat.le_of_ble_eq_true rfl, rfl, by omega, rfl, by show (24 : Int) * (M : Int) ≤ _; omega, by omega⟩, ?_⟩
  refine Wk.on ?_
  refine ⟨⟨by decide, by show (0 : Int) ≤ (g.n : Int); omega, .inl (by show (g.n : Int) ≤ 8; omega)⟩, ?_⟩
  refine Wk.on ?_
  refine Tr.loop (md := true) (X := Nat × Nat × List (List Int)) (st := putS g w M) (inv := fun x => x.1 ≤ g.n ∧ x.2.2 = LV w x.1 ∧ x.2.2.length + x.2.1 = M) (μ := fun x => g.n - x.1) (x0 := (0, M, [])) (l := []) tok ⟨by omega, rfl, by simp⟩ ?_ ?_
  · exact Sub.nil ⟨rfl, rfl, ⟨Nat.le_of_ble_eq_true rfl, Nat.le_of_ble_eq_true rfl⟩, rfl, (by simp [tupA, hpLt, tmLt, AV.lt, AE.lt, AC.lt, LL_cons, LL_nil, idOk, ABlk.lt, ints_LL, GB, tab64_LL, gC, wB, giC, noneB, putB, putS, nils_LL, rwC, rwH, List.replicate]), (by simp [tupA, hpLt, tmLt, AV.lt, AE.lt, AC.lt, LL_cons, LL_nil, idOk, ABlk.lt, ints_LL, GB, tab64_LL, gC, wB, giC, noneB, putB, putS, nils_LL, rwC, rwH, List.replicate])⟩ (by (repeat (first | exact trivial | refine ⟨trivial, ?_⟩ | refine ⟨rfl, ?_⟩))) ⟨congrArg ABlk.own (rep_nils M), rfl, rfl, rfl, rfl, rfl, trivial⟩
  · rintro ⟨pos, q, V⟩ ⟨h1, h2, h3⟩
    dsimp only at h1 h2 h3
    by_cases hp : pos < g.n
    · have hrp := hr pos hp
      have hput := LV_succ hrp
      have hVm : ∀ a ∈ V, a.length ≤ 8 := fun a ha => by have := LV_mem (h2 ▸ ha); omega
      have hVl : V.length = mx w pos := by rw [h2, LV_len]
      have hVp : mx w pos ≤ pos := mx_le hr pos (by omega)
      have hs1 := hsucc pos hp
      have hget := wL_get2 w (i := pos) (by omega)
      rw [← h2] at hput
      have hmx : mx w (pos + 1) = max (mx w pos) (w pos + 1) := rfl
      generalize w pos = l at hput hget hrp hmx
      rw [hmx, ← hVl] at hs1
      rw [← hVl] at hrp hVp
      clear h2 hmx hVl hfin hb2 hc10
      rcases V with _ | ⟨a0, V⟩
      · rcases l with _ | l
        · simp only [List.length_cons, List.length_nil] at hrp hs1 hVp h3
          rcases q with _ | q
          · omega
          simp only [putS, rwC, rwH, List.cons_append, List.nil_append, List.length_cons, List.length_nil, Nat.reduceAdd]
          have hg2 : (ints (wL w)).getD (0 + pos * 1) (.int .i64 0) = .int .i64 (0 : Int) := hget
          refine Wk.on ?_
          rw [decide_eq_true (show ((pos : Nat) : Int) < ((g.n : Nat) : Int) by omega)]
          refine Wk.on ?_
          rw [Int.toNat_natCast, hg2]
          refine Wk.on ?_
          refine Tr.draw (md := true) [⟨[], [39, 40, 41, 42, 43, 44, 45, 46], [], [], []⟩, ⟨[], [38, 40, 41, 42, 43, 44, 45, 46], [0], [], []⟩, ⟨[], [38, 39, 41, 44, 45], [0, 1], [], []⟩, ⟨[], [38, 39, 40, 44, 45], [0, 1, 2], [], []⟩, ⟨[2, 3], [38, 39, 44, 45], [0, 1], [], []⟩, ⟨[2, 3, 4], [38, 39, 44, 45], [0, 1], [], []⟩, ⟨[], [38, 39, 40, 41, 42, 43], [0, 1, 2, 3, 4, 5], [], []⟩, ⟨[6], [38, 39, 40, 41, 42, 43], [0, 1, 2, 3, 4, 5], [], []⟩, ⟨[2, 3, 4, 5, 6, 7], [38, 39], [0, 1], [], []⟩] tok (by kernel_rfl) (by kernel_rfl) ?_
          refine Wk.on ?_
          exact Again.under (pos + 1, q, [[(pos : Int)]]) (Under.wk [(6, 7)] ⟨rfl, rfl, Nat.le_of_ble_eq_true rfl, Nat.le_of_ble_eq_true rfl⟩ rfl ⟨Or.inl rfl, Or.inl rfl, Or.inl rfl, Or.inl rfl, Or.inl rfl, Or.inl rfl, trivial⟩ ⟨Or.inr (Or.inl (Or.inr ⟨rfl, wk_tail _ _ q⟩)), Or.inl rfl, Or.inl (congrArg ABlk.own (ints_ren _ _).symm), Or.inl rfl, Or.inl (congrArg ABlk.ro (ints_ren _ _).symm), Or.inl rfl, Or.inl rfl, trivial⟩ rfl (by simp [tupA, hpLt, tmLt, AV.lt, AE.lt, AC.lt, LL_cons, LL_nil, idOk, ABlk.lt, ints_LL, GB, tab64_LL, gC, wB, giC, noneB, putB, putS, nils_LL, rwC, rwH, List.replicate]) (by simp [tupA, hpLt, tmLt, AV.lt, AE.lt, AC.lt, LL_cons, LL_nil, idOk, ABlk.lt, ints_LL, GB, tab64_LL, gC, wB, giC, noneB, putB, putS, nils_LL, rwC, rwH, List.replicate])) ⟨by show pos + 1 ≤ g.n; omega, hput.symm, by simp only [List.length_cons, List.length_nil]; omega⟩ (by show g.n - (pos + 1) < g.n - pos; omega)
        simp only [List.length_cons, List.length_nil] at hrp
        omega
      rcases V with _ | ⟨a1, V⟩
      · rcases l with _ | l
        · simp only [List.length_cons, List.length_nil] at hrp hs1 hVp h3
          have hal : a0.length ≤ 8 := hVm _ (by simp)
          simp only [putS, rwC, rwH, List.cons_append, List.nil_append, List.length_cons, List.length_nil, Nat.reduceAdd]
          have hg2 : (ints (wL w)).getD (0 + pos * 1) (.int .i64 0) = .int .i64 (0 : Int) := hget
          refine Wk.on ?_
          rw [decide_eq_true (show ((pos : Nat) : Int) < ((g.n : Nat) : Int) by omega)]
          refine Wk.on ?_
          rw [Int.toNat_natCast, hg2]
          refine Wk.on ?_
          refine Tr.cap 5 0 1 rfl rfl fun c hc => ?_
          refine Tr.draw (md := true) [⟨[], [39, 40, 41, 42, 43, 44, 45, 46], [], [], [6]⟩, ⟨[], [38, 40, 41, 42, 43, 44, 45, 46], [0], [], [6]⟩, ⟨[], [38, 39, 41, 44, 45], [0, 1], [], []⟩, ⟨[], [38, 39, 40, 44, 45], [0, 1, 2], [], []⟩, ⟨[2, 3], [38, 39, 44, 45], [0, 1], [], []⟩, ⟨[2, 3, 4], [38, 39, 44, 45], [0, 1], [], []⟩, ⟨[], [38, 39, 40, 41, 42, 43], [0, 1, 2, 3, 4, 5], [], []⟩, ⟨[6], [38, 39, 40, 41, 42, 43], [0, 1, 2, 3, 4, 5], [], []⟩, ⟨[2, 3, 4, 5, 6, 7], [38, 39], [0, 1], [6], []⟩] tok (by kernel_rfl) (by kernel_rfl) ?_
          refine Wk.on ?_
          refine ⟨⟨rfl, rfl, rfl, by rw [ints_len]; omega⟩, fun hin => ?_, fun hnew => ?_⟩
          · refine Wk.on ?_
            exact Again.under (pos + 1, q, [a0 ++ [(pos : Int)]]) (Under.wk [] ⟨rfl, rfl, Nat.le_of_ble_eq_true rfl, Nat.le_of_ble_eq_true rfl⟩ rfl ⟨Or.inl rfl, Or.inl rfl, Or.inl rfl, Or.inl rfl, Or.inl rfl, Or.inl rfl, trivial⟩ ⟨Or.inr (Or.inl (Or.inr ⟨⟨rfl, rfl, by simp⟩, wk_tail _ _ q⟩)), Or.inl rfl, Or.inl (congrArg ABlk.own (ints_ren _ _).symm), Or.inl rfl, Or.inl (congrArg ABlk.ro (ints_ren _ _).symm), Or.inl rfl, Or.inl ((congrArg (ABlk.row 3 1) (app_in a0 pos)).trans (congrArg (ABlk.row 3 1) (ints_ren _ _).symm)), trivial⟩ rfl (by simp [tupA, hpLt, tmLt, AV.lt, AE.lt, AC.lt, LL_cons, LL_nil, idOk, ABlk.lt, ints_LL, GB, tab64_LL, gC, wB, giC, noneB, putB, putS, nils_LL, rwC, rwH, List.replicate]) (by simp [tupA, hpLt, tmLt, AV.lt, AE.lt, AC.lt, LL_cons, LL_nil, idOk, ABlk.lt, ints_LL, GB, tab64_LL, gC, wB, giC, noneB, putB, putS, nils_LL, rwC, rwH, List.replicate])) ⟨by show pos + 1 ≤ g.n; omega, hput.symm, by simp only [List.length_cons, List.length_nil]; omega⟩ (by show g.n - (pos + 1) < g.n - pos; omega)
          · refine ⟨⟨Nat.le_of_ble_eq_true rfl, by show ((a0.length + 1 : Nat) : Int) * 8 ≤ _; omega, by omega⟩, ?_⟩
            refine Wk.on ?_
            exact Again.under (pos + 1, q, [a0 ++ [(pos : Int)]]) (Under.wk [(6, 8)] ⟨rfl, rfl, Nat.le_of_ble_eq_true rfl, Nat.le_of_ble_eq_true rfl⟩ rfl ⟨Or.inl rfl, Or.inl rfl, Or.inl rfl, Or.inl rfl, Or.inl rfl, Or.inl rfl, trivial⟩ ⟨Or.inr (Or.inl (Or.inr ⟨row_len _ _ _, wk_tail _ _ q⟩)), Or.inl rfl, Or.inl (congrArg ABlk.own (ints_ren _ _).symm), Or.inl rfl, Or.inl (congrArg ABlk.ro (ints_ren _ _).symm), Or.inl rfl, Or.inl ((congrArg (ABlk.row 3 1) (app_new a0 pos)).trans (congrArg (ABlk.row 3 1) (ints_ren _ _).symm)), trivial⟩ rfl (by simp [tupA, hpLt, tmLt, AV.lt, AE.lt, AC.lt, LL_cons, LL_nil, idOk, ABlk.lt, ints_LL, GB, tab64_LL, gC, wB, giC, noneB, putB, putS, nils_LL, rwC, rwH, List.replicate]) (by simp [tupA, hpLt, tmLt, AV.lt, AE.lt, AC.lt, LL_cons, LL_nil, idOk, ABlk.lt, ints_LL, GB, tab64_LL, gC, wB, giC, noneB, putB, putS, nils_LL, rwC, rwH, List.replicate])) ⟨by show pos + 1 ≤ g.n; omega, hput.symm, by simp only [List.length_cons, List.length_nil]; omega⟩ (by show g.n - (pos + 1) < g.n - pos; omega)
        rcases l with _ | l
        · simp only [List.length_cons, List.length_nil] at hrp hs1 hVp h3
          rcases q with _ | q
          · omega
          simp only [putS, rwC, rwH, List.cons_append, List.nil_append, List.length_cons, List.length_nil, Nat.reduceAdd]
          have hg2 : (ints (wL w)).getD (0 + pos * 1) (.int .i64 0) = .int .i64 (1 : Int) := hget
          refine Wk.on ?_
          rw [decide_eq_true (show ((pos : Nat) : Int) < ((g.n : Nat) : Int) by omega)]
          refine Wk.on ?_
          rw [Int.toNat_natCast, hg2]
          refine Wk.on ?_
          refine Tr.draw (md := true) [⟨[], [39, 40, 41, 42, 43, 44, 45, 46], [], [], []⟩, ⟨[], [38, 40, 41, 42, 43, 44, 45, 46], [0], [], []⟩, ⟨[], [38, 39, 41, 44, 45], [0, 1], [], []⟩, ⟨[], [38, 39, 40, 44, 45], [0, 1, 2], [], []⟩, ⟨[2, 3], [38, 39, 44, 45], [0, 1], [], []⟩, ⟨[2, 3, 4], [38, 39, 44, 45], [0, 1], [], []⟩, ⟨[], [38, 39, 40, 41, 42, 43], [0, 1, 2, 3, 4, 5], [], []⟩, ⟨[6], [38, 39, 40, 41, 42, 43], [0, 1, 2, 3, 4, 5], [], []⟩, ⟨[2, 3, 4, 5, 6, 7], [38, 39], [0, 1], [], []⟩] tok (by kernel_rfl) (by kernel_rfl) ?_
          refine Wk.on ?_
          exact Again.under (pos + 1, q, [a0, [(pos : Int)]]) (Under.wk [(7, 8)] ⟨rfl, rfl, Nat.le_of_ble_eq_true rfl, Nat.le_of_ble_eq_true rfl⟩ rfl ⟨Or.inl rfl, Or.inl rfl, Or.inl rfl, Or.inl rfl, Or.inl rfl, Or.inl rfl, trivial⟩ ⟨Or.inr (Or.inl (Or.inr ⟨rfl, rfl, wk_tail _ _ q⟩)), Or.inl rfl, Or.inl (congrArg ABlk.own (ints_ren _ _).symm), Or.inl rfl, Or.inl (congrArg ABlk.ro (ints_ren _ _).symm), Or.inl rfl, Or.inl (congrArg (ABlk.row 3 1) (ints_ren _ _).symm), Or.inl rfl, trivial⟩ rfl (by simp [tupA, hpLt, tmLt, AV.lt, AE.lt, AC.lt, LL_cons, LL_nil, idOk, ABlk.lt, ints_LL, GB, tab64_LL, gC, wB, giC, noneB, putB, putS, nils_LL, rwC, rwH, List.replicate]) (by simp [tupA, hpLt, tmLt, AV.lt, AE.lt, AC.lt, LL_cons, LL_nil, idOk, ABlk.lt, ints_LL, GB, tab64_LL, gC, wB, giC, noneB, putB, putS, nils_LL, rwC, rwH, List.replicate])) ⟨by show pos + 1 ≤ g.n; omega, hput.symm, by simp only [List.length_cons, List.length_nil]; omega⟩ (by show g.n - (pos + 1) < g.n - pos; omega)
        simp only [List.length_cons, List.length_nil] at hrp
        omega
      rcases V with _ | ⟨a2, V⟩
      · rcases l with _ | l
        · simp only [List.length_cons, List.length_nil] at hrp hs1 hVp h3
          have hal : a0.length ≤ 8 := hVm _ (by simp)
          simp only [putS, rwC, rwH, List.cons_append, List.nil_append, List.length_cons, List.length_nil, Nat.reduceAdd]
          have hg2 : (ints (wL w)).getD (0 + pos * 1) (.int .i64 0) = .int .i64 (0 : Int) := hget
          refine Wk.on ?_
          rw [decide_eq_true (show ((pos : Nat) : Int) < ((g.n : Nat) : Int) by omega)]
          refine Wk.on ?_
          rw [Int.toNat_natCast, hg2]
          refine Wk.on ?_
          refine Tr.cap 5 0 1 rfl rfl fun c hc => ?_
          refine Tr.draw (md := true) [⟨[], [39, 40, 41, 42, 43, 44, 45, 46], [], [], [6]⟩, ⟨[], [38, 40, 41, 42, 43, 44, 45, 46], [0], [], [6]⟩, ⟨[], [38, 39, 41, 44, 45], [0, 1], [], []⟩, ⟨[], [38, 39, 40, 44, 45], [0, 1, 2], [], []⟩, ⟨[2, 3], [38, 39, 44, 45], [0, 1], [], []⟩, ⟨[2, 3, 4], [38, 39, 44, 45], [0, 1], [], []⟩, ⟨[], [38, 39, 40, 41, 42, 43], [0, 1, 2, 3, 4, 5], [], []⟩, ⟨[6], [38, 39, 40, 41, 42, 43], [0, 1, 2, 3, 4, 5], [], []⟩, ⟨[2, 3, 4, 5, 6, 7], [38, 39], [0, 1], [6], []⟩] tok (by kernel_rfl) (by kernel_rfl) ?_
          refine Wk.on ?_
          refine ⟨⟨rfl, rfl, rfl, by rw [ints_len]; omega⟩, fun hin => ?_, fun hnew => ?_⟩
          · refine Wk.on ?_
            exact Again.under (pos + 1, q, [a0 ++ [(pos : Int)], a1]) (Under.wk [] ⟨rfl, rfl, Nat.le_of_ble_eq_true rfl, Nat.le_of_ble_eq_true rfl⟩ rfl ⟨Or.inl rfl, Or.inl rfl, Or.inl rfl, Or.inl rfl, Or.inl rfl, Or.inl rfl, trivial⟩ ⟨Or.inr (Or.inl (Or.inr ⟨⟨rfl, rfl, by simp⟩, rfl, wk_tail _ _ q⟩)), Or.inl rfl, Or.inl (congrArg ABlk.own (ints_ren _ _).symm), Or.inl rfl, Or.inl (congrArg ABlk.ro (ints_ren _ _).symm), Or.inl rfl, Or.inl ((congrArg (ABlk.row 3 1) (app_in a0 pos)).trans (congrArg (ABlk.row 3 1) (ints_ren _ _).symm)), Or.inl (congrArg (ABlk.row 3 1) (ints_ren _ _).symm), trivial⟩ rfl (by simp [tupA, hpLt, tmLt, AV.lt, AE.lt, AC.lt, LL_cons, LL_nil, idOk, ABlk.lt, ints_LL, GB, tab64_LL, gC, wB, giC, noneB, putB, putS, nils_LL, rwC, rwH, List.replicate]) (by simp [tupA, hpLt, tmLt, AV.lt, AE.lt, AC.lt, LL_cons, LL_nil, idOk, ABlk.lt, ints_LL, GB, tab64_LL, gC, wB, giC, noneB, putB, putS, nils_LL, rwC, rwH, List.replicate])) ⟨by show pos + 1 ≤ g.n; omega, hput.symm, by simp only [List.length_cons, List.length_nil]; omega⟩ (by show g.n - (pos + 1) < g.n - pos; omega)
          · refine ⟨⟨Nat.le_of_ble_eq_true rfl, by show ((a0.length + 1 : Nat) : Int) * 8 ≤ _; omega, by omega⟩, ?_⟩
            refine Wk.on ?_
            exact Again.under (pos + 1, q, [a0 ++ [(pos : Int)], a1]) (Under.wk [(6, 9)] ⟨rfl, rfl, Nat.le_of_ble_eq_true rfl, Nat.le_of_ble_eq_true rfl⟩ rfl ⟨Or.inl rfl, Or.inl rfl, Or.inl rfl, Or.inl rfl, Or.inl rfl, Or.inl rfl, trivial⟩ ⟨Or.inr (Or.inl (Or.inr ⟨row_len _ _ _, rfl, wk_tail _ _ q⟩)), Or.inl rfl, Or.inl (congrArg ABlk.own (ints_ren _ _).symm), Or.inl rfl, Or.inl (congrArg ABlk.ro (ints_ren _ _).symm), Or.inl rfl, Or.inl ((congrArg (ABlk.row 3 1) (app_new a0 pos)).trans (congrArg (ABlk.row 3 1) (ints_ren _ _).symm)), Or.inl (congrArg (ABlk.row 3 1) (ints_ren _ _).symm), trivial⟩ rfl (by simp [tupA, hpLt, tmLt, AV.lt, AE.lt, AC.lt, LL_cons, LL_nil, idOk, ABlk.lt, ints_LL, GB, tab64_LL, gC, wB, giC, noneB, putB, putS, nils_LL, rwC, rwH, List.replicate]) (by simp [tupA, hpLt, tmLt, AV.lt, AE.lt, AC.lt, LL_cons, LL_nil, idOk, ABlk.lt, ints_LL, GB, tab64_LL, gC, wB, giC, noneB, putB, putS, nils_LL, rwC, rwH, List.replicate])) ⟨by show pos + 1 ≤ g.n; omega, hput.symm, by simp only [List.length_cons, List.length_nil]; omega⟩ (by show g.n - (pos + 1) < g.n - pos; omega)
        rcases l with _ | l
        · simp only [List.length_cons, List.length_nil] at hrp hs1 hVp h3
          have hal : a1.length ≤ 8 := hVm _ (by simp)
          simp only [putS, rwC, rwH, List.cons_append, List.nil_append, List.length_cons, List.length_nil, Nat.reduceAdd]
          have hg2 : (ints (wL w)).getD (0 + pos * 1) (.int .i64 0) = .int .i64 (1 : Int) := hget
          refine Wk.on ?_
          rw [decide_eq_true (show ((pos : Nat) : Int) < ((g.n : Nat) : Int) by omega)]
          refine Wk.on ?_
          rw [Int.toNat_natCast, hg2]
          refine Wk.on ?_
          refine Tr.cap 5 1 1 rfl rfl fun c hc => ?_
          refine Tr.draw (md := true) [⟨[], [39, 40, 41, 42, 43, 44, 45, 46], [], [], [7]⟩, ⟨[], [38, 40, 41, 42, 43, 44, 45, 46], [0], [], [7]⟩, ⟨[], [38, 39, 41, 44, 45], [0, 1], [], []⟩, ⟨[], [38, 39, 40, 44, 45], [0, 1, 2], [], []⟩, ⟨[2, 3], [38, 39, 44, 45], [0, 1], [], []⟩, ⟨[2, 3, 4], [38, 39, 44, 45], [0, 1], [], []⟩, ⟨[], [38, 39, 40, 41, 42, 43], [0, 1, 2, 3, 4, 5], [], []⟩, ⟨[6], [38, 39, 40, 41, 42, 43], [0, 1, 2, 3, 4, 5], [], []⟩, ⟨[2, 3, 4, 5, 6, 7], [38, 39], [0, 1], [7], []⟩] tok (by kernel_rfl) (by kernel_rfl) ?_
          refine Wk.on ?_
          refine ⟨⟨rfl, rfl, rfl, by rw [ints_len]; omega⟩, fun hin => ?_, fun hnew => ?_⟩
          · refine Wk.on ?_
            exact Again.under (pos + 1, q, [a0, a1 ++ [(pos : Int)]]) (Under.wk [] ⟨rfl, rfl, Nat.le_of_ble_eq_true rfl, Nat.le_of_ble_eq_true rfl⟩ rfl ⟨Or.inl rfl, Or.inl rfl, Or.inl rfl, Or.inl rfl, Or.inl rfl, Or.inl rfl, trivial⟩ ⟨Or.inr (Or.inl (Or.inr ⟨rfl, ⟨rfl, rfl, by simp⟩, wk_tail _ _ q⟩)), Or.inl rfl, Or.inl (congrArg ABlk.own (ints_ren _ _).symm), Or.inl rfl, Or.inl (congrArg ABlk.ro (ints_ren _ _).symm), Or.inl rfl, Or.inl (congrArg (ABlk.row 3 1) (ints_ren _ _).symm), Or.inl ((congrArg (ABlk.row 3 1) (app_in a1 pos)).trans (congrArg (ABlk.row 3 1) (ints_ren _ _).symm)), trivial⟩ rfl (by simp [tupA, hpLt, tmLt, AV.lt, AE.lt, AC.lt, LL_cons, LL_nil, idOk, ABlk.lt, ints_LL, GB, tab64_LL, gC, wB, giC, noneB, putB, putS, nils_LL, rwC, rwH, List.replicate]) (by simp [tupA, hpLt, tmLt, AV.lt, AE.lt, AC.lt, LL_cons, LL_nil, idOk, ABlk.lt, ints_LL, GB, tab64_LL, gC, wB, giC, noneB, putB, putS, nils_LL, rwC, rwH, List.replicate])) ⟨by show pos + 1 ≤ g.n; omega, hput.symm, by simp only [List.length_cons, List.length_nil]; omega⟩ (by show g.n - (pos + 1) < g.n - pos; omega)
          · refine ⟨⟨Nat.le_of_ble_eq_true rfl, by show ((a1.length + 1 : Nat) : Int) * 8 ≤ _; omega, by omega⟩, ?_⟩
            refine Wk.on ?_
            exact Again.under (pos + 1, q, [a0, a1 ++ [(pos : Int)]]) (Under.wk [(7, 9)] ⟨rfl, rfl, Nat.le_of_ble_eq_true rfl, Nat.le_of_ble_eq_true rfl⟩ rfl ⟨Or.inl rfl, Or.inl rfl, Or.inl rfl, Or.inl rfl, Or.inl rfl, Or.inl rfl, trivial⟩ ⟨Or.inr (Or.inl (Or.inr ⟨rfl, row_len _ _ _, wk_tail _ _ q⟩)), Or.inl rfl, Or.inl (congrArg ABlk.own (ints_ren _ _).symm), Or.inl rfl, Or.inl (congrArg ABlk.ro (ints_ren _ _).symm), Or.inl rfl, Or.inl (congrArg (ABlk.row 3 1) (ints_ren _ _).symm), Or.inl ((congrArg (ABlk.row 3 1) (app_new a1 pos)).trans (congrArg (ABlk.row 3 1) (ints_ren _ _).symm)), trivial⟩ rfl (by simp [tupA, hpLt, tmLt, AV.lt, AE.lt, AC.lt, LL_cons, LL_nil, idOk, ABlk.lt, ints_LL, GB, tab64_LL, gC, wB, giC, noneB, putB, putS, nils_LL, rwC, rwH, List.replicate]) (by simp [tupA, hpLt, tmLt, AV.lt, AE.lt, AC.lt, LL_cons, LL_nil, idOk, ABlk.lt, ints_LL, GB, tab64_LL, gC, wB, giC, noneB, putB, putS, nils_LL, rwC, rwH, List.replicate])) ⟨by show pos + 1 ≤ g.n; omega, hput.symm, by simp only [List.length_cons, List.length_nil]; omega⟩ (by show g.n - (pos + 1) < g.n - pos; omega)
        rcases l with _ | l
        · simp only [List.length_cons, List.length_nil] at hrp hs1 hVp h3
          rcases q with _ | q
          · omega
          simp only [putS, rwC, rwH, List.cons_append, List.nil_append, List.length_cons, List.length_nil, Nat.reduceAdd]
          have hg2 : (ints (wL w)).getD (0 + pos * 1) (.int .i64 0) = .int .i64 (2 : Int) := hget
          refine Wk.on ?_
          rw [decide_eq_true (show ((pos : Nat) : Int) < ((g.n : Nat) : Int) by omega)]
          refine Wk.on ?_
          rw [Int.toNat_natCast, hg2]
          refine Wk.on ?_
          refine Tr.draw (md := true) [⟨[], [39, 40, 41, 42, 43, 44, 45, 46], [], [], []⟩, ⟨[], [38, 40, 41, 42, 43, 44, 45, 46], [0], [], []⟩, ⟨[], [38, 39, 41, 44, 45], [0, 1], [], []⟩, ⟨[], [38, 39, 40, 44, 45], [0, 1, 2], [], []⟩, ⟨[2, 3], [38, 39, 44, 45], [0, 1], [], []⟩, ⟨[2, 3, 4], [38, 39, 44, 45], [0, 1], [], []⟩, ⟨[], [38, 39, 40, 41, 42, 43], [0, 1, 2, 3, 4, 5], [], []⟩, ⟨[6], [38, 39, 40, 41, 42, 43], [0, 1, 2, 3, 4, 5], [], []⟩, ⟨[2, 3, 4, 5, 6, 7], [38, 39], [0, 1], [], []⟩] tok (by kernel_rfl) (by kernel_rfl) ?_
          refine Wk.on ?_
          exact Again.under (pos + 1, q, [a0, a1, [(pos : Int)]]) (Under.wk [(8, 9)] ⟨rfl, rfl, Nat.le_of_ble_eq_true rfl, Nat.le_of_ble_eq_true rfl⟩ rfl ⟨Or.inl rfl, Or.inl rfl, Or.inl rfl, Or.inl rfl, Or.inl rfl, Or.inl rfl, trivial⟩ ⟨Or.inr (Or.inl (Or.inr ⟨rfl, rfl, rfl, wk_tail _ _ q⟩)), Or.inl rfl, Or.inl (congrArg ABlk.own (ints_ren _ _).symm), Or.inl rfl, Or.inl (congrArg ABlk.ro (ints_ren _ _).symm), Or.inl rfl, Or.inl (congrArg (ABlk.row 3 1) (ints_ren _ _).symm), Or.inl (congrArg (ABlk.row 3 1) (ints_ren _ _).symm), Or.inl rfl, trivial⟩ rfl (by simp [tupA, hpLt, tmLt, AV.lt, AE.lt, AC.lt, LL_cons, LL_nil, idOk, ABlk.lt, ints_LL, GB, tab64_LL, gC, wB, giC, noneB, putB, putS, nils_LL, rwC, rwH, List.replicate]) (by simp [tupA, hpLt, tmLt, AV.lt, AE.lt, AC.lt, LL_cons, LL_nil, idOk, ABlk.lt, ints_LL, GB, tab64_LL, gC, wB, giC, noneB, putB, putS, nils_LL, rwC, rwH, List.replicate])) ⟨by show pos + 1 ≤ g.n; omega, hput.symm, by simp only [List.length_cons, List.length_nil]; omega⟩ (by show g.n - (pos + 1) < g.n - pos; omega)
        simp only [List.length_cons, List.length_nil] at hrp
        omega
      rcases V with _ | ⟨a3, V⟩
      · rcases l with _ | l
        · simp only [List.length_cons, List.length_nil] at hrp hs1 hVp h3
          have hal : a0.length ≤ 8 := hVm _ (by simp)
          simp only [putS, rwC, rwH, List.cons_append, List.nil_append, List.length_cons, List.length_nil, Nat.reduceAdd]
          have hg2 : (ints (wL w)).getD (0 + pos * 1) (.int .i64 0) = .int .i64 (0 : Int) := hget
          refine Wk.on ?_
          rw [decide_eq_true (show ((pos : Nat) : Int) < ((g.n : Nat) : Int) by omega)]
          refine Wk.on ?_
          rw [Int.toNat_natCast, hg2]
          refine Wk.on ?_
          refine Tr.cap 5 0 1 rfl rfl fun c hc => ?_
          refine Tr.draw (md := true) [⟨[], [39, 40, 41, 42, 43, 44, 45, 46], [], [], [6]⟩, ⟨[], [38, 40, 41, 42, 43, 44, 45, 46], [0], [], [6]⟩, ⟨[], [38, 39, 41, 44, 45], [0, 1], [], []⟩, ⟨[], [38, 39, 40, 44, 45], [0, 1, 2], [], []⟩, ⟨[2, 3], [38, 39, 44, 45], [0, 1], [], []⟩, ⟨[2, 3, 4], [38, 39, 44, 45], [0, 1], [], []⟩, ⟨[], [38, 39, 40, 41, 42, 43], [0, 1, 2, 3, 4, 5], [], []⟩, ⟨[6], [38, 39, 40, 41, 42, 43], [0, 1, 2, 3, 4, 5], [], []⟩, ⟨[2, 3, 4, 5, 6, 7], [38, 39], [0, 1], [6], []⟩] tok (by kernel_rfl) (by kernel_rfl) ?_
          refine Wk.on ?_
          refine ⟨⟨rfl, rfl, rfl, by rw [ints_len]; omega⟩, fun hin => ?_, fun hnew => ?_⟩
          · refine Wk.on ?_
            exact Again.under (pos + 1, q, [a0 ++ [(pos : Int)], a1, a2]) (Under.wk [] ⟨rfl, rfl, Nat.le_of_ble_eq_true rfl, Nat.le_of_ble_eq_true rfl⟩ rfl ⟨Or.inl rfl, Or.inl rfl, Or.inl rfl, Or.inl rfl, Or.inl rfl, Or.inl rfl, trivial⟩ ⟨Or.inr (Or.inl (Or.inr ⟨⟨rfl, rfl, by simp⟩, rfl, rfl, wk_tail _ _ q⟩)), Or.inl rfl, Or.inl (congrArg ABlk.own (ints_ren _ _).symm), Or.inl rfl, Or.inl (congrArg ABlk.ro (ints_ren _ _).symm), Or.inl rfl, Or.inl ((congrArg (ABlk.row 3 1) (app_in a0 pos)).trans (congrArg (ABlk.row 3 1) (ints_ren _ _).symm)), Or.inl (congrArg (ABlk.row 3 1) (ints_ren _ _).symm), Or.inl (congrArg (ABlk.row 3 1) (ints_ren _ _).symm), trivial⟩ rfl (by simp [tupA, hpLt, tmLt, AV.lt, AE.lt, AC.lt, LL_cons, LL_nil, idOk, ABlk.lt, ints_LL, GB, tab64_LL, gC, wB, giC, noneB, putB, putS, nils_LL, rwC, rwH, List.replicate]) (by simp [tupA, hpLt, tmLt, AV.lt, AE.lt, AC.lt, LL_cons, LL_nil, idOk, ABlk.lt, ints_LL, GB, tab64_LL, gC, wB, giC, noneB, putB, putS, nils_LL, rwC, rwH, List.replicate])) ⟨by show pos + 1 ≤ g.n; omega, hput.symm, by simp only [List.length_cons, List.length_nil]; omega⟩ (by show g.n - (pos + 1) < g.n - pos; omega)
          · refine ⟨⟨Nat.le_of_ble_eq_true rfl, by show ((a0.length + 1 : Nat) : Int) * 8 ≤ _; omega, by omega⟩, ?_⟩
            refine Wk.on ?_
            exact Again.under (pos + 1, q, [a0 ++ [(pos : Int)], a1, a2]) (Under.wk [(6, 10)] ⟨rfl, rfl, Nat.le_of_ble_eq_true rfl, Nat.le_of_ble_eq_true rfl⟩ rfl ⟨Or.inl rfl, Or.inl rfl, Or.inl rfl, Or.inl rfl, Or.inl rfl, Or.inl rfl, trivial⟩ ⟨Or.inr (Or.inl (Or.inr ⟨row_len _ _ _, rfl, rfl, wk_tail _ _ q⟩)), Or.inl rfl, Or.inl (congrArg ABlk.own (ints_ren _ _).symm), Or.inl rfl, Or.inl (congrArg ABlk.ro (ints_ren _ _).symm), Or.inl rfl, Or.inl ((congrArg (ABlk.row 3 1) (app_new a0 pos)).trans (congrArg (ABlk.row 3 1) (ints_ren _ _).symm)), Or.inl (congrArg (ABlk.row 3 1) (ints_ren _ _).symm), Or.inl (congrArg (ABlk.row 3 1) (ints_ren _ _).symm), trivial⟩ rfl (by simp [tupA, hpLt, tmLt, AV.lt, AE.lt, AC.lt, LL_cons, LL_nil, idOk, ABlk.lt, ints_LL, GB, tab64_LL, gC, wB, giC, noneB, putB, putS, nils_LL, rwC, rwH, List.replicate]) (by simp [tupA, hpLt, tmLt, AV.lt, AE.lt, AC.lt, LL_cons, LL_nil, idOk, ABlk.lt, ints_LL, GB, tab64_LL, gC, wB, giC, noneB, putB, putS, nils_LL, rwC, rwH, List.replicate])) ⟨by show pos + 1 ≤ g.n; omega, hput.symm, by simp only [List.length_cons, List.length_nil]; omega⟩ (by show g.n - (pos + 1) < g.n - pos; omega)
        rcases l with _ | l
        · simp only [List.length_cons, List.length_nil] at hrp hs1 hVp h3
          have hal : a1.length ≤ 8 := hVm _ (by simp)
          simp only [putS, rwC, rwH, List.cons_append, List.nil_append, List.length_cons, List.length_nil, Nat.reduceAdd]
          have hg2 : (ints (wL w)).getD (0 + pos * 1) (.int .i64 0) = .int .i64 (1 : Int) := hget
          refine Wk.on ?_
          rw [decide_eq_true (show ((pos : Nat) : Int) < ((g.n : Nat) : Int) by omega)]
          refine Wk.on ?_
          rw [Int.toNat_natCast, hg2]
          refine Wk.on ?_
          refine Tr.cap 5 1 1 rfl rfl fun c hc => ?_
          refine Tr.draw (md := true) [⟨[], [39, 40, 41, 42, 43, 44, 45, 46], [], [], [7]⟩, ⟨[], [38, 40, 41, 42, 43, 44, 45, 46], [0], [], [7]⟩, ⟨[], [38, 39, 41, 44, 45], [0, 1], [], []⟩, ⟨[], [38, 39, 40, 44, 45], [0, 1, 2], [], []⟩, ⟨[2, 3], [38, 39, 44, 45], [0, 1], [], []⟩, ⟨[2, 3, 4], [38, 39, 44, 45], [0, 1], [], []⟩, ⟨[], [38, 39, 40, 41, 42, 43], [0, 1, 2, 3, 4, 5], [], []⟩, ⟨[6], [38, 39, 40, 41, 42, 43], [0, 1, 2, 3, 4, 5], [], []⟩, ⟨[2, 3, 4, 5, 6, 7], [38, 39], [0, 1], [7], []⟩] tok (by kernel_rfl) (by kernel_rfl) ?_
          refine Wk.on ?_
          refine ⟨⟨rfl, rfl, rfl, by rw [ints_len]; omega⟩, fun hin => ?_, fun hnew => ?_⟩
          · refine Wk.on ?_
            exact Again.under (pos + 1, q, [a0, a1 ++ [(pos : Int)], a2]) (Under.wk [] ⟨rfl, rfl, Nat.le_of_ble_eq_true rfl, Nat.le_of_ble_eq_true rfl⟩ rfl ⟨Or.inl rfl, Or.inl rfl, Or.inl rfl, Or.inl rfl, Or.inl rfl, Or.inl rfl, trivial⟩ ⟨Or.inr (Or.inl (Or.inr ⟨rfl, ⟨rfl, rfl, by simp⟩, rfl, wk_tail _ _ q⟩)), Or.inl rfl, Or.inl (congrArg ABlk.own (ints_ren _ _).symm), Or.inl rfl, Or.inl (congrArg ABlk.ro (ints_ren _ _).symm), Or.inl rfl, Or.inl (congrArg (ABlk.row 3 1) (ints_ren _ _).symm), Or.inl ((congrArg (ABlk.row 3 1) (app_in a1 pos)).trans (congrArg (ABlk.row 3 1) (ints_ren _ _).symm)), Or.inl (congrArg (ABlk.row 3 1) (ints_ren _ _).symm), trivial⟩ rfl (by simp [tupA, hpLt, tmLt, AV.lt, AE.lt, AC.lt, LL_cons, LL_nil, idOk, ABlk.lt, ints_LL, GB, tab64_LL, gC, wB, giC, noneB, putB, putS, nils_LL, rwC, rwH, List.replicate]) (by simp [tupA, hpLt, tmLt, AV.lt, AE.lt, AC.lt, LL_cons, LL_nil, idOk, ABlk.lt, ints_LL, GB, tab64_LL, gC, wB, giC, noneB, putB, putS, nils_LL, rwC, rwH, List.replicate])) ⟨by show pos + 1 ≤ g.n; omega, hput.symm, by simp only [List.length_cons, List.length_nil]; omega⟩ (by show g.n - (pos + 1) < g.n - pos; omega)
          · refine ⟨⟨Nat.le_of_ble_eq_true rfl, by show ((a1.length + 1 : Nat) : Int) * 8 ≤ _; omega, by omega⟩, ?_⟩
            refine Wk.on ?_
            exact Again.under (pos + 1, q, [a0, a1 ++ [(pos : Int)], a2]) (Under.wk [(7, 10)] ⟨rfl, rfl, Nat.le_of_ble_eq_true rfl, Nat.le_of_ble_eq_true rfl⟩ rfl ⟨Or.inl rfl, Or.inl rfl, Or.inl rfl, Or.inl rfl, Or.inl rfl, Or.inl rfl, trivial⟩ ⟨Or.inr (Or.inl (Or.inr ⟨rfl, row_len _ _ _, rfl, wk_tail _ _ q⟩)), Or.inl rfl, Or.inl (congrArg ABlk.own (ints_ren _ _).symm), Or.inl rfl, Or.inl (congrArg ABlk.ro (ints_ren _ _).symm), Or.inl rfl, Or.inl (congrArg (ABlk.row 3 1) (ints_ren _ _).symm), Or.inl ((congrArg (ABlk.row 3 1) (app_new a1 pos)).trans (congrArg (ABlk.row 3 1) (ints_ren _ _).symm)), Or.inl (congrArg (ABlk.row 3 1) (ints_ren _ _).symm), trivial⟩ rfl (by simp [tupA, hpLt, tmLt, AV.lt, AE.lt, AC.lt, LL_cons, LL_nil, idOk, ABlk.lt, ints_LL, GB, tab64_LL, gC, wB, giC, noneB, putB, putS, nils_LL, rwC, rwH, List.replicate]) (by simp [tupA, hpLt, tmLt, AV.lt, AE.lt, AC.lt, LL_cons, LL_nil, idOk, ABlk.lt, ints_LL, GB, tab64_LL, gC, wB, giC, noneB, putB, putS, nils_LL, rwC, rwH, List.replicate])) ⟨by show pos + 1 ≤ g.n; omega, hput.symm, by simp only [List.length_cons, List.length_nil]; omega⟩ (by show g.n - (pos + 1) < g.n - pos; omega)
        rcases l with _ | l
        · simp only [List.length_cons, List.length_nil] at hrp hs1 hVp h3
          have hal : a2.length ≤ 8 := hVm _ (by simp)
          simp only [putS, rwC, rwH, List.cons_append, List.nil_append, List.length_cons, List.length_nil, Nat.reduceAdd]
          have hg2 : (ints (wL w)).getD (0 + pos * 1) (.int .i64 0) = .int .i64 (2 : Int) := hget
          refine Wk.on ?_
          rw [decide_eq_true (show ((pos : Nat) : Int) < ((g.n : Nat) : Int) by omega)]
          refine Wk.on ?_
          rw [Int.toNat_natCast, hg2]
          refine Wk.on ?_
          refine Tr.cap 5 2 1 rfl rfl fun c hc => ?_
          refine Tr.draw (md := true) [⟨[], [39, 40, 41, 42, 43, 44, 45, 46], [], [], [8]⟩, ⟨[], [38, 40, 41, 42, 43, 44, 45, 46], [0], [], [8]⟩, ⟨[], [38, 39, 41, 44, 45], [0, 1], [], []⟩, ⟨[], [38, 39, 40, 44, 45], [0, 1, 2], [], []⟩, ⟨[2, 3], [38, 39, 44, 45], [0, 1], [], []⟩, ⟨[2, 3, 4], [38, 39, 44, 45], [0, 1], [], []⟩, ⟨[], [38, 39, 40, 41, 42, 43], [0, 1, 2, 3, 4, 5], [], []⟩, ⟨[6], [38, 39, 40, 41, 42, 43], [0, 1, 2, 3, 4, 5], [], []⟩, ⟨[2, 3, 4, 5, 6, 7], [38, 39], [0, 1], [8], []⟩] tok (by kernel_rfl) (by kernel_rfl) ?_
          refine Wk.on ?_
          refine ⟨⟨rfl, rfl, rfl, by rw [ints_len]; omega⟩, fun hin => ?_, fun hnew => ?_⟩
          · refine Wk.on ?_
            exact Again.under (pos + 1, q, [a0, a1, a2 ++ [(pos : Int)]]) (Under.wk [] ⟨rfl, rfl, Nat.le_of_ble_eq_true rfl, Nat.le_of_ble_eq_true rfl⟩ rfl ⟨Or.inl rfl, Or.inl rfl, Or.inl rfl, Or.inl rfl, Or.inl rfl, Or.inl rfl, trivial⟩ ⟨Or.inr (Or.inl (Or.inr ⟨rfl, rfl, ⟨rfl, rfl, by simp⟩, wk_tail _ _ q⟩)), Or.inl rfl, Or.inl (congrArg ABlk.own (ints_ren _ _).symm), Or.inl rfl, Or.inl (congrArg ABlk.ro (ints_ren _ _).symm), Or.inl rfl, Or.inl (congrArg (ABlk.row 3 1) (ints_ren _ _).symm), Or.inl (congrArg (ABlk.row 3 1) (ints_ren _ _).symm), Or.inl ((congrArg (ABlk.row 3 1) (app_in a2 pos)).trans (congrArg (ABlk.row 3 1) (ints_ren _ _).symm)), trivial⟩ rfl (by simp [tupA, hpLt, tmLt, AV.lt, AE.lt, AC.lt, LL_cons, LL_nil, idOk, ABlk.lt, ints_LL, GB, tab64_LL, gC, wB, giC, noneB, putB, putS, nils_LL, rwC, rwH, List.replicate]) (by simp [tupA, hpLt, tmLt, AV.lt, AE.lt, AC.lt, LL_cons, LL_nil, idOk, ABlk.lt, ints_LL, GB, tab64_LL, gC, wB, giC, noneB, putB, putS, nils_LL, rwC, rwH, List.replicate])) ⟨by show pos + 1 ≤ g.n; omega, hput.symm, by simp only [List.length_cons, List.length_nil]; omega⟩ (by show g.n - (pos + 1) < g.n - pos; omega)
          · refine ⟨⟨Nat.le_of_ble_eq_true rfl, by show ((a2.length + 1 : Nat) : Int) * 8 ≤ _; omega, by omega⟩, ?_⟩
            refine Wk.on ?_
            exact Again.under (pos + 1, q, [a0, a1, a2 ++ [(pos : Int)]]) (Under.wk [(8, 10)] ⟨rfl, rfl, Nat.le_of_ble_eq_true rfl, Nat.le_of_ble_eq_true rfl⟩ rfl ⟨Or.inl rfl, Or.inl rfl, Or.inl rfl, Or.inl rfl, Or.inl rfl, Or.inl rfl, trivial⟩ ⟨Or.inr (Or.inl (Or.inr ⟨rfl, rfl, row_len _ _ _, wk_tail _ _ q⟩)), Or.inl rfl, Or.inl (congrArg ABlk.own (ints_ren _ _).symm), Or.inl rfl, Or.inl (congrArg ABlk.ro (ints_ren _ _).symm), Or.inl rfl, Or.inl (congrArg (ABlk.row 3 1) (ints_ren _ _).symm), Or.inl (congrArg (ABlk.row 3 1) (ints_ren _ _).symm), Or.inl ((congrArg (ABlk.row 3 1) (app_new a2 pos)).trans (congrArg (ABlk.row 3 1) (ints_ren _ _).symm)), trivial⟩ rfl (by simp [tupA, hpLt, tmLt, AV.lt, AE.lt, AC.lt, LL_cons, LL_nil, idOk, ABlk.lt, ints_LL, GB, tab64_LL, gC, wB, giC, noneB, putB, putS, nils_LL, rwC, rwH, List.replicate]) (by simp [tupA, hpLt, tmLt, AV.lt, AE.lt, AC.lt, LL_cons, LL_nil, idOk, ABlk.lt, ints_LL, GB, tab64_LL, gC, wB, giC, noneB, putB, putS, nils_LL, rwC, rwH, List.replicate])) ⟨by show pos + 1 ≤ g.n; omega, hput.symm, by simp only [List.length_cons, List.length_nil]; omega⟩ (by show g.n - (pos + 1) < g.n - pos; omega)
        rcases l with _ | l
        · simp only [List.length_cons, List.length_nil] at hrp hs1 hVp h3
          rcases q with _ | q
          · omega
          simp only [putS, rwC, rwH, List.cons_append, List.nil_append, List.length_cons, List.length_nil, Nat.reduceAdd]
          have hg2 : (ints (wL w)).getD (0 + pos * 1) (.int .i64 0) = .int .i64 (3 : Int) := hget
          refine Wk.on ?_
          rw [decide_eq_true (show ((pos : Nat) : Int) < ((g.n : Nat) : Int) by omega)]
          refine Wk.on ?_
          rw [Int.toNat_natCast, hg2]
          refine Wk.on ?_
          refine Tr.draw (md := true) [⟨[], [39, 40, 41, 42, 43, 44, 45, 46], [], [], []⟩, ⟨[], [38, 40, 41, 42, 43, 44, 45, 46], [0], [], []⟩, ⟨[], [38, 39, 41, 44, 45], [0, 1], [], []⟩, ⟨[], [38, 39, 40, 44, 45], [0, 1, 2], [], []⟩, ⟨[2, 3], [38, 39, 44, 45], [0, 1], [], []⟩, ⟨[2, 3, 4], [38, 39, 44, 45], [0, 1], [], []⟩, ⟨[], [38, 39, 40, 41, 42, 43], [0, 1, 2, 3, 4, 5], [], []⟩, ⟨[6], [38, 39, 40, 41, 42, 43], [0, 1, 2, 3, 4, 5], [], []⟩, ⟨[2, 3, 4, 5, 6, 7], [38, 39], [0, 1], [], []⟩] tok (by kernel_rfl) (by kernel_rfl) ?_
          refine Wk.on ?_
          exact Again.under (pos + 1, q, [a0, a1, a2, [(pos : Int)]]) (Under.wk [(9, 10)] ⟨rfl, rfl, Nat.le_of_ble_eq_true rfl, Nat.le_of_ble_eq_true rfl⟩ rfl ⟨Or.inl rfl, Or.inl rfl, Or.inl rfl, Or.inl rfl, Or.inl rfl, Or.inl rfl, trivial⟩ ⟨Or.inr (Or.inl (Or.inr ⟨rfl, rfl, rfl, rfl, wk_tail _ _ q⟩)), Or.inl rfl, Or.inl (congrArg ABlk.own (ints_ren _ _).symm), Or.inl rfl, Or.inl (congrArg ABlk.ro (ints_ren _ _).symm), Or.inl rfl, Or.inl (congrArg (ABlk.row 3 1) (ints_ren _ _).symm), Or.inl (congrArg (ABlk.row 3 1) (ints_ren _ _).symm), Or.inl (congrArg (ABlk.row 3 1) (ints_ren _ _).symm), Or.inl rfl, trivial⟩ rfl (by simp [tupA, hpLt, tmLt, AV.lt, AE.lt, AC.lt, LL_cons, LL_nil, idOk, ABlk.lt, ints_LL, GB, tab64_LL, gC, wB, giC, noneB, putB, putS, nils_LL, rwC, rwH, List.replicate]) (by simp [tupA, hpLt, tmLt, AV.lt, AE.lt, AC.lt, LL_cons, LL_nil, idOk, ABlk.lt, ints_LL, GB, tab64_LL, gC, wB, giC, noneB, putB, putS, nils_LL, rwC, rwH, List.replicate])) ⟨by show pos + 1 ≤ g.n; omega, hput.symm, by simp only [List.length_cons, List.length_nil]; omega⟩ (by show g.n - (pos + 1) < g.n - pos; omega)
        simp only [List.length_cons, List.length_nil] at hrp
        omega
      rcases V with _ | ⟨a4, V⟩
      · rcases l with _ | l
        · simp only [List.length_cons, List.length_nil] at hrp hs1 hVp h3
          have hal : a0.length ≤ 8 := hVm _ (by simp)
          simp only [putS, rwC, rwH, List.cons_append, List.nil_append, List.length_cons, List.length_nil, Nat.reduceAdd]
          have hg2 : (ints (wL w)).getD (0 + pos * 1) (.int .i64 0) = .int .i64 (0 : Int) := hget
          refine Wk.on ?_
          rw [decide_eq_true (show ((pos : Nat) : Int) < ((g.n : Nat) : Int) by omega)]
          refine Wk.on ?_
          rw [Int.toNat_natCast, hg2]
          refine Wk.on ?_
          refine Tr.cap 5 0 1 rfl rfl fun c hc => ?_
          refine Tr.draw (md := true) [⟨[], [39, 40, 41, 42, 43, 44, 45, 46], [], [], [6]⟩, ⟨[], [38, 40, 41, 42, 43, 44, 45, 46], [0], [], [6]⟩, ⟨[], [38, 39, 41, 44, 45], [0, 1], [], []⟩, ⟨[], [38, 39, 40, 44, 45], [0, 1, 2], [], []⟩, ⟨[2, 3], [38, 39, 44, 45], [0, 1], [], []⟩, ⟨[2, 3, 4], [38, 39, 44, 45], [0, 1], [], []⟩, ⟨[], [38, 39, 40, 41, 42, 43], [0, 1, 2, 3, 4, 5], [], []⟩, ⟨[6], [38, 39, 40, 41, 42, 43], [0, 1, 2, 3, 4, 5], [], []⟩, ⟨[2, 3, 4, 5, 6, 7], [38, 39], [0, 1], [6], []⟩] tok (by kernel_rfl) (by kernel_rfl) ?_
          refine Wk.on ?_
          refine ⟨⟨rfl, rfl, rfl, by rw [ints_len]; omega⟩, fun hin => ?_, fun hnew => ?_⟩
          · refine Wk.on ?_
            exact Again.under (pos + 1, q, [a0 ++ [(pos : Int)], a1, a2, a3]) (Under.wk [] ⟨rfl, rfl, Nat.le_of_ble_eq_true rfl, Nat.le_of_ble_eq_true rfl⟩ rfl ⟨Or.inl rfl, Or.inl rfl, Or.inl rfl, Or.inl rfl, Or.inl rfl, Or.inl rfl, trivial⟩ ⟨Or.inr (Or.inl (Or.inr ⟨⟨rfl, rfl, by simp⟩, rfl, rfl, rfl, wk_tail _ _ q⟩)), Or.inl rfl, Or.inl (congrArg ABlk.own (ints_ren _ _).symm), Or.inl rfl, Or.inl (congrArg ABlk.ro (ints_ren _ _).symm), Or.inl rfl, Or.inl ((congrArg (ABlk.row 3 1) (app_in a0 pos)).trans (congrArg (ABlk.row 3 1) (ints_ren _ _).symm)), Or.inl (congrArg (ABlk.row 3 1) (ints_ren _ _).symm), Or.inl (congrArg (ABlk.row 3 1) (ints_ren _ _).symm), Or.inl (congrArg (ABlk.row 3 1) (ints_ren _ _).symm), trivial⟩ rfl (by simp [tupA, hpLt, tmLt, AV.lt, AE.lt, AC.lt, LL_cons, LL_nil, idOk, ABlk.lt, ints_LL, GB, tab64_LL, gC, wB, giC, noneB, putB, putS, nils_LL, rwC, rwH, List.replicate]) (by simp [tupA, hpLt, tmLt, AV.lt, AE.lt, AC.lt, LL_cons, LL_nil, idOk, ABlk.lt, ints_LL, GB, tab64_LL, gC, wB, giC, noneB, putB, putS, nils_LL, rwC, rwH, List.replicate])) ⟨by show pos + 1 ≤ g.n; omega, hput.symm, by simp only [List.length_cons, List.length_nil]; omega⟩ (by show g.n - (pos + 1) < g.n - pos; omega)
          · refine ⟨⟨Nat.le_of_ble_eq_true rfl, by show ((a0.length + 1 : Nat) : Int) * 8 ≤ _; omega, by omega⟩, ?_⟩
            refine Wk.on ?_
            exact Again.under (pos + 1, q, [a0 ++ [(pos : Int)], a1, a2, a3]) (Under.wk [(6, 11)] ⟨rfl, rfl, Nat.le_of_ble_eq_true rfl, Nat.le_of_ble_eq_true rfl⟩ rfl ⟨Or.inl rfl, Or.inl rfl, Or.inl rfl, Or.inl rfl, Or.inl rfl, Or.inl rfl, trivial⟩ ⟨Or.inr (Or.inl (Or.inr ⟨row_len _ _ _, rfl, rfl, rfl, wk_tail _ _ q⟩)), Or.inl rfl, Or.inl (congrArg ABlk.own (ints_ren _ _).symm), Or.inl rfl, Or.inl (congrArg ABlk.ro (ints_ren _ _).symm), Or.inl rfl, Or.inl ((congrArg (ABlk.row 3 1) (app_new a0 pos)).trans (congrArg (ABlk.row 3 1) (ints_ren _ _).symm)), Or.inl (congrArg (ABlk.row 3 1) (ints_ren _ _).symm), Or.inl (congrArg (ABlk.row 3 1) (ints_ren _ _).symm), Or.inl (congrArg (ABlk.row 3 1) (ints_ren _ _).symm), trivial⟩ rfl (by simp [tupA, hpLt, tmLt, AV.lt, AE.lt, AC.lt, LL_cons, LL_nil, idOk, ABlk.lt, ints_LL, GB, tab64_LL, gC, wB, giC, noneB, putB, putS, nils_LL, rwC, rwH, List.replicate]) (by simp [tupA, hpLt, tmLt, AV.lt, AE.lt, AC.lt, LL_cons, LL_nil, idOk, ABlk.lt, ints_LL, GB, tab64_LL, gC, wB, giC, noneB, putB, putS, nils_LL, rwC, rwH, List.replicate])) ⟨by show pos + 1 ≤ g.n; omega, hput.symm, by simp only [List.length_cons, List.length_nil]; omega⟩ (by show g.n - (pos + 1) < g.n - pos; omega)
        rcases l with _ | l
        · simp only [List.length_cons, List.length_nil] at hrp hs1 hVp h3
          have hal : a1.length ≤ 8 := hVm _ (by simp)
          simp only [putS, rwC, rwH, List.cons_append, List.nil_append, List.length_cons, List.length_nil, Nat.reduceAdd]
          have hg2 : (ints (wL w)).getD (0 + pos * 1) (.int .i64 0) = .int .i64 (1 : Int) := hget
          refine Wk.on ?_
          rw [decide_eq_true (show ((pos : Nat) : Int) < ((g.n : Nat) : Int) by omega)]
          refine Wk.on ?_
          rw [Int.toNat_natCast, hg2]
          refine Wk.on ?_
          refine Tr.cap 5 1 1 rfl rfl fun c hc => ?_
          refine Tr.draw (md := true) [⟨[], [39, 40, 41, 42, 43, 44, 45, 46], [], [], [7]⟩, ⟨[], [38, 40, 41, 42, 43, 44, 45, 46], [0], [], [7]⟩, ⟨[], [38, 39, 41, 44, 45], [0, 1], [], []⟩, ⟨[], [38, 39, 40, 44, 45], [0, 1, 2], [], []⟩, ⟨[2, 3], [38, 39, 44, 45], [0, 1], [], []⟩, ⟨[2, 3, 4], [38, 39, 44, 45], [0, 1], [], []⟩, ⟨[], [38, 39, 40, 41, 42, 43], [0, 1, 2, 3, 4, 5], [], []⟩, ⟨[6], [38, 39, 40, 41, 42, 43], [0, 1, 2, 3, 4, 5], [], []⟩, ⟨[2, 3, 4, 5, 6, 7], [38, 39], [0, 1], [7], []⟩] tok (by kernel_rfl) (by kernel_rfl) ?_
          refine Wk.on ?_
          refine ⟨⟨rfl, rfl, rfl, by rw [ints_len]; omega⟩, fun hin => ?_, fun hnew => ?_⟩
          · refine Wk.on ?_
            exact Again.under (pos + 1, q, [a0, a1 ++ [(pos : Int)], a2, a3]) (Under.wk [] ⟨rfl, rfl, Nat.le_of_ble_eq_true rfl, Nat.le_of_ble_eq_true rfl⟩ rfl ⟨Or.inl rfl, Or.inl rfl, Or.inl rfl, Or.inl rfl, Or.inl rfl, Or.inl rfl, trivial⟩ ⟨Or.inr (Or.inl (Or.inr ⟨rfl, ⟨rfl, rfl, by simp⟩, rfl, rfl, wk_tail _ _ q⟩)), Or.inl rfl, Or.inl (congrArg ABlk.own (ints_ren _ _).symm), Or.inl rfl, Or.inl (congrArg ABlk.ro (ints_ren _ _).symm), Or.inl rfl, Or.inl (congrArg (ABlk.row 3 1) (ints_ren _ _).symm), Or.inl ((congrArg (ABlk.row 3 1) (app_in a1 pos)).trans (congrArg (ABlk.row 3 1) (ints_ren _ _).symm)), Or.inl (congrArg (ABlk.row 3 1) (ints_ren _ _).symm), Or.inl (congrArg (ABlk.row 3 1) (ints_ren _ _).symm), trivial⟩ rfl (by simp [tupA, hpLt, tmLt, AV.lt, AE.lt, AC.lt, LL_cons, LL_nil, idOk, ABlk.lt, ints_LL, GB, tab64_LL, gC, wB, giC, noneB, putB, putS, nils_LL, rwC, rwH, List.replicate]) (by simp [tupA, hpLt, tmLt, AV.lt, AE.lt, AC.lt, LL_cons, LL_nil, idOk, ABlk.lt, ints_LL, GB, tab64_LL, gC, wB, giC, noneB, putB, putS, nils_LL, rwC, rwH, List.replicate])) ⟨by show pos + 1 ≤ g.n; omega, hput.symm, by simp only [List.length_cons, List.length_nil]; omega⟩ (by show g.n - (pos + 1) < g.n - pos; omega)
          · refine ⟨⟨Nat.le_of_ble_eq_true rfl, by show ((a1.length + 1 : Nat) : Int) * 8 ≤ _; omega, by omega⟩, ?_⟩
            refine Wk.on ?_
            exact Again.under (pos + 1, q, [a0, a1 ++ [(pos : Int)], a2, a3]) (Under.wk [(7, 11)] ⟨rfl, rfl, Nat.le_of_ble_eq_true rfl, Nat.le_of_ble_eq_true rfl⟩ rfl ⟨Or.inl rfl, Or.inl rfl, Or.inl rfl, Or.inl rfl, Or.inl rfl, Or.inl rfl, trivial⟩ ⟨Or.inr (Or.inl (Or.inr ⟨rfl, row_len _ _ _, rfl, rfl, wk_tail _ _ q⟩)), Or.inl rfl, Or.inl (congrArg ABlk.own (ints_ren _ _).symm), Or.inl rfl, Or.inl (congrArg ABlk.ro (ints_ren _ _).symm), Or.inl rfl, Or.inl (congrArg (ABlk.row 3 1) (ints_ren _ _).symm), Or.inl ((congrArg (ABlk.row 3 1) (app_new a1 pos)).trans (congrArg (ABlk.row 3 1) (ints_ren _ _).symm)), Or.inl (congrArg (ABlk.row 3 1) (ints_ren _ _).symm), Or.inl (congrArg (ABlk.row 3 1) (ints_ren _ _).symm), trivial⟩ rfl (by simp [tupA, hpLt, tmLt, AV.lt, AE.lt, AC.lt, LL_cons, LL_nil, idOk, ABlk.lt, ints_LL, GB, tab64_LL, gC, wB, giC, noneB, putB, putS, nils_LL, rwC, rwH, List.replicate]) (by simp [tupA, hpLt, tmLt, AV.lt, AE.lt, AC.lt, LL_cons, LL_nil, idOk, ABlk.lt, ints_LL, GB, tab64_LL, gC, wB, giC, noneB, putB, putS, nils_LL, rwC, rwH, List.replicate])) ⟨by show pos + 1 ≤ g.n; omega, hput.symm, by simp only [List.length_cons, List.length_nil]; omega⟩ (by show g.n - (pos + 1) < g.n - pos; omega)
        rcases l with _ | l
        · simp only [List.length_cons, List.length_nil] at hrp hs1 hVp h3
          have hal : a2.length ≤ 8 := hVm _ (by simp)
          simp only [putS, rwC, rwH, List.cons_append, List.nil_append, List.length_cons, List.length_nil, Nat.reduceAdd]
          have hg2 : (ints (wL w)).getD (0 + pos * 1) (.int .i64 0) = .int .i64 (2 : Int) := hget
          refine Wk.on ?_
          rw [decide_eq_true (show ((pos : Nat) : Int) < ((g.n : Nat) : Int) by omega)]
          refine Wk.on ?_
          rw [Int.toNat_natCast, hg2]
          refine Wk.on ?_
          refine Tr.cap 5 2 1 rfl rfl fun c hc => ?_
          refine Tr.draw (md := true) [⟨[], [39, 40, 41, 42, 43, 44, 45, 46], [], [], [8]⟩, ⟨[], [38, 40, 41, 42, 43, 44, 45, 46], [0], [], [8]⟩, ⟨[], [38, 39, 41, 44, 45], [0, 1], [], []⟩, ⟨[], [38, 39, 40, 44, 45], [0, 1, 2], [], []⟩, ⟨[2, 3], [38, 39, 44, 45], [0, 1], [], []⟩, ⟨[2, 3, 4], [38, 39, 44, 45], [0, 1], [], []⟩, ⟨[], [38, 39, 40, 41, 42, 43], [0, 1, 2, 3, 4, 5], [], []⟩, ⟨[6], [38, 39, 40, 41, 42, 43], [0, 1, 2, 3, 4, 5], [], []⟩, ⟨[2, 3, 4, 5, 6, 7], [38, 39], [0, 1], [8], []⟩] tok (by kernel_rfl) (by kernel_rfl) ?_
          refine Wk.on ?_
          refine ⟨⟨rfl, rfl, rfl, by rw [ints_len]; omega⟩, fun hin => ?_, fun hnew => ?_⟩
          · refine Wk.on ?_
            exact Again.under (pos + 1, q, [a0, a1, a2 ++ [(pos : Int)], a3]) (Under.wk [] ⟨rfl, rfl, Nat.le_of_ble_eq_true rfl, Nat.le_of_ble_eq_true rfl⟩ rfl ⟨Or.inl rfl, Or.inl rfl, Or.inl rfl, Or.inl rfl, Or.inl rfl, Or.inl rfl, trivial⟩ ⟨Or.inr (Or.inl (Or.inr ⟨rfl, rfl, ⟨rfl, rfl, by simp⟩, rfl, wk_tail _ _ q⟩)), Or.inl rfl, Or.inl (congrArg ABlk.own (ints_ren _ _).symm), Or.inl rfl, Or.inl (congrArg ABlk.ro (ints_ren _ _).symm), Or.inl rfl, Or.inl (congrArg (ABlk.row 3 1) (ints_ren _ _).symm), Or.inl (congrArg (ABlk.row 3 1) (ints_ren _ _).symm), Or.inl ((congrArg (ABlk.row 3 1) (app_in a2 pos)).trans (congrArg (ABlk.row 3 1) (ints_ren _ _).symm)), Or.inl (congrArg (ABlk.row 3 1) (ints_ren _ _).symm), trivial⟩ rfl (by simp [tupA, hpLt, tmLt, AV.lt, AE.lt, AC.lt, LL_cons, LL_nil, idOk, ABlk.lt, ints_LL, GB, tab64_LL, gC, wB, giC, noneB, putB, putS, nils_LL, rwC, rwH, List.replicate]) (by simp [tupA, hpLt, tmLt, AV.lt, AE.lt, AC.lt, LL_cons, LL_nil, idOk, ABlk.lt, ints_LL, GB, tab64_LL, gC, wB, giC, noneB, putB, putS, nils_LL, rwC, rwH, List.replicate])) ⟨by show pos + 1 ≤ g.n; omega, hput.symm, by simp only [List.length_cons, List.length_nil]; omega⟩ (by show g.n - (pos + 1) < g.n - pos; omega)
          · refine ⟨⟨Nat.le_of_ble_eq_true rfl, by show ((a2.length + 1 : Nat) : Int) * 8 ≤ _; omega, by omega⟩, ?_⟩
            refine Wk.on ?_
            exact Again.under (pos + 1, q, [a0, a1, a2 ++ [(pos : Int)], a3]) (Under.wk [(8, 11)] ⟨rfl, rfl, Nat.le_of_ble_eq_true rfl, Nat.le_of_ble_eq_true rfl⟩ rfl ⟨Or.inl rfl, Or.inl rfl, Or.inl rfl, Or.inl rfl, Or.inl rfl, Or.inl rfl, trivial⟩ ⟨Or.inr (Or.inl (Or.inr ⟨rfl, rfl, row_len _ _ _, rfl, wk_tail _ _ q⟩)), Or.inl rfl, Or.inl (congrArg ABlk.own (ints_ren _ _).symm), Or.inl rfl, Or.inl (congrArg ABlk.ro (ints_ren _ _).symm), Or.inl rfl, Or.inl (congrArg (ABlk.row 3 1) (ints_ren _ _).symm), Or.inl (congrArg (ABlk.row 3 1) (ints_ren _ _).symm), Or.inl ((congrArg (ABlk.row 3 1) (app_new a2 pos)).trans (congrArg (ABlk.row 3 1) (ints_ren _ _).symm)), Or.inl (congrArg (ABlk.row 3 1) (ints_ren _ _).symm), trivial⟩ rfl (by simp [tupA, hpLt, tmLt, AV.lt, AE.lt, AC.lt, LL_cons, LL_nil, idOk, ABlk.lt, ints_LL, GB, tab64_LL, gC, wB, giC, noneB, putB, putS, nils_LL, rwC, rwH, List.replicate]) (by simp [tupA, hpLt, tmLt, AV.lt, AE.lt, AC.lt, LL_cons, LL_nil, idOk, ABlk.lt, ints_LL, GB, tab64_LL, gC, wB, giC, noneB, putB, putS, nils_LL, rwC, rwH, List.replicate])) ⟨by show pos + 1 ≤ g.n; omega, hput.symm, by simp only [List.length_cons, List.length_nil]; omega⟩ (by show g.n - (pos + 1) < g.n - pos; omega)
        rcases l with _ | l
        · simp only [List.length_cons, List.length_nil] at hrp hs1 hVp h3
          have hal : a3.length ≤ 8 := hVm _ (by simp)
          simp only [putS, rwC, rwH, List.cons_append, List.nil_append, List.length_cons, List.length_nil, Nat.reduceAdd]
          have hg2 : (ints (wL w)).getD (0 + pos * 1) (.int .i64 0) = .int .i64 (3 : Int) := hget
          refine Wk.on ?_
          rw [decide_eq_true (show ((pos : Nat) : Int) < ((g.n : Nat) : Int) by omega)]
          refine Wk.on ?_
          rw [Int.toNat_natCast, hg2]
          refine Wk.on ?_
          refine Tr.cap 5 3 1 rfl rfl fun c hc => ?_
          refine Tr.draw (md := true) [⟨[], [39, 40, 41, 42, 43, 44, 45, 46], [], [], [9]⟩, ⟨[], [38, 40, 41, 42, 43, 44, 45, 46], [0], [], [9]⟩, ⟨[], [38, 39, 41, 44, 45], [0, 1], [], []⟩, ⟨[], [38, 39, 40, 44, 45], [0, 1, 2], [], []⟩, ⟨[2, 3], [38, 39, 44, 45], [0, 1], [], []⟩, ⟨[2, 3, 4], [38, 39, 44, 45], [0, 1], [], []⟩, ⟨[], [38, 39, 40, 41, 42, 43], [0, 1, 2, 3, 4, 5], [], []⟩, ⟨[6], [38, 39, 40, 41, 42, 43], [0, 1, 2, 3, 4, 5], [], []⟩, ⟨[2, 3, 4, 5, 6, 7], [38, 39], [0, 1], [9], []⟩] tok (by kernel_rfl) (by kernel_rfl) ?_
          refine Wk.on ?_
          refine ⟨⟨rfl, rfl, rfl, by rw [ints_len]; omega⟩, fun hin => ?_, fun hnew => ?_⟩
          · refine Wk.on ?_
            exact Again.under (pos + 1, q, [a0, a1, a2, a3 ++ [(pos : Int)]]) (Under.wk [] ⟨rfl, rfl, Nat.le_of_ble_eq_true rfl, Nat.le_of_ble_eq_true rfl⟩ rfl ⟨Or.inl rfl, Or.inl rfl, Or.inl rfl, Or.inl rfl, Or.inl rfl, Or.inl rfl, trivial⟩ ⟨Or.inr (Or.inl (Or.inr ⟨rfl, rfl, rfl, ⟨rfl, rfl, by simp⟩, wk_tail _ _ q⟩)), Or.inl rfl, Or.inl (congrArg ABlk.own (ints_ren _ _).symm), Or.inl rfl, Or.inl (congrArg ABlk.ro (ints_ren _ _).symm), Or.inl rfl, Or.inl (congrArg (ABlk.row 3 1) (ints_ren _ _).symm), Or.inl (congrArg (ABlk.row 3 1) (ints_ren _ _).symm), Or.inl (congrArg (ABlk.row 3 1) (ints_ren _ _).symm), Or.inl ((congrArg (ABlk.row 3 1) (app_in a3 pos)).trans (congrArg (ABlk.row 3 1) (ints_ren _ _).symm)), trivial⟩ rfl (by simp [tupA, hpLt, tmLt, AV.lt, AE.lt, AC.lt, LL_cons, LL_nil, idOk, ABlk.lt, ints_LL, GB, tab64_LL, gC, wB, giC, noneB, putB, putS, nils_LL, rwC, rwH, List.replicate]) (by simp [tupA, hpLt, tmLt, AV.lt, AE.lt, AC.lt, LL_cons, LL_nil, idOk, ABlk.lt, ints_LL, GB, tab64_LL, gC, wB, giC, noneB, putB, putS, nils_LL, rwC, rwH, List.replicate])) ⟨by show pos + 1 ≤ g.n; omega, hput.symm, by simp only [List.length_cons, List.length_nil]; omega⟩ (by show g.n - (pos + 1) < g.n - pos; omega)
          · refine ⟨⟨Nat.le_of_ble_eq_true rfl, by show ((a3.length + 1 : Nat) : Int) * 8 ≤ _; omega, by omega⟩, ?_⟩
            refine Wk.on ?_
            exact Again.under (pos + 1, q, [a0, a1, a2, a3 ++ [(pos : Int)]]) (Under.wk [(9, 11)] ⟨rfl, rfl, Nat.le_of_ble_eq_true rfl, Nat.le_of_ble_eq_true rfl⟩ rfl ⟨Or.inl rfl, Or.inl rfl, Or.inl rfl, Or.inl rfl, Or.inl rfl, Or.inl rfl, trivial⟩ ⟨Or.inr (Or.inl (Or.inr ⟨rfl, rfl, rfl, row_len _ _ _, wk_tail _ _ q⟩)), Or.inl rfl, Or.inl (congrArg ABlk.own (ints_ren _ _).symm), Or.inl rfl, Or.inl (congrArg ABlk.ro (ints_ren _ _).symm), Or.inl rfl, Or.inl (congrArg (ABlk.row 3 1) (ints_ren _ _).symm), Or.inl (congrArg (ABlk.row 3 1) (ints_ren _ _).symm), Or.inl (congrArg (ABlk.row 3 1) (ints_ren _ _).symm), Or.inl ((congrArg (ABlk.row 3 1) (app_new a3 pos)).trans (congrArg (ABlk.row 3 1) (ints_ren _ _).symm)), trivial⟩ rfl (by simp [tupA, hpLt, tmLt, AV.lt, AE.lt, AC.lt, LL_cons, LL_nil, idOk, ABlk.lt, ints_LL, GB, tab64_LL, gC, wB, giC, noneB, putB, putS, nils_LL, rwC, rwH, List.replicate]) (by simp [tupA, hpLt, tmLt, AV.lt, AE.lt, AC.lt, LL_cons, LL_nil, idOk, ABlk.lt, ints_LL, GB, tab64_LL, gC, wB, giC, noneB, putB, putS, nils_LL, rwC, rwH, List.replicate])) ⟨by show pos + 1 ≤ g.n; omega, hput.symm, by simp only [List.length_cons, List.length_nil]; omega⟩ (by show g.n - (pos + 1) < g.n - pos; omega)
        rcases l with _ | l
        · simp only [List.length_cons, List.length_nil] at hrp hs1 hVp h3
          rcases q with _ | q
          · omega
          simp only [putS, rwC, rwH, List.cons_append, List.nil_append, List.length_cons, List.length_nil, Nat.reduceAdd]
          have hg2 : (ints (wL w)).getD (0 + pos * 1) (.int .i64 0) = .int .i64 (4 : Int) := hget
          refine Wk.on ?_
          rw [decide_eq_true (show ((pos : Nat) : Int) < ((g.n : Nat) : Int) by omega)]
          refine Wk.on ?_
          rw [Int.toNat_natCast, hg2]
          refine Wk.on ?_
          refine Tr.draw (md := true) [⟨[], [39, 40, 41, 42, 43, 44, 45, 46], [], [], []⟩, ⟨[], [38, 40, 41, 42, 43, 44, 45, 46], [0], [], []⟩, ⟨[], [38, 39, 41, 44, 45], [0, 1], [], []⟩, ⟨[], [38, 39, 40, 44, 45], [0, 1, 2], [], []⟩, ⟨[2, 3], [38, 39, 44, 45], [0, 1], [], []⟩, ⟨[2, 3, 4], [38, 39, 44, 45], [0, 1], [], []⟩, ⟨[], [38, 39, 40, 41, 42, 43], [0, 1, 2, 3, 4, 5], [], []⟩, ⟨[6], [38, 39, 40, 41, 42, 43], [0, 1, 2, 3, 4, 5], [], []⟩, ⟨[2, 3, 4, 5, 6, 7], [38, 39], [0, 1], [], []⟩] tok (by kernel_rfl) (by kernel_rfl) ?_
          refine Wk.on ?_
          exact Again.under (pos + 1, q, [a0, a1, a2, a3, [(pos : Int)]]) (Under.wk [(10, 11)] ⟨rfl, rfl, Nat.le_of_ble_eq_true rfl, Nat.le_of_ble_eq_true rfl⟩ rfl ⟨Or.inl rfl, Or.inl rfl, Or.inl rfl, Or.inl rfl, Or.inl rfl, Or.inl rfl, trivial⟩ ⟨Or.inr (Or.inl (Or.inr ⟨rfl, rfl, rfl, rfl, rfl, wk_tail _ _ q⟩)), Or.inl rfl, Or.inl (congrArg ABlk.own (ints_ren _ _).symm), Or.inl rfl, Or.inl (congrArg ABlk.ro (ints_ren _ _).symm), Or.inl rfl, Or.inl (congrArg (ABlk.row 3 1) (ints_ren _ _).symm), Or.inl (congrArg (ABlk.row 3 1) (ints_ren _ _).symm), Or.inl (congrArg (ABlk.row 3 1) (ints_ren _ _).symm), Or.inl (congrArg (ABlk.row 3 1) (ints_ren _ _).symm), Or.inl rfl, trivial⟩ rfl (by simp [tupA, hpLt, tmLt, AV.lt, AE.lt, AC.lt, LL_cons, LL_nil, idOk, ABlk.lt, ints_LL, GB, tab64_LL, gC, wB, giC, noneB, putB, putS, nils_LL, rwC, rwH, List.replicate]) (by simp [tupA, hpLt, tmLt, AV.lt, AE.lt, AC.lt, LL_cons, LL_nil, idOk, ABlk.lt, ints_LL, GB, tab64_LL, gC, wB, giC, noneB, putB, putS, nils_LL, rwC, rwH, List.replicate])) ⟨by show pos + 1 ≤ g.n; omega, hput.symm, by simp only [List.length_cons, List.length_nil]; omega⟩ (by show g.n - (pos + 1) < g.n - pos; omega)
        simp only [List.length_cons, List.length_nil] at hrp
        omega
      rcases V with _ | ⟨a5, V⟩
      · rcases l with _ | l
        · simp only [List.length_cons, List.length_nil] at hrp hs1 hVp h3
          have hal : a0.length ≤ 8 := hVm _ (by simp)
          simp only [putS, rwC, rwH, List.cons_append, List.nil_append, List.length_cons, List.length_nil, Nat.reduceAdd]
          have hg2 : (ints (wL w)).getD (0 + pos * 1) (.int .i64 0) = .int .i64 (0 : Int) := hget
          refine Wk.on ?_
          rw [decide_eq_true (show ((pos : Nat) : Int) < ((g.n : Nat) : Int) by omega)]
          refine Wk.on ?_
          rw [Int.toNat_natCast, hg2]
          refine Wk.on ?_
          refine Tr.cap 5 0 1 rfl rfl fun c hc => ?_
          refine Tr.draw (md := true) [⟨[], [39, 40, 41, 42, 43, 44, 45, 46], [], [], [6]⟩, ⟨[], [38, 40, 41, 42, 43, 44, 45, 46], [0], [], [6]⟩, ⟨[], [38, 39, 41, 44, 45], [0, 1], [], []⟩, ⟨[], [38, 39, 40, 44, 45], [0, 1, 2], [], []⟩, ⟨[2, 3], [38, 39, 44, 45], [0, 1], [], []⟩, ⟨[2, 3, 4], [38, 39, 44, 45], [0, 1], [], []⟩, ⟨[], [38, 39, 40, 41, 42, 43], [0, 1, 2, 3, 4, 5], [], []⟩, ⟨[6], [38, 39, 40, 41, 42, 43], [0, 1, 2, 3, 4, 5], [], []⟩, ⟨[2, 3, 4, 5, 6, 7], [38, 39], [0, 1], [6], []⟩] tok (by kernel_rfl) (by kernel_rfl) ?_
          refine Wk.on ?_
          refine ⟨⟨rfl, rfl, rfl, by rw [ints_len]; omega⟩, fun hin => ?_, fun hnew => ?_⟩
          · refine Wk.on ?_
            exact Again.under (pos + 1, q, [a0 ++ [(pos : Int)], a1, a2, a3, a4]) (Under.wk [] ⟨rfl, rfl, Nat.le_of_ble_eq_true rfl, Nat.le_of_ble_eq_true rfl⟩ rfl ⟨Or.inl rfl, Or.inl rfl, Or.inl rfl, Or.inl rfl, Or.inl rfl, Or.inl rfl, trivial⟩ ⟨Or.inr (Or.inl (Or.inr ⟨⟨rfl, rfl, by simp⟩, rfl, rfl, rfl, rfl, wk_tail _ _ q⟩)), Or.inl rfl, Or.inl (congrArg ABlk.own (ints_ren _ _).symm), Or.inl rfl, Or.inl (congrArg ABlk.ro (ints_ren _ _).symm), Or.inl rfl, Or.inl ((congrArg (ABlk.row 3 1) (app_in a0 pos)).trans (congrArg (ABlk.row 3 1) (ints_ren _ _).symm)), Or.inl (congrArg (ABlk.row 3 1) (ints_ren _ _).symm), Or.inl (congrArg (ABlk.row 3 1) (ints_ren _ _).symm), Or.inl (congrArg (ABlk.row 3 1) (ints_ren _ _).symm), Or.inl (congrArg (ABlk.row 3 1) (ints_ren _ _).symm), trivial⟩ rfl (by simp [tupA, hpLt, tmLt, AV.lt, AE.lt, AC.lt, LL_cons, LL_nil, idOk, ABlk.lt, ints_LL, GB, tab64_LL, gC, wB, giC, noneB, putB, putS, nils_LL, rwC, rwH, List.replicate]) (by simp [tupA, hpLt, tmLt, AV.lt, AE.lt, AC.lt, LL_cons, LL_nil, idOk, ABlk.lt, ints_LL, GB, tab64_LL, gC, wB, giC, noneB, putB, putS, nils_LL, rwC, rwH, List.replicate])) ⟨by show pos + 1 ≤ g.n; omega, hput.symm, by simp only [List.length_cons, List.length_nil]; omega⟩ (by show g.n - (pos + 1) < g.n - pos; omega)
          · refine ⟨⟨Nat.le_of_ble_eq_true rfl, by show ((a0.length + 1 : Nat) : Int) * 8 ≤ _; omega, by omega⟩, ?_⟩
            refine Wk.on ?_
            exact Again.under (pos + 1, q, [a0 ++ [(pos : Int)], a1, a2, a3, a4]) (Under.wk [(6, 12)] ⟨rfl, rfl, Nat.le_of_ble_eq_true rfl, Nat.le_of_ble_eq_true rfl⟩ rfl ⟨Or.inl rfl, Or.inl rfl, Or.inl rfl, Or.inl rfl, Or.inl rfl, Or.inl rfl, trivial⟩ ⟨Or.inr (Or.inl (Or.inr ⟨row_len _ _ _, rfl, rfl, rfl, rfl, wk_tail _ _ q⟩)), Or.inl rfl, Or.inl (congrArg ABlk.own (ints_ren _ _).symm), Or.inl rfl, Or.inl (congrArg ABlk.ro (ints_ren _ _).symm), Or.inl rfl, Or.inl ((congrArg (ABlk.row 3 1) (app_new a0 pos)).trans (congrArg (ABlk.row 3 1) (ints_ren _ _).symm)), Or.inl (congrArg (ABlk.row 3 1) (ints_ren _ _).symm), Or.inl (congrArg (ABlk.row 3 1) (ints_ren _ _).symm), Or.inl (congrArg (ABlk.row 3 1) (ints_ren _ _).symm), Or.inl (congrArg (ABlk.row 3 1) (ints_ren _ _).symm), trivial⟩ rfl (by simp [tupA, hpLt, tmLt, AV.lt, AE.lt, AC.lt, LL_cons, LL_nil, idOk, ABlk.lt, ints_LL, GB, tab64_LL, gC, wB, giC, noneB, putB, putS, nils_LL, rwC, rwH, List.replicate]) (by simp [tupA, hpLt, tmLt, AV.lt, AE.lt, AC.lt, LL_cons, LL_nil, idOk, ABlk.lt, ints_LL, GB, tab64_LL, gC, wB, giC, noneB, putB, putS, nils_LL, rwC, rwH, List.replicate])) ⟨by show pos + 1 ≤ g.n; omega, hput.symm, by simp only [List.length_cons, List.length_nil]; omega⟩ (by show g.n - (pos + 1) < g.n - pos; omega)
        rcases l with _ | l
        · simp only [List.length_cons, List.length_nil] at hrp hs1 hVp h3
          have hal : a1.length ≤ 8 := hVm _ (by simp)
          simp only [putS, rwC, rwH, List.cons_append, List.nil_append, List.length_cons, List.length_nil, Nat.reduceAdd]
          have hg2 : (ints (wL w)).getD (0 + pos * 1) (.int .i64 0) = .int .i64 (1 : Int) := hget
          refine Wk.on ?_
          rw [decide_eq_true (show ((pos : Nat) : Int) < ((g.n : Nat) : Int) by omega)]
          refine Wk.on ?_
          rw [Int.toNat_natCast, hg2]
          refine Wk.on ?_
          refine Tr.cap 5 1 1 rfl rfl fun c hc => ?_
          refine Tr.draw (md := true) [⟨[], [39, 40, 41, 42, 43, 44, 45, 46], [], [], [7]⟩, ⟨[], [38, 40, 41, 42, 43, 44, 45, 46], [0], [], [7]⟩, ⟨[], [38, 39, 41, 44, 45], [0, 1], [], []⟩, ⟨[], [38, 39, 40, 44, 45], [0, 1, 2], [], []⟩, ⟨[2, 3], [38, 39, 44, 45], [0, 1], [], []⟩, ⟨[2, 3, 4], [38, 39, 44, 45], [0, 1], [], []⟩, ⟨[], [38, 39, 40, 41, 42, 43], [0, 1, 2, 3, 4, 5], [], []⟩, ⟨[6], [38, 39, 40, 41, 42, 43], [0, 1, 2, 3, 4, 5], [], []⟩, ⟨[2, 3, 4, 5, 6, 7], [38, 39], [0, 1], [7], []⟩] tok (by kernel_rfl) (by kernel_rfl) ?_
          refine Wk.on ?_
          refine ⟨⟨rfl, rfl, rfl, by rw [ints_len]; omega⟩, fun hin => ?_, fun hnew => ?_⟩
          · refine Wk.on ?_
            exact Again.under (pos + 1, q, [a0, a1 ++ [(pos : Int)], a2, a3, a4]) (Under.wk [] ⟨rfl, rfl, Nat.le_of_ble_eq_true rfl, Nat.le_of_ble_eq_true rfl⟩ rfl ⟨Or.inl rfl, Or.inl rfl, Or.inl rfl, Or.inl rfl, Or.inl rfl, Or.inl rfl, trivial⟩ ⟨Or.inr (Or.inl (Or.inr ⟨rfl, ⟨rfl, rfl, by simp⟩, rfl, rfl, rfl, wk_tail _ _ q⟩)), Or.inl rfl, Or.inl (congrArg ABlk.own (ints_ren _ _).symm), Or.inl rfl, Or.inl (congrArg ABlk.ro (ints_ren _ _).symm), Or.inl rfl, Or.inl (congrArg (ABlk.row 3 1) (ints_ren _ _).symm), Or.inl ((congrArg (ABlk.row 3 1) (app_in a1 pos)).trans (congrArg (ABlk.row 3 1) (ints_ren _ _).symm)), Or.inl (congrArg (ABlk.row 3 1) (ints_ren _ _).symm), Or.inl (congrArg (ABlk.row 3 1) (ints_ren _ _).symm), Or.inl (congrArg (ABlk.row 3 1) (ints_ren _ _).symm), trivial⟩ rfl (by simp [tupA, hpLt, tmLt, AV.lt, AE.lt, AC.lt, LL_cons, LL_nil, idOk, ABlk.lt, ints_LL, GB, tab64_LL, gC, wB, giC, noneB, putB, putS, nils_LL, rwC, rwH, List.replicate]) (by simp [tupA, hpLt, tmLt, AV.lt, AE.lt, AC.lt, LL_cons, LL_nil, idOk, ABlk.lt, ints_LL, GB, tab64_LL, gC, wB, giC, noneB, putB, putS, nils_LL, rwC, rwH, List.replicate])) ⟨by show pos + 1 ≤ g.n; omega, hput.symm, by simp only [List.length_cons, List.length_nil]; omega⟩ (by show g.n - (pos + 1) < g.n - pos; omega)
          · refine ⟨⟨Nat.le_of_ble_eq_true rfl, by show ((a1.length + 1 : Nat) : Int) * 8 ≤ _; omega, by omega⟩, ?_⟩
            refine Wk.on ?_
            exact Again.under (pos + 1, q, [a0, a1 ++ [(pos : Int)], a2, a3, a4]) (Under.wk [(7, 12)] ⟨rfl, rfl, Nat.le_of_ble_eq_true rfl, Nat.le_of_ble_eq_true rfl⟩ rfl ⟨Or.inl rfl, Or.inl rfl, Or.inl rfl, Or.inl rfl, Or.inl rfl, Or.inl rfl, trivial⟩ ⟨Or.inr (Or.inl (Or.inr ⟨rfl, row_len _ _ _, rfl, rfl, rfl, wk_tail _ _ q⟩)), Or.inl rfl, Or.inl (congrArg ABlk.own (ints_ren _ _).symm), Or.inl rfl, Or.inl (congrArg ABlk.ro (ints_ren _ _).symm), Or.inl rfl, Or.inl (congrArg (ABlk.row 3 1) (ints_ren _ _).symm), Or.inl ((congrArg (ABlk.row 3 1) (app_new a1 pos)).trans (congrArg (ABlk.row 3 1) (ints_ren _ _).symm)), Or.inl (congrArg (ABlk.row 3 1) (ints_ren _ _).symm), Or.inl (congrArg (ABlk.row 3 1) (ints_ren _ _).symm), Or.inl (congrArg (ABlk.row 3 1) (ints_ren _ _).symm), trivial⟩ rfl (by simp [tupA, hpLt, tmLt, AV.lt, AE.lt, AC.lt, LL_cons, LL_nil, idOk, ABlk.lt, ints_LL, GB, tab64_LL, gC, wB, giC, noneB, putB, putS, nils_LL, rwC, rwH, List.replicate]) (by simp [tupA, hpLt, tmLt, AV.lt, AE.lt, AC.lt, LL_cons, LL_nil, idOk, ABlk.lt, ints_LL, GB, tab64_LL, gC, wB, giC, noneB, putB, putS, nils_LL, rwC, rwH, List.replicate])) ⟨by show pos + 1 ≤ g.n; omega, hput.symm, by simp only [List.length_cons, List.length_nil]; omega⟩ (by show g.n - (pos + 1) < g.n - pos; omega)
        rcases l with _ | l
        · simp only [List.length_cons, List.length_nil] at hrp hs1 hVp h3
          have hal : a2.length ≤ 8 := hVm _ (by simp)
          simp only [putS, rwC, rwH, List.cons_append, List.nil_append, List.length_cons, List.length_nil, Nat.reduceAdd]
          have hg2 : (ints (wL w)).getD (0 + pos * 1) (.int .i64 0) = .int .i64 (2 : Int) := hget
          refine Wk.on ?_
          rw [decide_eq_true (show ((pos : Nat) : Int) < ((g.n : Nat) : Int) by omega)]
          refine Wk.on ?_
          rw [Int.toNat_natCast, hg2]
          refine Wk.on ?_
          refine Tr.cap 5 2 1 rfl rfl fun c hc => ?_
          refine Tr.draw (md := true) [⟨[], [39, 40, 41, 42, 43, 44, 45, 46], [], [], [8]⟩, ⟨[], [38, 40, 41, 42, 43, 44, 45, 46], [0], [], [8]⟩, ⟨[], [38, 39, 41, 44, 45], [0, 1], [], []⟩, ⟨[], [38, 39, 40, 44, 45], [0, 1, 2], [], []⟩, ⟨[2, 3], [38, 39, 44, 45], [0, 1], [], []⟩, ⟨[2, 3, 4], [38, 39, 44, 45], [0, 1], [], []⟩, ⟨[], [38, 39, 40, 41, 42, 43], [0, 1, 2, 3, 4, 5], [], []⟩, ⟨[6], [38, 39, 40, 41, 42, 43], [0, 1, 2, 3, 4, 5], [], []⟩, ⟨[2, 3, 4, 5, 6, 7], [38, 39], [0, 1], [8], []⟩] tok (by kernel_rfl) (by kernel_rfl) ?_
          refine Wk.on ?_
          refine ⟨⟨rfl, rfl, rfl, by rw [ints_len]; omega⟩, fun hin => ?_, fun hnew => ?_⟩
          · refine Wk.on ?_
            exact Again.under (pos + 1, q, [a0, a1, a2 ++ [(pos : Int)], a3, a4]) (Under.wk [] ⟨rfl, rfl, Nat.le_of_ble_eq_true rfl, Nat.le_of_ble_eq_true rfl⟩ rfl ⟨Or.inl rfl, Or.inl rfl, Or.inl rfl, Or.inl rfl, Or.inl rfl, Or.inl rfl, trivial⟩ ⟨Or.inr (Or.inl (Or.inr ⟨rfl, rfl, ⟨rfl, rfl, by simp⟩, rfl, rfl, wk_tail _ _ q⟩)), Or.inl rfl, Or.inl (congrArg ABlk.own (ints_ren _ _).symm), Or.inl rfl, Or.inl (congrArg ABlk.ro (ints_ren _ _).symm), Or.inl rfl, Or.inl (congrArg (ABlk.row 3 1) (ints_ren _ _).symm), Or.inl (congrArg (ABlk.row 3 1) (ints_ren _ _).symm), Or.inl ((congrArg (ABlk.row 3 1) (app_in a2 pos)).trans (congrArg (ABlk.row 3 1) (ints_ren _ _).symm)), Or.inl (congrArg (ABlk.row 3 1) (ints_ren _ _).symm), Or.inl (congrArg (ABlk.row 3 1) (ints_ren _ _).symm), trivial⟩ rfl (by simp [tupA, hpLt, tmLt, AV.lt, AE.lt, AC.lt, LL_cons, LL_nil, idOk, ABlk.lt, ints_LL, GB, tab64_LL, gC, wB, giC, noneB, putB, putS, nils_LL, rwC, rwH, List.replicate]) (by simp [tupA, hpLt, tmLt, AV.lt, AE.lt, AC.lt, LL_cons, LL_nil, idOk, ABlk.lt, ints_LL, GB, tab64_LL, gC, wB, giC, noneB, putB, putS, nils_LL, rwC, rwH, List.replicate])) ⟨by show pos + 1 ≤ g.n; omega, hput.symm, by simp only [List.length_cons, List.length_nil]; omega⟩ (by show g.n - (pos + 1) < g.n - pos; omega)
          · refine ⟨⟨Nat.le_of_ble_eq_true rfl, by show ((a2.length + 1 : Nat) : Int) * 8 ≤ _; omega, by omega⟩, ?_⟩
            refine Wk.on ?_
            exact Again.under (pos + 1, q, [a0, a1, a2 ++ [(pos : Int)], a3, a4]) (Under.wk [(8, 12)] ⟨rfl, rfl, Nat.le_of_ble_eq_true rfl, Nat.le_of_ble_eq_true rfl⟩ rfl ⟨Or.inl rfl, Or.inl rfl, Or.inl rfl, Or.inl rfl, Or.inl rfl, Or.inl rfl, trivial⟩ ⟨Or.inr (Or.inl (Or.inr ⟨rfl, rfl, row_len _ _ _, rfl, rfl, wk_tail _ _ q⟩)), Or.inl rfl, Or.inl (congrArg ABlk.own (ints_ren _ _).symm), Or.inl rfl, Or.inl (congrArg ABlk.ro (ints_ren _ _).symm), Or.inl rfl, Or.inl (congrArg (ABlk.row 3 1) (ints_ren _ _).symm), Or.inl (congrArg (ABlk.row 3 1) (ints_ren _ _).symm), Or.inl ((congrArg (ABlk.row 3 1) (app_new a2 pos)).trans (congrArg (ABlk.row 3 1) (ints_ren _ _).symm)), Or.inl (congrArg (ABlk.row 3 1) (ints_ren _ _).symm), Or.inl (congrArg (ABlk.row 3 1) (ints_ren _ _).symm), trivial⟩ rfl (by simp [tupA, hpLt, tmLt, AV.lt, AE.lt, AC.lt, LL_cons, LL_nil, idOk, ABlk.lt, ints_LL, GB, tab64_LL, gC, wB, giC, noneB, putB, putS, nils_LL, rwC, rwH, List.replicate]) (by simp [tupA, hpLt, tmLt, AV.lt, AE.lt, AC.lt, LL_cons, LL_nil, idOk, ABlk.lt, ints_LL, GB, tab64_LL, gC, wB, giC, noneB, putB, putS, nils_LL, rwC, rwH, List.replicate])) ⟨by show pos + 1 ≤ g.n; omega, hput.symm, by simp only [List.length_cons, List.length_nil]; omega⟩ (by show g.n - (pos + 1) < g.n - pos; omega)
        rcases l with _ | l
        · simp only [List.length_cons, List.length_nil] at hrp hs1 hVp h3
          have hal : a3.length ≤ 8 := hVm _ (by simp)
          simp only [putS, rwC, rwH, List.cons_append, List.nil_append, List.length_cons, List.length_nil, Nat.reduceAdd]
          have hg2 : (ints (wL w)).getD (0 + pos * 1) (.int .i64 0) = .int .i64 (3 : Int) := hget
          refine Wk.on ?_
          rw [decide_eq_true (show ((pos : Nat) : Int) < ((g.n : Nat) : Int) by omega)]
          refine Wk.on ?_
          rw [Int.toNat_natCast, hg2]
          refine Wk.on ?_
          refine Tr.cap 5 3 1 rfl rfl fun c hc => ?_
          refine Tr.draw (md := true) [⟨[], [39, 40, 41, 42, 43, 44, 45, 46], [], [], [9]⟩, ⟨[], [38, 40, 41, 42, 43, 44, 45, 46], [0], [], [9]⟩, ⟨[], [38, 39, 41, 44, 45], [0, 1], [], []⟩, ⟨[], [38, 39, 40, 44, 45], [0, 1, 2], [], []⟩, ⟨[2, 3], [38, 39, 44, 45], [0, 1], [], []⟩, ⟨[2, 3, 4], [38, 39, 44, 45], [0, 1], [], []⟩, ⟨[], [38, 39, 40, 41, 42, 43], [0, 1, 2, 3, 4, 5], [], []⟩, ⟨[6], [38, 39, 40, 41, 42, 43], [0, 1, 2, 3, 4, 5], [], []⟩, ⟨[2, 3, 4, 5, 6, 7], [38, 39], [0, 1], [9], []⟩] tok (by kernel_rfl) (by kernel_rfl) ?_
          refine Wk.on ?_
          refine ⟨⟨rfl, rfl, rfl, by rw [ints_len]; omega⟩, fun hin => ?_, fun hnew => ?_⟩
          · refine Wk.on ?_
            exact Again.under (pos + 1, q, [a0, a1, a2, a3 ++ [(pos : Int)], a4]) (Under.wk [] ⟨rfl, rfl, Nat.le_of_ble_eq_true rfl, Nat.le_of_ble_eq_true rfl⟩ rfl ⟨Or.inl rfl, Or.inl rfl, Or.inl rfl, Or.inl rfl, Or.inl rfl, Or.inl rfl, trivial⟩ ⟨Or.inr (Or.inl (Or.inr ⟨rfl, rfl, rfl, ⟨rfl, rfl, by simp⟩, rfl, wk_tail _ _ q⟩)), Or.inl rfl, Or.inl (congrArg ABlk.own (ints_ren _ _).symm), Or.inl rfl, Or.inl (congrArg ABlk.ro (ints_ren _ _).symm), Or.inl rfl, Or.inl (congrArg (ABlk.row 3 1) (ints_ren _ _).symm), Or.inl (congrArg (ABlk.row 3 1) (ints_ren _ _).symm), Or.inl (congrArg (ABlk.row 3 1) (ints_ren _ _).symm), Or.inl ((congrArg (ABlk.row 3 1) (app_in a3 pos)).trans (congrArg (ABlk.row 3 1) (ints_ren _ _).symm)), Or.inl (congrArg (ABlk.row 3 1) (ints_ren _ _).symm), trivial⟩ rfl (by simp [tupA, hpLt, tmLt, AV.lt, AE.lt, AC.lt, LL_cons, LL_nil, idOk, ABlk.lt, ints_LL, GB, tab64_LL, gC, wB, giC, noneB, putB, putS, nils_LL, rwC, rwH, List.replicate]) (by simp [tupA, hpLt, tmLt, AV.lt, AE.lt, AC.lt, LL_cons, LL_nil, idOk, ABlk.lt, ints_LL, GB, tab64_LL, gC, wB, giC, noneB, putB, putS, nils_LL, rwC, rwH, List.replicate])) ⟨by show pos + 1 ≤ g.n; omega, hput.symm, by simp only [List.length_cons, List.length_nil]; omega⟩ (by show g.n - (pos + 1) < g.n - pos; omega)
          · refine ⟨⟨Nat.le_of_ble_eq_true rfl, by show ((a3.length + 1 : Nat) : Int) * 8 ≤ _; omega, by omega⟩, ?_⟩
            refine Wk.on ?_
            exact Again.under (pos + 1, q, [a0, a1, a2, a3 ++ [(pos : Int)], a4]) (Under.wk [(9, 12)] ⟨rfl, rfl, Nat.le_of_ble_eq_true rfl, Nat.le_of_ble_eq_true rfl⟩ rfl ⟨Or.inl rfl, Or.inl rfl, Or.inl rfl, Or.inl rfl, Or.inl rfl, Or.inl rfl, trivial⟩ ⟨Or.inr (Or.inl (Or.inr ⟨rfl, rfl, rfl, row_len _ _ _, rfl, wk_tail _ _ q⟩)), Or.inl rfl, Or.inl (congrArg ABlk.own (ints_ren _ _).symm), Or.inl rfl, Or.inl (congrArg ABlk.ro (ints_ren _ _).symm), Or.inl rfl, Or.inl (congrArg (ABlk.row 3 1) (ints_ren _ _).symm), Or.inl (congrArg (ABlk.row 3 1) (ints_ren _ _).symm), Or.inl (congrArg (ABlk.row 3 1) (ints_ren _ _).symm), Or.inl ((congrArg (ABlk.row 3 1) (app_new a3 pos)).trans (congrArg (ABlk.row 3 1) (ints_ren _ _).symm)), Or.inl (congrArg (ABlk.row 3 1) (ints_ren _ _).symm), trivial⟩ rfl (by simp [tupA, hpLt, tmLt, AV.lt, AE.lt, AC.lt, LL_cons, LL_nil, idOk, ABlk.lt, ints_LL, GB, tab64_LL, gC, wB, giC, noneB, putB, putS, nils_LL, rwC, rwH, List.replicate]) (by simp [tupA, hpLt, tmLt, AV.lt, AE.lt, AC.lt, LL_cons, LL_nil, idOk, ABlk.lt, ints_LL, GB, tab64_LL, gC, wB, giC, noneB, putB, putS, nils_LL, rwC, rwH, List.replicate])) ⟨by show pos + 1 ≤ g.n; omega, hput.symm, by simp only [List.length_cons, List.length_nil]; omega⟩ (by show g.n - (pos + 1) < g.n - pos; omega)
        rcases l with _ | l
        · simp only [List.length_cons, List.length_nil] at hrp hs1 hVp h3
          have hal : a4.length ≤ 8 := hVm _ (by simp)
          simp only [putS, rwC, rwH, List.cons_append, List.nil_append, List.length_cons, List.length_nil, Nat.reduceAdd]
          have hg2 : (ints (wL w)).getD (0 + pos * 1) (.int .i64 0) = .int .i64 (4 : Int) := hget
          refine Wk.on ?_
          rw [decide_eq_true (show ((pos : Nat) : Int) < ((g.n : Nat) : Int) by omega)]
          refine Wk.on ?_
          rw [Int.toNat_natCast, hg2]
          refine Wk.on ?_
          refine Tr.cap 5 4 1 rfl rfl fun c hc => ?_
          refine Tr.draw (md := true) [⟨[], [39, 40, 41, 42, 43, 44, 45, 46], [], [], [10]⟩, ⟨[], [38, 40, 41, 42, 43, 44, 45, 46], [0], [], [10]⟩, ⟨[], [38, 39, 41, 44, 45], [0, 1], [], []⟩, ⟨[], [38, 39, 40, 44, 45], [0, 1, 2], [], []⟩, ⟨[2, 3], [38, 39, 44, 45], [0, 1], [], []⟩, ⟨[2, 3, 4], [38, 39, 44, 45], [0, 1], [], []⟩, ⟨[], [38, 39, 40, 41, 42, 43], [0, 1, 2, 3, 4, 5], [], []⟩, ⟨[6], [38, 39, 40, 41, 42, 43], [0, 1, 2, 3, 4, 5], [], []⟩, ⟨[2, 3, 4, 5, 6, 7], [38, 39], [0, 1], [10], []⟩] tok (by kernel_rfl) (by kernel_rfl) ?_
          refine Wk.on ?_
          refine ⟨⟨rfl, rfl, rfl, by rw [ints_len]; omega⟩, fun hin => ?_, fun hnew => ?_⟩
          · refine Wk.on ?_
            exact Again.under (pos + 1, q, [a0, a1, a2, a3, a4 ++ [(pos : Int)]]) (Under.wk [] ⟨rfl, rfl, Nat.le_of_ble_eq_true rfl, Nat.le_of_ble_eq_true rfl⟩ rfl ⟨Or.inl rfl, Or.inl rfl, Or.inl rfl, Or.inl rfl, Or.inl rfl, Or.inl rfl, trivial⟩ ⟨Or.inr (Or.inl (Or.inr ⟨rfl, rfl, rfl, rfl, ⟨rfl, rfl, by simp⟩, wk_tail _ _ q⟩)), Or.inl rfl, Or.inl (congrArg ABlk.own (ints_ren _ _).symm), Or.inl rfl, Or.inl (congrArg ABlk.ro (ints_ren _ _).symm), Or.inl rfl, Or.inl (congrArg (ABlk.row 3 1) (ints_ren _ _).symm), Or.inl (congrArg (ABlk.row 3 1) (ints_ren _ _).symm), Or.inl (congrArg (ABlk.row 3 1) (ints_ren _ _).symm), Or.inl (congrArg (ABlk.row 3 1) (ints_ren _ _).symm), Or.inl ((congrArg (ABlk.row 3 1) (app_in a4 pos)).trans (congrArg (ABlk.row 3 1) (ints_ren _ _).symm)), trivial⟩ rfl (by simp [tupA, hpLt, tmLt, AV.lt, AE.lt, AC.lt, LL_cons, LL_nil, idOk, ABlk.lt, ints_LL, GB, tab64_LL, gC, wB, giC, noneB, putB, putS, nils_LL, rwC, rwH, List.replicate]) (by simp [tupA, hpLt, tmLt, AV.lt, AE.lt, AC.lt, LL_cons, LL_nil, idOk, ABlk.lt, ints_LL, GB, tab64_LL, gC, wB, giC, noneB, putB, putS, nils_LL, rwC, rwH, List.replicate])) ⟨by show pos + 1 ≤ g.n; omega, hput.symm, by simp only [List.length_cons, List.length_nil]; omega⟩ (by show g.n - (pos + 1) < g.n - pos; omega)
          · refine ⟨⟨Nat.le_of_ble_eq_true rfl, by show ((a4.length + 1 : Nat) : Int) * 8 ≤ _; omega, by omega⟩, ?_⟩
            refine Wk.on ?_
            exact Again.under (pos + 1, q, [a0, a1, a2, a3, a4 ++ [(pos : Int)]]) (Under.wk [(10, 12)] ⟨rfl, rfl, Nat.le_of_ble_eq_true rfl, Nat.le_of_ble_eq_true rfl⟩ rfl ⟨Or.inl rfl, Or.inl rfl, Or.inl rfl, Or.inl rfl, Or.inl rfl, Or.inl rfl, trivial⟩ ⟨Or.inr (Or.inl (Or.inr ⟨rfl, rfl, rfl, rfl, row_len _ _ _, wk_tail _ _ q⟩)), Or.inl rfl, Or.inl (congrArg ABlk.own (ints_ren _ _).symm), Or.inl rfl, Or.inl (congrArg ABlk.ro (ints_ren _ _).symm), Or.inl rfl, Or.inl (congrArg (ABlk.row 3 1) (ints_ren _ _).symm), Or.inl (congrArg (ABlk.row 3 1) (ints_ren _ _).symm), Or.inl (congrArg (ABlk.row 3 1) (ints_ren _ _).symm), Or.inl (congrArg (ABlk.row 3 1) (ints_ren _ _).symm), Or.inl ((congrArg (ABlk.row 3 1) (app_new a4 pos)).trans (congrArg (ABlk.row 3 1) (ints_ren _ _).symm)), trivial⟩ rfl (by simp [tupA, hpLt, tmLt, AV.lt, AE.lt, AC.lt, LL_cons, LL_nil, idOk, ABlk.lt, ints_LL, GB, tab64_LL, gC, wB, giC, noneB, putB, putS, nils_LL, rwC, rwH, List.replicate]) (by simp [tupA, hpLt, tmLt, AV.lt, AE.lt, AC.lt, LL_cons, LL_nil, idOk, ABlk.lt, ints_LL, GB, tab64_LL, gC, wB, giC, noneB, putB, putS, nils_LL, rwC, rwH, List.replicate])) ⟨by show pos + 1 ≤ g.n; omega, hput.symm, by simp only [List.length_cons, List.length_nil]; omega⟩ (by show g.n - (pos + 1) < g.n - pos; omega)
        rcases l with _ | l
        · simp only [List.length_cons, List.length_nil] at hrp hs1 hVp h3
          rcases q with _ | q
          · omega
          simp only [putS, rwC, rwH, List.cons_append, List.nil_append, List.length_cons, List.length_nil, Nat.reduceAdd]
          have hg2 : (ints (wL w)).getD (0 + pos * 1) (.int .i64 0) = .int .i64 (5 : Int) := hget
          refine Wk.on ?_
          rw [decide_eq_true (show ((pos : Nat) : Int) < ((g.n : Nat) : Int) by omega)]
          refine Wk.on ?_
          rw [Int.toNat_natCast, hg2]
          refine Wk.on ?_
          refine Tr.draw (md := true) [⟨[], [39, 40, 41, 42, 43, 44, 45, 46], [], [], []⟩, ⟨[], [38, 40, 41, 42, 43, 44, 45, 46], [0], [], []⟩, ⟨[], [38, 39, 41, 44, 45], [0, 1], [], []⟩, ⟨[], [38, 39, 40, 44, 45], [0, 1, 2], [], []⟩, ⟨[2, 3], [38, 39, 44, 45], [0, 1], [], []⟩, ⟨[2, 3, 4], [38, 39, 44, 45], [0, 1], [], []⟩, ⟨[], [38, 39, 40, 41, 42, 43], [0, 1, 2, 3, 4, 5], [], []⟩, ⟨[6], [38, 39, 40, 41, 42, 43], [0, 1, 2, 3, 4, 5], [], []⟩, ⟨[2, 3, 4, 5, 6, 7], [38, 39], [0, 1], [], []⟩] tok (by kernel_rfl) (by kernel_rfl) ?_
          refine Wk.on ?_
          exact Again.under (pos + 1, q, [a0, a1, a2, a3, a4, [(pos : Int)]]) (Under.wk [(11, 12)] ⟨rfl, rfl, Nat.le_of_ble_eq_true rfl, Nat.le_of_ble_eq_true rfl⟩ rfl ⟨Or.inl rfl, Or.inl rfl, Or.inl rfl, Or.inl rfl, Or.inl rfl, Or.inl rfl, trivial⟩ ⟨Or.inr (Or.inl (Or.inr ⟨rfl, rfl, rfl, rfl, rfl, rfl, wk_tail _ _ q⟩)), Or.inl rfl, Or.inl (congrArg ABlk.own (ints_ren _ _).symm), Or.inl rfl, Or.inl (congrArg ABlk.ro (ints_ren _ _).symm), Or.inl rfl, Or.inl (congrArg (ABlk.row 3 1) (ints_ren _ _).symm), Or.inl (congrArg (ABlk.row 3 1) (ints_ren _ _).symm), Or.inl (congrArg (ABlk.row 3 1) (ints_ren _ _).symm), Or.inl (congrArg (ABlk.row 3 1) (ints_ren _ _).symm), Or.inl (congrArg (ABlk.row 3 1) (ints_ren _ _).symm), Or.inl rfl, trivial⟩ rfl (by simp [tupA, hpLt, tmLt, AV.lt, AE.lt, AC.lt, LL_cons, LL_nil, idOk, ABlk.lt, ints_LL, GB, tab64_LL, gC, wB, giC, noneB, putB, putS, nils_LL, rwC, rwH, List.replicate]) (by simp [tupA, hpLt, tmLt, AV.lt, AE.lt, AC.lt, LL_cons, LL_nil, idOk, ABlk.lt, ints_LL, GB, tab64_LL, gC, wB, giC, noneB, putB, putS, nils_LL, rwC, rwH, List.replicate])) ⟨by show pos + 1 ≤ g.n; omega, hput.symm, by simp only [List.length_cons, List.length_nil]; omega⟩ (by show g.n - (pos + 1) < g.n - pos; omega)
        simp only [List.length_cons, List.length_nil] at hrp
        omega
      rcases V with _ | ⟨a6, V⟩
      · rcases l with _ | l
        · simp only [List.length_cons, List.length_nil] at hrp hs1 hVp h3
          have hal : a0.length ≤ 8 := hVm _ (by simp)
          simp only [putS, rwC, rwH, List.cons_append, List.nil_append, List.length_cons, List.length_nil, Nat.reduceAdd]
          have hg2 : (ints (wL w)).getD (0 + pos * 1) (.int .i64 0) = .int .i64 (0 : Int) := hget
          refine Wk.on ?_
          rw [decide_eq_true (show ((pos : Nat) : Int) < ((g.n : Nat) : Int) by omega)]
          refine Wk.on ?_
          rw [Int.toNat_natCast, hg2]
          refine Wk.on ?_
          refine Tr.cap 5 0 1 rfl rfl fun c hc => ?_
          refine Tr.draw (md := true) [⟨[], [39, 40, 41, 42, 43, 44, 45, 46], [], [], [6]⟩, ⟨[], [38, 40, 41, 42, 43, 44, 45, 46], [0], [], [6]⟩, ⟨[], [38, 39, 41, 44, 45], [0, 1], [], []⟩, ⟨[], [38, 39, 40, 44, 45], [0, 1, 2], [], []⟩, ⟨[2, 3], [38, 39, 44, 45], [0, 1], [], []⟩, ⟨[2, 3, 4], [38, 39, 44, 45], [0, 1], [], []⟩, ⟨[], [38, 39, 40, 41, 42, 43], [0, 1, 2, 3, 4, 5], [], []⟩, ⟨[6], [38, 39, 40, 41, 42, 43], [0, 1, 2, 3, 4, 5], [], []⟩, ⟨[2, 3, 4, 5, 6, 7], [38, 39], [0, 1], [6], []⟩] tok (by kernel_rfl) (by kernel_rfl) ?_
          refine Wk.on ?_
          refine ⟨⟨rfl, rfl, rfl, by rw [ints_len]; omega⟩, fun hin => ?_, fun hnew => ?_⟩
          · refine Wk.on ?_
            exact Again.under (pos + 1, q, [a0 ++ [(pos : Int)], a1, a2, a3, a4, a5]) (Under.wk [] ⟨rfl, rfl, Nat.le_of_ble_eq_true rfl, Nat.le_of_ble_eq_true rfl⟩ rfl ⟨Or.inl rfl, Or.inl rfl, Or.inl rfl, Or.inl rfl, Or.inl rfl, Or.inl rfl, trivial⟩ ⟨Or.inr (Or.inl (Or.inr ⟨⟨rfl, rfl, by simp⟩, rfl, rfl, rfl, rfl, rfl, wk_tail _ _ q⟩)), Or.inl rfl, Or.inl (congrArg ABlk.own (ints_ren _ _).symm), Or.inl rfl, Or.inl (congrArg ABlk.ro (ints_ren _ _).symm), Or.inl rfl, Or.inl ((congrArg (ABlk.row 3 1) (app_in a0 pos)).trans (congrArg (ABlk.row 3 1) (ints_ren _ _).symm)), Or.inl (congrArg (ABlk.row 3 1) (ints_ren _ _).symm), Or.inl (congrArg (ABlk.row 3 1) (ints_ren _ _).symm), Or.inl (congrArg (ABlk.row 3 1) (ints_ren _ _).symm), Or.inl (congrArg (ABlk.row 3 1) (ints_ren _ _).symm), Or.inl (congrArg (ABlk.row 3 1) (ints_ren _ _).symm), trivial⟩ rfl (by simp [tupA, hpLt, tmLt, AV.lt, AE.lt, AC.lt, LL_cons, LL_nil, idOk, ABlk.lt, ints_LL, GB, tab64_LL, gC, wB, giC, noneB, putB, putS, nils_LL, rwC, rwH, List.replicate]) (by simp [tupA, hpLt, tmLt, AV.lt, AE.lt, AC.lt, LL_cons, LL_nil, idOk, ABlk.lt, ints_LL, GB, tab64_LL, gC, wB, giC, noneB, putB, putS, nils_LL, rwC, rwH, List.replicate])) ⟨by show pos + 1 ≤ g.n; omega, hput.symm, by simp only [List.length_cons, List.length_nil]; omega⟩ (by show g.n - (pos + 1) < g.n - pos; omega)
          · refine ⟨⟨Nat.le_of_ble_eq_true rfl, by show ((a0.length + 1 : Nat) : Int) * 8 ≤ _; omega, by omega⟩, ?_⟩
            refine Wk.on ?_
            exact Again.under (pos + 1, q, [a0 ++ [(pos : Int)], a1, a2, a3, a4, a5]) (Under.wk [(6, 13)] ⟨rfl, rfl, Nat.le_of_ble_eq_true rfl, Nat.le_of_ble_eq_true rfl⟩ rfl ⟨Or.inl rfl, Or.inl rfl, Or.inl rfl, Or.inl rfl, Or.inl rfl, Or.inl rfl, trivial⟩ ⟨Or.inr (Or.inl (Or.inr ⟨row_len _ _ _, rfl, rfl, rfl, rfl, rfl, wk_tail _ _ q⟩)), Or.inl rfl, Or.inl (congrArg ABlk.own (ints_ren _ _).symm), Or.inl rfl, Or.inl (congrArg ABlk.ro (ints_ren _ _).symm), Or.inl rfl, Or.inl ((congrArg (ABlk.row 3 1) (app_new a0 pos)).trans (congrArg (ABlk.row 3 1) (ints_ren _ _).symm)), Or.inl (congrArg (ABlk.row 3 1) (ints_ren _ _).symm), Or.inl (congrArg (ABlk.row 3 1) (ints_ren _ _).symm), Or.inl (congrArg (ABlk.row 3 1) (ints_ren _ _).symm), Or.inl (congrArg (ABlk.row 3 1) (ints_ren _ _).symm), Or.inl (congrArg (ABlk.row 3 1) (ints_ren _ _).symm), trivial⟩ rfl (by simp [tupA, hpLt, tmLt, AV.lt, AE.lt, AC.lt, LL_cons, LL_nil, idOk, ABlk.lt, ints_LL, GB, tab64_LL, gC, wB, giC, noneB, putB, putS, nils_LL, rwC, rwH, List.replicate]) (by simp [tupA, hpLt, tmLt, AV.lt, AE.lt, AC.lt, LL_cons, LL_nil, idOk, ABlk.lt, ints_LL, GB, tab64_LL, gC, wB, giC, noneB, putB, putS, nils_LL, rwC, rwH, List.replicate])) ⟨by show pos + 1 ≤ g.n; omega, hput.symm, by simp only [List.length_cons, List.length_nil]; omega⟩ (by show g.n - (pos + 1) < g.n - pos; omega)
        rcases l with _ | l
        · simp only [List.length_cons, List.length_nil] at hrp hs1 hVp h3
          have hal : a1.length ≤ 8 := hVm _ (by simp)
          simp only [putS, rwC, rwH, List.cons_append, List.nil_append, List.length_cons, List.length_nil, Nat.reduceAdd]
          have hg2 : (ints (wL w)).getD (0 + pos * 1) (.int .i64 0) = .int .i64 (1 : Int) := hget
          refine Wk.on ?_
          rw [decide_eq_true (show ((pos : Nat) : Int) < ((g.n : Nat) : Int) by omega)]
          refine Wk.on ?_
          rw [Int.toNat_natCast, hg2]
          refine Wk.on ?_
          refine Tr.cap 5 1 1 rfl rfl fun c hc => ?_
          refine Tr.draw (md := true) [⟨[], [39, 40, 41, 42, 43, 44, 45, 46], [], [], [7]⟩, ⟨[], [38, 40, 41, 42, 43, 44, 45, 46], [0], [], [7]⟩, ⟨[], [38, 39, 41, 44, 45], [0, 1], [], []⟩, ⟨[], [38, 39, 40, 44, 45], [0, 1, 2], [], []⟩, ⟨[2, 3], [38, 39, 44, 45], [0, 1], [], []⟩, ⟨[2, 3, 4], [38, 39, 44, 45], [0, 1], [], []⟩, ⟨[], [38, 39, 40, 41, 42, 43], [0, 1, 2, 3, 4, 5], [], []⟩, ⟨[6], [38, 39, 40, 41, 42, 43], [0, 1, 2, 3, 4, 5], [], []⟩, ⟨[2, 3, 4, 5, 6, 7], [38, 39], [0, 1], [7], []⟩] tok (by kernel_rfl) (by kernel_rfl) ?_
          refine Wk.on ?_
          refine ⟨⟨rfl, rfl, rfl, by rw [ints_len]; omega⟩, fun hin => ?_, fun hnew => ?_⟩
          · refine Wk.on ?_
            exact Again.under (pos + 1, q, [a0, a1 ++ [(pos : Int)], a2, a3, a4, a5]) (Under.wk [] ⟨rfl, rfl, Nat.le_of_ble_eq_true rfl, Nat.le_of_ble_eq_true rfl⟩ rfl ⟨Or.inl rfl, Or.inl rfl, Or.inl rfl, Or.inl rfl, Or.inl rfl, Or.inl rfl, trivial⟩ ⟨Or.inr (Or.inl (Or.inr ⟨rfl, ⟨rfl, rfl, by simp⟩, rfl, rfl, rfl, rfl, wk_tail _ _ q⟩)), Or.inl rfl, Or.inl (congrArg ABlk.own (ints_ren _ _).symm), Or.inl rfl, Or.inl (congrArg ABlk.ro (ints_ren _ _).symm), Or.inl rfl, Or.inl (congrArg (ABlk.row 3 1) (ints_ren _ _).symm), Or.inl ((congrArg (ABlk.row 3 1) (app_in a1 pos)).trans (congrArg (ABlk.row 3 1) (ints_ren _ _).symm)), Or.inl (congrArg (ABlk.row 3 1) (ints_ren _ _).symm), Or.inl (congrArg (ABlk.row 3 1) (ints_ren _ _).symm), Or.inl (congrArg (ABlk.row 3 1) (ints_ren _ _).symm), Or.inl (congrArg (ABlk.row 3 1) (ints_ren _ _).symm), trivial⟩ rfl (by simp [tupA, hpLt, tmLt, AV.lt, AE.lt, AC.lt, LL_cons, LL_nil, idOk, ABlk.lt, ints_LL, GB, tab64_LL, gC, wB, giC, noneB, putB, putS, nils_LL, rwC, rwH, List.replicate]) (by simp [tupA, hpLt, tmLt, AV.lt, AE.lt, AC.lt, LL_cons, LL_nil, idOk, ABlk.lt, ints_LL, GB, tab64_LL, gC, wB, giC, noneB, putB, putS, nils_LL, rwC, rwH, List.replicate])) ⟨by show pos + 1 ≤ g.n; omega, hput.symm, by simp only [List.length_cons, List.length_nil]; omega⟩ (by show g.n - (pos + 1) < g.n - pos; omega)
          · refine ⟨⟨Nat.le_of_ble_eq_true rfl, by show ((a1.length + 1 : Nat) : Int) * 8 ≤ _; omega, by omega⟩, ?_⟩
            refine Wk.on ?_
            exact Again.under (pos + 1, q, [a0, a1 ++ [(pos : Int)], a2, a3, a4, a5]) (Under.wk [(7, 13)] ⟨rfl, rfl, Nat.le_of_ble_eq_true rfl, Nat.le_of_ble_eq_true rfl⟩ rfl ⟨Or.inl rfl, Or.inl rfl, Or.inl rfl, Or.inl rfl, Or.inl rfl, Or.inl rfl, trivial⟩ ⟨Or.inr (Or.inl (Or.inr ⟨rfl, row_len _ _ _, rfl, rfl, rfl, rfl, wk_tail _ _ q⟩)), Or.inl rfl, Or.inl (congrArg ABlk.own (ints_ren _ _).symm), Or.inl rfl, Or.inl (congrArg ABlk.ro (ints_ren _ _).symm), Or.inl rfl, Or.inl (congrArg (ABlk.row 3 1) (ints_ren _ _).symm), Or.inl ((congrArg (ABlk.row 3 1) (app_new a1 pos)).trans (congrArg (ABlk.row 3 1) (ints_ren _ _).symm)), Or.inl (congrArg (ABlk.row 3 1) (ints_ren _ _).symm), Or.inl (congrArg (ABlk.row 3 1) (ints_ren _ _).symm), Or.inl (congrArg (ABlk.row 3 1) (ints_ren _ _).symm), Or.inl (congrArg (ABlk.row 3 1) (ints_ren _ _).symm), trivial⟩ rfl (by simp [tupA, hpLt, tmLt, AV.lt, AE.lt, AC.lt, LL_cons, LL_nil, idOk, ABlk.lt, ints_LL, GB, tab64_LL, gC, wB, giC, noneB, putB, putS, nils_LL, rwC, rwH, List.replicate]) (by simp [tupA, hpLt, tmLt, AV.lt, AE.lt, AC.lt, LL_cons, LL_nil, idOk, ABlk.lt, ints_LL, GB, tab64_LL, gC, wB, giC, noneB, putB, putS, nils_LL, rwC, rwH, List.replicate])) ⟨by show pos + 1 ≤ g.n; omega, hput.symm, by simp only [List.length_cons, List.length_nil]; omega⟩ (by show g.n - (pos + 1) < g.n - pos; omega)
        rcases l with _ | l
        · simp only [List.length_cons, List.length_nil] at hrp hs1 hVp h3
          have hal : a2.length ≤ 8 := hVm _ (by simp)
          simp only [putS, rwC, rwH, List.cons_append, List.nil_append, List.length_cons, List.length_nil, Nat.reduceAdd]
          have hg2 : (ints (wL w)).getD (0 + pos * 1) (.int .i64 0) = .int .i64 (2 : Int) := hget
          refine Wk.on ?_
          rw [decide_eq_true (show ((pos : Nat) : Int) < ((g.n : Nat) : Int) by omega)]
          refine Wk.on ?_
          rw [Int.toNat_natCast, hg2]
          refine Wk.on ?_
          refine Tr.cap 5 2 1 rfl rfl fun c hc => ?_
          refine Tr.draw (md := true) [⟨[], [39, 40, 41, 42, 43, 44, 45, 46], [], [], [8]⟩, ⟨[], [38, 40, 41, 42, 43, 44, 45, 46], [0], [], [8]⟩, ⟨[], [38, 39, 41, 44, 45], [0, 1], [], []⟩, ⟨[], [38, 39, 40, 44, 45], [0, 1, 2], [], []⟩, ⟨[2, 3], [38, 39, 44, 45], [0, 1], [], []⟩, ⟨[2, 3, 4], [38, 39, 44, 45], [0, 1], [], []⟩, ⟨[], [38, 39, 40, 41, 42, 43], [0, 1, 2, 3, 4, 5], [], []⟩, ⟨[6], [38, 39, 40, 41, 42, 43], [0, 1, 2, 3, 4, 5], [], []⟩, ⟨[2, 3, 4, 5, 6, 7], [38, 39], [0, 1], [8], []⟩] tok (by kernel_rfl) (by kernel_rfl) ?_
          refine Wk.on ?_
          refine ⟨⟨rfl, rfl, rfl, by rw [ints_len]; omega⟩, fun hin => ?_, fun hnew => ?_⟩
          · refine Wk.on ?_
            exact Again.under (pos + 1, q, [a0, a1, a2 ++ [(pos : Int)], a3, a4, a5]) (Under.wk [] ⟨rfl, rfl, Nat.le_of_ble_eq_true rfl, Nat.le_of_ble_eq_true rfl⟩ rfl ⟨Or.inl rfl, Or.inl rfl, Or.inl rfl, Or.inl rfl, Or.inl rfl, Or.inl rfl, trivial⟩ ⟨Or.inr (Or.inl (Or.inr ⟨rfl, rfl, ⟨rfl, rfl, by simp⟩, rfl, rfl, rfl, wk_tail _ _ q⟩)), Or.inl rfl, Or.inl (congrArg ABlk.own (ints_ren _ _).symm), Or.inl rfl, Or.inl (congrArg ABlk.ro (ints_ren _ _).symm), Or.inl rfl, Or.inl (congrArg (ABlk.row 3 1) (ints_ren _ _).symm), Or.inl (congrArg (ABlk.row 3 1) (ints_ren _ _).symm), Or.inl ((congrArg (ABlk.row 3 1) (app_in a2 pos)).trans (congrArg (ABlk.row 3 1) (ints_ren _ _).symm)), Or.inl (congrArg (ABlk.row 3 1) (ints_ren _ _).symm), Or.inl (congrArg (ABlk.row 3 1) (ints_ren _ _).symm), Or.inl (congrArg (ABlk.row 3 1) (ints_ren _ _).symm), trivial⟩ rfl (by simp [tupA, hpLt, tmLt, AV.lt, AE.lt, AC.lt, LL_cons, LL_nil, idOk, ABlk.lt, ints_LL, GB, tab64_LL, gC, wB, giC, noneB, putB, putS, nils_LL, rwC, rwH, List.replicate]) (by simp [tupA, hpLt, tmLt, AV.lt, AE.lt, AC.lt, LL_cons, LL_nil, idOk, ABlk.lt, ints_LL, GB, tab64_LL, gC, wB, giC, noneB, putB, putS, nils_LL, rwC, rwH, List.replicate])) ⟨by show pos + 1 ≤ g.n; omega, hput.symm, by simp only [List.length_cons, List.length_nil]; omega⟩ (by show g.n - (pos + 1) < g.n - pos; omega)
          · refine ⟨⟨Nat.le_of_ble_eq_true rfl, by show ((a2.length + 1 : Nat) : Int) * 8 ≤ _; omega, by omega⟩, ?_⟩
            refine Wk.on ?_
            exact Again.under (pos + 1, q, [a0, a1, a2 ++ [(pos : Int)], a3, a4, a5]) (Under.wk [(8, 13)] ⟨rfl, rfl, Nat.le_of_ble_eq_true rfl, Nat.le_of_ble_eq_true rfl⟩ rfl ⟨Or.inl rfl, Or.inl rfl, Or.inl rfl, Or.inl rfl, Or.inl rfl, Or.inl rfl, trivial⟩ ⟨Or.inr (Or.inl (Or.inr ⟨rfl, rfl, row_len _ _ _, rfl, rfl, rfl, wk_tail _ _ q⟩)), Or.inl rfl, Or.inl (congrArg ABlk.own (ints_ren _ _).symm), Or.inl rfl, Or.inl (congrArg ABlk.ro (ints_ren _ _).symm), Or.inl rfl, Or.inl (congrArg (ABlk.row 3 1) (ints_ren _ _).symm), Or.inl (congrArg (ABlk.row 3 1) (ints_ren _ _).symm), Or.inl ((congrArg (ABlk.row 3 1) (app_new a2 pos)).trans (congrArg (ABlk.row 3 1) (ints_ren _ _).symm)), Or.inl (congrArg (ABlk.row 3 1) (ints_ren _ _).symm), Or.inl (congrArg (ABlk.row 3 1) (ints_ren _ _).symm), Or.inl (congrArg (ABlk.row 3 1) (ints_ren _ _).symm), trivial⟩ rfl (by simp [tupA, hpLt, tmLt, AV.lt, AE.lt, AC.lt, LL_cons, LL_nil, idOk, ABlk.lt, ints_LL, GB, tab64_LL, gC, wB, giC, noneB, putB, putS, nils_LL, rwC, rwH, List.replicate]) (by simp [tupA, hpLt, tmLt, AV.lt, AE.lt, AC.lt, LL_cons, LL_nil, idOk, ABlk.lt, ints_LL, GB, tab64_LL, gC, wB, giC, noneB, putB, putS, nils_LL, rwC, rwH, List.replicate])) ⟨by show pos + 1 ≤ g.n; omega, hput.symm, by simp only [List.length_cons, List.length_nil]; omega⟩ (by show g.n - (pos + 1) < g.n - pos; omega)
        rcases l with _ | l
        · simp only [List.length_cons, List.length_nil] at hrp hs1 hVp h3
          have hal : a3.length ≤ 8 := hVm _ (by simp)
          simp only [putS, rwC, rwH, List.cons_append, List.nil_append, List.length_cons, List.length_nil, Nat.reduceAdd]
          have hg2 : (ints (wL w)).getD (0 + pos * 1) (.int .i64 0) = .int .i64 (3 : Int) := hget
          refine Wk.on ?_
          rw [decide_eq_true (show ((pos : Nat) : Int) < ((g.n : Nat) : Int) by omega)]
          refine Wk.on ?_
          rw [Int.toNat_natCast, hg2]
          refine Wk.on ?_
          refine Tr.cap 5 3 1 rfl rfl fun c hc => ?_
          refine Tr.draw (md := true) [⟨[], [39, 40, 41, 42, 43, 44, 45, 46], [], [], [9]⟩, ⟨[], [38, 40, 41, 42, 43, 44, 45, 46], [0], [], [9]⟩, ⟨[], [38, 39, 41, 44, 45], [0, 1], [], []⟩, ⟨[], [38, 39, 40, 44, 45], [0, 1, 2], [], []⟩, ⟨[2, 3], [38, 39, 44, 45], [0, 1], [], []⟩, ⟨[2, 3, 4], [38, 39, 44, 45], [0, 1], [], []⟩, ⟨[], [38, 39, 40, 41, 42, 43], [0, 1, 2, 3, 4, 5], [], []⟩, ⟨[6], [38, 39, 40, 41, 42, 43], [0, 1, 2, 3, 4, 5], [], []⟩, ⟨[2, 3, 4, 5, 6, 7], [38, 39], [0, 1], [9], []⟩] tok (by kernel_rfl) (by kernel_rfl) ?_
          refine Wk.on ?_
          refine ⟨⟨rfl, rfl, rfl, by rw [ints_len]; omega⟩, fun hin => ?_, fun hnew => ?_⟩
          · refine Wk.on ?_
            exact Again.under (pos + 1, q, [a0, a1, a2, a3 ++ [(pos : Int)], a4, a5]) (Under.wk [] ⟨rfl, rfl, Nat.le_of_ble_eq_true rfl, Nat.le_of_ble_eq_true rfl⟩ rfl ⟨Or.inl rfl, Or.inl rfl, Or.inl rfl, Or.inl rfl, Or.inl rfl, Or.inl rfl, trivial⟩ ⟨Or.inr (Or.inl (Or.inr ⟨rfl, rfl, rfl, ⟨rfl, rfl, by simp⟩, rfl, rfl, wk_tail _ _ q⟩)), Or.inl rfl, Or.inl (congrArg ABlk.own (ints_ren _ _).symm), Or.inl rfl, Or.inl (congrArg ABlk.ro (ints_ren _ _).symm), Or.inl rfl, Or.inl (congrArg (ABlk.row 3 1) (ints_ren _ _).symm), Or.inl (congrArg (ABlk.row 3 1) (ints_ren _ _).symm), Or.inl (congrArg (ABlk.row 3 1) (ints_ren _ _).symm), Or.inl ((congrArg (ABlk.row 3 1) (app_in a3 pos)).trans (congrArg (ABlk.row 3 1) (ints_ren _ _).symm)), Or.inl (congrArg (ABlk.row 3 1) (ints_ren _ _).symm), Or.inl (congrArg (ABlk.row 3 1) (ints_ren _ _).symm), trivial⟩ rfl (by simp [tupA, hpLt, tmLt, AV.lt, AE.lt, AC.lt, LL_cons, LL_nil, idOk, ABlk.lt, ints_LL, GB, tab64_LL, gC, wB, giC, noneB, putB, putS, nils_LL, rwC, rwH, List.replicate]) (by simp [tupA, hpLt, tmLt, AV.lt, AE.lt, AC.lt, LL_cons, LL_nil, idOk, ABlk.lt, ints_LL, GB, tab64_LL, gC, wB, giC, noneB, putB, putS, nils_LL, rwC, rwH, List.replicate])) ⟨by show pos + 1 ≤ g.n; omega, hput.symm, by simp only [List.length_cons, List.length_nil]; omega⟩ (by show g.n - (pos + 1) < g.n - pos; omega)
          · refine ⟨⟨Nat.le_of_ble_eq_true rfl, by show ((a3.length + 1 : Nat) : Int) * 8 ≤ _; omega, by omega⟩, ?_⟩
            refine Wk.on ?_
            exact Again.under (pos + 1, q, [a0, a1, a2, a3 ++ [(pos : Int)], a4, a5]) (Under.wk [(9, 13)] ⟨rfl, rfl, Nat.le_of_ble_eq_true rfl, Nat.le_of_ble_eq_true rfl⟩ rfl ⟨Or.inl rfl, Or.inl rfl, Or.inl rfl, Or.inl rfl, Or.inl rfl, Or.inl rfl, trivial⟩ ⟨Or.inr (Or.inl (Or.inr ⟨rfl, rfl, rfl, row_len _ _ _, rfl, rfl, wk_tail _ _ q⟩)), Or.inl rfl, Or.inl (congrArg ABlk.own (ints_ren _ _).symm), Or.inl rfl, Or.inl (congrArg ABlk.ro (ints_ren _ _).symm), Or.inl rfl, Or.inl (congrArg (ABlk.row 3 1) (ints_ren _ _).symm), Or.inl (congrArg (ABlk.row 3 1) (ints_ren _ _).symm), Or.inl (congrArg (ABlk.row 3 1) (ints_ren _ _).symm), Or.inl ((congrArg (ABlk.row 3 1) (app_new a3 pos)).trans (congrArg (ABlk.row 3 1) (ints_ren _ _).symm)), Or.inl (congrArg (ABlk.row 3 1) (ints_ren _ _).symm), Or.inl (congrArg (ABlk.row 3 1) (ints_ren _ _).symm), trivial⟩ rfl (by simp [tupA, hpLt, tmLt, AV.lt, AE.lt, AC.lt, LL_cons, LL_nil, idOk, ABlk.lt, ints_LL, GB, tab64_LL, gC, wB, giC, noneB, putB, putS, nils_LL, rwC, rwH, List.replicate]) (by simp [tupA, hpLt, tmLt, AV.lt, AE.lt, AC.lt, LL_cons, LL_nil, idOk, ABlk.lt, ints_LL, GB, tab64_LL, gC, wB, giC, noneB, putB, putS, nils_LL, rwC, rwH, List.replicate])) ⟨by show pos + 1 ≤ g.n; omega, hput.symm, by simp only [List.length_cons, List.length_nil]; omega⟩ (by show g.n - (pos + 1) < g.n - pos; omega)
        rcases l with _ | l
        · simp only [List.length_cons, List.length_nil] at hrp hs1 hVp h3
          have hal : a4.length ≤ 8 := hVm _ (by simp)
          simp only [putS, rwC, rwH, List.cons_append, List.nil_append, List.length_cons, List.length_nil, Nat.reduceAdd]
          have hg2 : (ints (wL w)).getD (0 + pos * 1) (.int .i64 0) = .int .i64 (4 : Int) := hget
          refine Wk.on ?_
          rw [decide_eq_true (show ((pos : Nat) : Int) < ((g.n : Nat) : Int) by omega)]
          refine Wk.on ?_
          rw [Int.toNat_natCast, hg2]
          refine Wk.on ?_
          refine Tr.cap 5 4 1 rfl rfl fun c hc => ?_
          refine Tr.draw (md := true) [⟨[], [39, 40, 41, 42, 43, 44, 45, 46], [], [], [10]⟩, ⟨[], [38, 40, 41, 42, 43, 44, 45, 46], [0], [], [10]⟩, ⟨[], [38, 39, 41, 44, 45], [0, 1], [], []⟩, ⟨[], [38, 39, 40, 44, 45], [0, 1, 2], [], []⟩, ⟨[2, 3], [38, 39, 44, 45], [0, 1], [], []⟩, ⟨[2, 3, 4], [38, 39, 44, 45], [0, 1], [], []⟩, ⟨[], [38, 39, 40, 41, 42, 43], [0, 1, 2, 3, 4, 5], [], []⟩, ⟨[6], [38, 39, 40, 41, 42, 43], [0, 1, 2, 3, 4, 5], [], []⟩, ⟨[2, 3, 4, 5, 6, 7], [38, 39], [0, 1], [10], []⟩] tok (by kernel_rfl) (by kernel_rfl) ?_
          refine Wk.on ?_
          refine ⟨⟨rfl, rfl, rfl, by rw [ints_len]; omega⟩, fun hin => ?_, fun hnew => ?_⟩
          · refine Wk.on ?_
            exact Again.under (pos + 1, q, [a0, a1, a2, a3, a4 ++ [(pos : Int)], a5]) (Under.wk [] ⟨rfl, rfl, Nat.le_of_ble_eq_true rfl, Nat.le_of_ble_eq_true rfl⟩ rfl ⟨Or.inl rfl, Or.inl rfl, Or.inl rfl, Or.inl rfl, Or.inl rfl, Or.inl rfl, trivial⟩ ⟨Or.inr (Or.inl (Or.inr ⟨rfl, rfl, rfl, rfl, ⟨rfl, rfl, by simp⟩, rfl, wk_tail _ _ q⟩)), Or.inl rfl, Or.inl (congrArg ABlk.own (ints_ren _ _).symm), Or.inl rfl, Or.inl (congrArg ABlk.ro (ints_ren _ _).symm), Or.inl rfl, Or.inl (congrArg (ABlk.row 3 1) (ints_ren _ _).symm), Or.inl (congrArg (ABlk.row 3 1) (ints_ren _ _).symm), Or.inl (congrArg (ABlk.row 3 1) (ints_ren _ _).symm), Or.inl (congrArg (ABlk.row 3 1) (ints_ren _ _).symm), Or.inl ((congrArg (ABlk.row 3 1) (app_in a4 pos)).trans (congrArg (ABlk.row 3 1) (ints_ren _ _).symm)), Or.inl (congrArg (ABlk.row 3 1) (ints_ren _ _).symm), trivial⟩ rfl (by simp [tupA, hpLt, tmLt, AV.lt, AE.lt, AC.lt, LL_cons, LL_nil, idOk, ABlk.lt, ints_LL, GB, tab64_LL, gC, wB, giC, noneB, putB, putS, nils_LL, rwC, rwH, List.replicate]) (by simp [tupA, hpLt, tmLt, AV.lt, AE.lt, AC.lt, LL_cons, LL_nil, idOk, ABlk.lt, ints_LL, GB, tab64_LL, gC, wB, giC, noneB, putB, putS, nils_LL, rwC, rwH, List.replicate])) ⟨by show pos + 1 ≤ g.n; omega, hput.symm, by simp only [List.length_cons, List.length_nil]; omega⟩ (by show g.n - (pos + 1) < g.n - pos; omega)
          · refine ⟨⟨Nat.le_of_ble_eq_true rfl, by show ((a4.length + 1 : Nat) : Int) * 8 ≤ _; omega, by omega⟩, ?_⟩
            refine Wk.on ?_
            exact Again.under (pos + 1, q, [a0, a1, a2, a3, a4 ++ [(pos : Int)], a5]) (Under.wk [(10, 13)] ⟨rfl, rfl, Nat.le_of_ble_eq_true rfl, Nat.le_of_ble_eq_true rfl⟩ rfl ⟨Or.inl rfl, Or.inl rfl, Or.inl rfl, Or.inl rfl, Or.inl rfl, Or.inl rfl, trivial⟩ ⟨Or.inr (Or.inl (Or.inr ⟨rfl, rfl, rfl, rfl, row_len _ _ _, rfl, wk_tail _ _ q⟩)), Or.inl rfl, Or.inl (congrArg ABlk.own (ints_ren _ _).symm), Or.inl rfl, Or.inl (congrArg ABlk.ro (ints_ren _ _).symm), Or.inl rfl, Or.inl (congrArg (ABlk.row 3 1) (ints_ren _ _).symm), Or.inl (congrArg (ABlk.row 3 1) (ints_ren _ _).symm), Or.inl (congrArg (ABlk.row 3 1) (ints_ren _ _).symm), Or.inl (congrArg (ABlk.row 3 1) (ints_ren _ _).symm), Or.inl ((congrArg (ABlk.row 3 1) (app_new a4 pos)).trans (congrArg (ABlk.row 3 1) (ints_ren _ _).symm)), Or.inl (congrArg (ABlk.row 3 1) (ints_ren _ _).symm), trivial⟩ rfl (by simp [tupA, hpLt, tmLt, AV.lt, AE.lt, AC.lt, LL_cons, LL_nil, idOk, ABlk.lt, ints_LL, GB, tab64_LL, gC, wB, giC, noneB, putB, putS, nils_LL, rwC, rwH, List.replicate]) (by simp [tupA, hpLt, tmLt, AV.lt, AE.lt, AC.lt, LL_cons, LL_nil, idOk, ABlk.lt, ints_LL, GB, tab64_LL, gC, wB, giC, noneB, putB, putS, nils_LL, rwC, rwH, List.replicate])) ⟨by show pos + 1 ≤ g.n; omega, hput.symm, by simp only [List.length_cons, List.length_nil]; omega⟩ (by show g.n - (pos + 1) < g.n - pos; omega)
        rcases l with _ | l
        · simp only [List.length_cons, List.length_nil] at hrp hs1 hVp h3
          have hal : a5.length ≤ 8 := hVm _ (by simp)
          simp only [putS, rwC, rwH, List.cons_append, List.nil_append, List.length_cons, List.length_nil, Nat.reduceAdd]
          have hg2 : (ints (wL w)).getD (0 + pos * 1) (.int .i64 0) = .int .i64 (5 : Int) := hget
          refine Wk.on ?_
          rw [decide_eq_true (show ((pos : Nat) : Int) < ((g.n : Nat) : Int) by omega)]
          refine Wk.on ?_
          rw [Int.toNat_natCast, hg2]
          refine Wk.on ?_
          refine Tr.cap 5 5 1 rfl rfl fun c hc => ?_
          refine Tr.draw (md := true) [⟨[], [39, 40, 41, 42, 43, 44, 45, 46], [], [], [11]⟩, ⟨[], [38, 40, 41, 42, 43, 44, 45, 46], [0], [], [11]⟩, ⟨[], [38, 39, 41, 44, 45], [0, 1], [], []⟩, ⟨[], [38, 39, 40, 44, 45], [0, 1, 2], [], []⟩, ⟨[2, 3], [38, 39, 44, 45], [0, 1], [], []⟩, ⟨[2, 3, 4], [38, 39, 44, 45], [0, 1], [], []⟩, ⟨[], [38, 39, 40, 41, 42, 43], [0, 1, 2, 3, 4, 5], [], []⟩, ⟨[6], [38, 39, 40, 41, 42, 43], [0, 1, 2, 3, 4, 5], [], []⟩, ⟨[2, 3, 4, 5, 6, 7], [38, 39], [0, 1], [11], []⟩] tok (by kernel_rfl) (by kernel_rfl) ?_
          refine Wk.on ?_
          refine ⟨⟨rfl, rfl, rfl, by rw [ints_len]; omega⟩, fun hin => ?_, fun hnew => ?_⟩
          · refine Wk.on ?_
            exact Again.under (pos + 1, q, [a0, a1, a2, a3, a4, a5 ++ [(pos : Int)]]) (Under.wk [] ⟨rfl, rfl, Nat.le_of_ble_eq_true rfl, Nat.le_of_ble_eq_true rfl⟩ rfl ⟨Or.inl rfl, Or.inl rfl, Or.inl rfl, Or.inl rfl, Or.inl rfl, Or.inl rfl, trivial⟩ ⟨Or.inr (Or.inl (Or.inr ⟨rfl, rfl, rfl, rfl, rfl, ⟨rfl, rfl, by simp⟩, wk_tail _ _ q⟩)), Or.inl rfl, Or.inl (congrArg ABlk.own (ints_ren _ _).symm), Or.inl rfl, Or.inl (congrArg ABlk.ro (ints_ren _ _).symm), Or.inl rfl, Or.inl (congrArg (ABlk.row 3 1) (ints_ren _ _).symm), Or.inl (congrArg (ABlk.row 3 1) (ints_ren _ _).symm), Or.inl (congrArg (ABlk.row 3 1) (ints_ren _ _).symm), Or.inl (congrArg (ABlk.row 3 1) (ints_ren _ _).symm), Or.inl (congrArg (ABlk.row 3 1) (ints_ren _ _).symm), Or.inl ((congrArg (ABlk.row 3 1) (app_in a5 pos)).trans (congrArg (ABlk.row 3 1) (ints_ren _ _).symm)), trivial⟩ rfl (by simp [tupA, hpLt, tmLt, AV.lt, AE.lt, AC.lt, LL_cons, LL_nil, idOk, ABlk.lt, ints_LL, GB, tab64_LL, gC, wB, giC, noneB, putB, putS, nils_LL, rwC, rwH, List.replicate]) (by simp [tupA, hpLt, tmLt, AV.lt, AE.lt, AC.lt, LL_cons, LL_nil, idOk, ABlk.lt, ints_LL, GB, tab64_LL, gC, wB, giC, noneB, putB, putS, nils_LL, rwC, rwH, List.replicate])) ⟨by show pos + 1 ≤ g.n; omega, hput.symm, by simp only [List.length_cons, List.length_nil]; omega⟩ (by show g.n - (pos + 1) < g.n - pos; omega)
          · refine ⟨⟨Nat.le_of_ble_eq_true rfl, by show ((a5.length + 1 : Nat) : Int) * 8 ≤ _; omega, by omega⟩, ?_⟩
            refine Wk.on ?_
            exact Again.under (pos + 1, q, [a0, a1, a2, a3, a4, a5 ++ [(pos : Int)]]) (Under.wk [(11, 13)] ⟨rfl, rfl, Nat.le_of_ble_eq_true rfl, Nat.le_of_ble_eq_true rfl⟩ rfl ⟨Or.inl rfl, Or.inl rfl, Or.inl rfl, Or.inl rfl, Or.inl rfl, Or.inl rfl, trivial⟩ ⟨Or.inr (Or.inl (Or.inr ⟨rfl, rfl, rfl, rfl, rfl, row_len _ _ _, wk_tail _ _ q⟩)), Or.inl rfl, Or.inl (congrArg ABlk.own (ints_ren _ _).symm), Or.inl rfl, Or.inl (congrArg ABlk.ro (ints_ren _ _).symm), Or.inl rfl, Or.inl (congrArg (ABlk.row 3 1) (ints_ren _ _).symm), Or.inl (congrArg (ABlk.row 3 1) (ints_ren _ _).symm), Or.inl (congrArg (ABlk.row 3 1) (ints_ren _ _).symm), Or.inl (congrArg (ABlk.row 3 1) (ints_ren _ _).symm), Or.inl (congrArg (ABlk.row 3 1) (ints_ren _ _).symm), Or.inl ((congrArg (ABlk.row 3 1) (app_new a5 pos)).trans (congrArg (ABlk.row 3 1) (ints_ren _ _).symm)), trivial⟩ rfl (by simp [tupA, hpLt, tmLt, AV.lt, AE.lt, AC.lt, LL_cons, LL_nil, idOk, ABlk.lt, ints_LL, GB, tab64_LL, gC, wB, giC, noneB, putB, putS, nils_LL, rwC, rwH, List.replicate]) (by simp [tupA, hpLt, tmLt, AV.lt, AE.lt, AC.lt, LL_cons, LL_nil, idOk, ABlk.lt, ints_LL, GB, tab64_LL, gC, wB, giC, noneB, putB, putS, nils_LL, rwC, rwH, List.replicate])) ⟨by show pos + 1 ≤ g.n; omega, hput.symm, by simp only [List.length_cons, List.length_nil]; omega⟩ (by show g.n - (pos + 1) < g.n - pos; omega)
        rcases l with _ | l
        · simp only [List.length_cons, List.length_nil] at hrp hs1 hVp h3
          rcases q with _ | q
          · omega
          simp only [putS, rwC, rwH, List.cons_append, List.nil_append, List.length_cons, List.length_nil, Nat.reduceAdd]
          have hg2 : (ints (wL w)).getD (0 + pos * 1) (.int .i64 0) = .int .i64 (6 : Int) := hget
          refine Wk.on ?_
          rw [decide_eq_true (show ((pos : Nat) : Int) < ((g.n : Nat) : Int) by omega)]
          refine Wk.on ?_
          rw [Int.toNat_natCast, hg2]
          refine Wk.on ?_
          refine Tr.draw (md := true) [⟨[], [39, 40, 41, 42, 43, 44, 45, 46], [], [], []⟩, ⟨[], [38, 40, 41, 42, 43, 44, 45, 46], [0], [], []⟩, ⟨[], [38, 39, 41, 44, 45], [0, 1], [], []⟩, ⟨[], [38, 39, 40, 44, 45], [0, 1, 2], [], []⟩, ⟨[2, 3], [38, 39, 44, 45], [0, 1], [], []⟩, ⟨[2, 3, 4], [38, 39, 44, 45], [0, 1], [], []⟩, ⟨[], [38, 39, 40, 41, 42, 43], [0, 1, 2, 3, 4, 5], [], []⟩, ⟨[6], [38, 39, 40, 41, 42, 43], [0, 1, 2, 3, 4, 5], [], []⟩, ⟨[2, 3, 4, 5, 6, 7], [38, 39], [0, 1], [], []⟩] tok (by kernel_rfl) (by kernel_rfl) ?_
          refine Wk.on ?_
          exact Again.under (pos + 1, q, [a0, a1, a2, a3, a4, a5, [(pos : Int)]]) (Under.wk [(12, 13)] ⟨rfl, rfl, Nat.le_of_ble_eq_true rfl, Nat.le_of_ble_eq_true rfl⟩ rfl ⟨Or.inl rfl, Or.inl rfl, Or.inl rfl, Or.inl rfl, Or.inl rfl, Or.inl rfl, trivial⟩ ⟨Or.inr (Or.inl (Or.inr ⟨rfl, rfl, rfl, rfl, rfl, rfl, rfl, wk_tail _ _ q⟩)), Or.inl rfl, Or.inl (congrArg ABlk.own (ints_ren _ _).symm), Or.inl rfl, Or.inl (congrArg ABlk.ro (ints_ren _ _).symm), Or.inl rfl, Or.inl (congrArg (ABlk.row 3 1) (ints_ren _ _).symm), Or.inl (congrArg (ABlk.row 3 1) (ints_ren _ _).symm), Or.inl (congrArg (ABlk.row 3 1) (ints_ren _ _).symm), Or.inl (congrArg (ABlk.row 3 1) (ints_ren _ _).symm), Or.inl (congrArg (ABlk.row 3 1) (ints_ren _ _).symm), Or.inl (congrArg (ABlk.row 3 1) (ints_ren _ _).symm), Or.inl rfl, trivial⟩ rfl (by simp [tupA, hpLt, tmLt, AV.lt, AE.lt, AC.lt, LL_cons, LL_nil, idOk, ABlk.lt, ints_LL, GB, tab64_LL, gC, wB, giC, noneB, putB, putS, nils_LL, rwC, rwH, List.replicate]) (by simp [tupA, hpLt, tmLt, AV.lt, AE.lt, AC.lt, LL_cons, LL_nil, idOk, ABlk.lt, ints_LL, GB, tab64_LL, gC, wB, giC, noneB, putB, putS, nils_LL, rwC, rwH, List.replicate])) ⟨by show pos + 1 ≤ g.n; omega, hput.symm, by simp only [List.length_cons, List.length_nil]; omega⟩ (by show g.n - (pos + 1) < g.n - pos; omega)
        simp only [List.length_cons, List.length_nil] at hrp
        omega
      rcases V with _ | ⟨a7, V⟩
      · rcases l with _ | l
        · simp only [List.length_cons, List.length_nil] at hrp hs1 hVp h3
          have hal : a0.length ≤ 8 := hVm _ (by simp)
          simp only [putS, rwC, rwH, List.cons_append, List.nil_append, List.length_cons, List.length_nil, Nat.reduceAdd]
          have hg2 : (ints (wL w)).getD (0 + pos * 1) (.int .i64 0) = .int .i64 (0 : Int) := hget
          refine Wk.on ?_
          rw [decide_eq_true (show ((pos : Nat) : Int) < ((g.n : Nat) : Int) by omega)]
          refine Wk.on ?_
          rw [Int.toNat_natCast, hg2]
          refine Wk.on ?_
          refine Tr.cap 5 0 1 rfl rfl fun c hc => ?_
          refine Tr.draw (md := true) [⟨[], [39, 40, 41, 42, 43, 44, 45, 46], [], [], [6]⟩, ⟨[], [38, 40, 41, 42, 43, 44, 45, 46], [0], [], [6]⟩, ⟨[], [38, 39, 41, 44, 45], [0, 1], [], []⟩, ⟨[], [38, 39, 40, 44, 45], [0, 1, 2], [], []⟩, ⟨[2, 3], [38, 39, 44, 45], [0, 1], [], []⟩, ⟨[2, 3, 4], [38, 39, 44, 45], [0, 1], [], []⟩, ⟨[], [38, 39, 40, 41, 42, 43], [0, 1, 2, 3, 4, 5], [], []⟩, ⟨[6], [38, 39, 40, 41, 42, 43], [0, 1, 2, 3, 4, 5], [], []⟩, ⟨[2, 3, 4, 5, 6, 7], [38, 39], [0, 1], [6], []⟩] tok (by kernel_rfl) (by kernel_rfl) ?_
          refine Wk.on ?_
          refine ⟨⟨rfl, rfl, rfl, by rw [ints_len]; omega⟩, fun hin => ?_, fun hnew => ?_⟩
          · refine Wk.on ?_
            exact Again.under (pos + 1, q, [a0 ++ [(pos : Int)], a1, a2, a3, a4, a5, a6]) (Under.wk [] ⟨rfl, rfl, Nat.le_of_ble_eq_true rfl, Nat.le_of_ble_eq_true rfl⟩ rfl ⟨Or.inl rfl, Or.inl rfl, Or.inl rfl, Or.inl rfl, Or.inl rfl, Or.inl rfl, trivial⟩ ⟨Or.inr (Or.inl (Or.inr ⟨⟨rfl, rfl, by simp⟩, rfl, rfl, rfl, rfl, rfl, rfl, wk_tail _ _ q⟩)), Or.inl rfl, Or.inl (congrArg ABlk.own (ints_ren _ _).symm), Or.inl rfl, Or.inl (congrArg ABlk.ro (ints_ren _ _).symm), Or.inl rfl, Or.inl ((congrArg (ABlk.row 3 1) (app_in a0 pos)).trans (congrArg (ABlk.row 3 1) (ints_ren _ _).symm)), Or.inl (congrArg (ABlk.row 3 1) (ints_ren _ _).symm), Or.inl (congrArg (ABlk.row 3 1) (ints_ren _ _).symm), Or.inl (congrArg (ABlk.row 3 1) (ints_ren _ _).symm), Or.inl (congrArg (ABlk.row 3 1) (ints_ren _ _).symm), Or.inl (congrArg (ABlk.row 3 1) (ints_ren _ _).symm), Or.inl (congrArg (ABlk.row 3 1) (ints_ren _ _).symm), trivial⟩ rfl (by simp [tupA, hpLt, tmLt, AV.lt, AE.lt, AC.lt, LL_cons, LL_nil, idOk, ABlk.lt, ints_LL, GB, tab64_LL, gC, wB, giC, noneB, putB, putS, nils_LL, rwC, rwH, List.replicate]) (by simp [tupA, hpLt, tmLt, AV.lt, AE.lt, AC.lt, LL_cons, LL_nil, idOk, ABlk.lt, ints_LL, GB, tab64_LL, gC, wB, giC, noneB, putB, putS, nils_LL, rwC, rwH, List.replicate])) ⟨by show pos + 1 ≤ g.n; omega, hput.symm, by simp only [List.length_cons, List.length_nil]; omega⟩ (by show g.n - (pos + 1) < g.n - pos; omega)
          · refine ⟨⟨Nat.le_of_ble_eq_true rfl, by show ((a0.length + 1 : Nat) : Int) * 8 ≤ _; omega, by omega⟩, ?_⟩
            refine Wk.on ?_
            exact Again.under (pos + 1, q, [a0 ++ [(pos : Int)], a1, a2, a3, a4, a5, a6]) (Under.wk [(6, 14)] ⟨rfl, rfl, Nat.le_of_ble_eq_true rfl, Nat.le_of_ble_eq_true rfl⟩ rfl ⟨Or.inl rfl, Or.inl rfl, Or.inl rfl, Or.inl rfl, Or.inl rfl, Or.inl rfl, trivial⟩ ⟨Or.inr (Or.inl (Or.inr ⟨row_len _ _ _, rfl, rfl, rfl, rfl, rfl, rfl, wk_tail _ _ q⟩)), Or.inl rfl, Or.inl (congrArg ABlk.own (ints_ren _ _).symm), Or.inl rfl, Or.inl (congrArg ABlk.ro (ints_ren _ _).symm), Or.inl rfl, Or.inl ((congrArg (ABlk.row 3 1) (app_new a0 pos)).trans (congrArg (ABlk.row 3 1) (ints_ren _ _).symm)), Or.inl (congrArg (ABlk.row 3 1) (ints_ren _ _).symm), Or.inl (congrArg (ABlk.row 3 1) (ints_ren _ _).symm), Or.inl (congrArg (ABlk.row 3 1) (ints_ren _ _).symm), Or.inl (congrArg (ABlk.row 3 1) (ints_ren _ _).symm), Or.inl (congrArg (ABlk.row 3 1) (ints_ren _ _).symm), Or.inl (congrArg (ABlk.row 3 1) (ints_ren _ _).symm), trivial⟩ rfl (by simp [tupA, hpLt, tmLt, AV.lt, AE.lt, AC.lt, LL_cons, LL_nil, idOk, ABlk.lt, ints_LL, GB, tab64_LL, gC, wB, giC, noneB, putB, putS, nils_LL, rwC, rwH, List.replicate]) (by simp [tupA, hpLt, tmLt, AV.lt, AE.lt, AC.lt, LL_cons, LL_nil, idOk, ABlk.lt, ints_LL, GB, tab64_LL, gC, wB, giC, noneB, putB, putS, nils_LL, rwC, rwH, List.replicate])) ⟨by show pos + 1 ≤ g.n; omega, hput.symm, by simp only [List.length_cons, List.length_nil]; omega⟩ (by show g.n - (pos + 1) < g.n - pos; omega)
        rcases l with _ | l
        · simp only [List.length_cons, List.length_nil] at hrp hs1 hVp h3
          have hal : a1.length ≤ 8 := hVm _ (by simp)
          simp only [putS, rwC, rwH, List.cons_append, List.nil_append, List.length_cons, List.length_nil, Nat.reduceAdd]
          have hg2 : (ints (wL w)).getD (0 + pos * 1) (.int .i64 0) = .int .i64 (1 : Int) := hget
          refine Wk.on ?_
          rw [decide_eq_true (show ((pos : Nat) : Int) < ((g.n : Nat) : Int) by omega)]
          refine Wk.on ?_
          rw [Int.toNat_natCast, hg2]
          refine Wk.on ?_
          refine Tr.cap 5 1 1 rfl rfl fun c hc => ?_
          refine Tr.draw (md := true) [⟨[], [39, 40, 41, 42, 43, 44, 45, 46], [], [], [7]⟩, ⟨[], [38, 40, 41, 42, 43, 44, 45, 46], [0], [], [7]⟩, ⟨[], [38, 39, 41, 44, 45], [0, 1], [], []⟩, ⟨[], [38, 39, 40, 44, 45], [0, 1, 2], [], []⟩, ⟨[2, 3], [38, 39, 44, 45], [0, 1], [], []⟩, ⟨[2, 3, 4], [38, 39, 44, 45], [0, 1], [], []⟩, ⟨[], [38, 39, 40, 41, 42, 43], [0, 1, 2, 3, 4, 5], [], []⟩, ⟨[6], [38, 39, 40, 41, 42, 43], [0, 1, 2, 3, 4, 5], [], []⟩, ⟨[2, 3, 4, 5, 6, 7], [38, 39], [0, 1], [7], []⟩] tok (by kernel_rfl) (by kernel_rfl) ?_
          refine Wk.on ?_
          refine ⟨⟨rfl, rfl, rfl, by rw [ints_len]; omega⟩, fun hin => ?_, fun hnew => ?_⟩
          · refine Wk.on ?_
            exact Again.under (pos + 1, q, [a0, a1 ++ [(pos : Int)], a2, a3, a4, a5, a6]) (Under.wk [] ⟨rfl, rfl, Nat.le_of_ble_eq_true rfl, Nat.le_of_ble_eq_true rfl⟩ rfl ⟨Or.inl rfl, Or.inl rfl, Or.inl rfl, Or.inl rfl, Or.inl rfl, Or.inl rfl, trivial⟩ ⟨Or.inr (Or.inl (Or.inr ⟨rfl, ⟨rfl, rfl, by simp⟩, rfl, rfl, rfl, rfl, rfl, wk_tail _ _ q⟩)), Or.inl rfl, Or.inl (congrArg ABlk.own (ints_ren _ _).symm), Or.inl rfl, Or.inl (congrArg ABlk.ro (ints_ren _ _).symm), Or.inl rfl, Or.inl (congrArg (ABlk.row 3 1) (ints_ren _ _).symm), Or.inl ((congrArg (ABlk.row 3 1) (app_in a1 pos)).trans (congrArg (ABlk.row 3 1) (ints_ren _ _).symm)), Or.inl (congrArg (ABlk.row 3 1) (ints_ren _ _).symm), Or.inl (congrArg (ABlk.row 3 1) (ints_ren _ _).symm), Or.inl (congrArg (ABlk.row 3 1) (ints_ren _ _).symm), Or.inl (congrArg (ABlk.row 3 1) (ints_ren _ _).symm), Or.inl (congrArg (ABlk.row 3 1) (ints_ren _ _).symm), trivial⟩ rfl (by simp [tupA, hpLt, tmLt, AV.lt, AE.lt, AC.lt, LL_cons, LL_nil, idOk, ABlk.lt, ints_LL, GB, tab64_LL, gC, wB, giC, noneB, putB, putS, nils_LL, rwC, rwH, List.replicate]) (by simp [tupA, hpLt, tmLt, AV.lt, AE.lt, AC.lt, LL_cons, LL_nil, idOk, ABlk.lt, ints_LL, GB, tab64_LL, gC, wB, giC, noneB, putB, putS, nils_LL, rwC, rwH, List.replicate])) ⟨by show pos + 1 ≤ g.n; omega, hput.symm, by simp only [List.length_cons, List.length_nil]; omega⟩ (by show g.n - (pos + 1) < g.n - pos; omega)
          · refine ⟨⟨Nat.le_of_ble_eq_true rfl, by show ((a1.length + 1 : Nat) : Int) * 8 ≤ _; omega, by omega⟩, ?_⟩
            refine Wk.on ?_
            exact Again.under (pos + 1, q, [a0, a1 ++ [(pos : Int)], a2, a3, a4, a5, a6]) (Under.wk [(7, 14)] ⟨rfl, rfl, Nat.le_of_ble_eq_true rfl, Nat.le_of_ble_eq_true rfl⟩ rfl ⟨Or.inl rfl, Or.inl rfl, Or.inl rfl, Or.inl rfl, Or.inl rfl, Or.inl rfl, trivial⟩ ⟨Or.inr (Or.inl (Or.inr ⟨rfl, row_len _ _ _, rfl, rfl, rfl, rfl, rfl, wk_tail _ _ q⟩)), Or.inl rfl, Or.inl (congrArg ABlk.own (ints_ren _ _).symm), Or.inl rfl, Or.inl (congrArg ABlk.ro (ints_ren _ _).symm), Or.inl rfl, Or.inl (congrArg (ABlk.row 3 1) (ints_ren _ _).symm), Or.inl ((congrArg (ABlk.row 3 1) (app_new a1 pos)).trans (congrArg (ABlk.row 3 1) (ints_ren _ _).symm)), Or.inl (congrArg (ABlk.row 3 1) (ints_ren _ _).symm), Or.inl (congrArg (ABlk.row 3 1) (ints_ren _ _).symm), Or.inl (congrArg (ABlk.row 3 1) (ints_ren _ _).symm), Or.inl (congrArg (ABlk.row 3 1) (ints_ren _ _).symm), Or.inl (congrArg (ABlk.row 3 1) (ints_ren _ _).symm), trivial⟩ rfl (by simp [tupA, hpLt, tmLt, AV.lt, AE.lt, AC.lt, LL_cons, LL_nil, idOk, ABlk.lt, ints_LL, GB, tab64_LL, gC, wB, giC, noneB, putB, putS, nils_LL, rwC, rwH, List.replicate]) (by simp [tupA, hpLt, tmLt, AV.lt, AE.lt, AC.lt, LL_cons, LL_nil, idOk, ABlk.lt, ints_LL, GB, tab64_LL, gC, wB, giC, noneB, putB, putS, nils_LL, rwC, rwH, List.replicate])) ⟨by show pos + 1 ≤ g.n; omega, hput.symm, by simp only [List.length_cons, List.length_nil]; omega⟩ (by show g.n - (pos + 1) < g.n - pos; omega)
        rcases l with _ | l
        · simp only [List.length_cons, List.length_nil] at hrp hs1 hVp h3
          have hal : a2.length ≤ 8 := hVm _ (by simp)
          simp only [putS, rwC, rwH, List.cons_append, List.nil_append, List.length_cons, List.length_nil, Nat.reduceAdd]
          have hg2 : (ints (wL w)).getD (0 + pos * 1) (.int .i64 0) = .int .i64 (2 : Int) := hget
          refine Wk.on ?_
          rw [decide_eq_true (show ((pos : Nat) : Int) < ((g.n : Nat) : Int) by omega)]
          refine Wk.on ?_
          rw [Int.toNat_natCast, hg2]
          refine Wk.on ?_
          refine Tr.cap 5 2 1 rfl rfl fun c hc => ?_
          refine Tr.draw (md := true) [⟨[], [39, 40, 41, 42, 43, 44, 45, 46], [], [], [8]⟩, ⟨[], [38, 40, 41, 42, 43, 44, 45, 46], [0], [], [8]⟩, ⟨[], [38, 39, 41, 44, 45], [0, 1], [], []⟩, ⟨[], [38, 39, 40, 44, 45], [0, 1, 2], [], []⟩, ⟨[2, 3], [38, 39, 44, 45], [0, 1], [], []⟩, ⟨[2, 3, 4], [38, 39, 44, 45], [0, 1], [], []⟩, ⟨[], [38, 39, 40, 41, 42, 43], [0, 1, 2, 3, 4, 5], [], []⟩, ⟨[6], [38, 39, 40, 41, 42, 43], [0, 1, 2, 3, 4, 5], [], []⟩, ⟨[2, 3, 4, 5, 6, 7], [38, 39], [0, 1], [8], []⟩] tok (by kernel_rfl) (by kernel_rfl) ?_
          refine Wk.on ?_
          refine ⟨⟨rfl, rfl, rfl, by rw [ints_len]; omega⟩, fun hin => ?_, fun hnew => ?_⟩
          · refine Wk.on ?_
            exact Again.under (pos + 1, q, [a0, a1, a2 ++ [(pos : Int)], a3, a4, a5, a6]) (Under.wk [] ⟨rfl, rfl, Nat.le_of_ble_eq_true rfl, Nat.le_of_ble_eq_true rfl⟩ rfl ⟨Or.inl rfl, Or.inl rfl, Or.inl rfl, Or.inl rfl, Or.inl rfl, Or.inl rfl, trivial⟩ ⟨Or.inr (Or.inl (Or.inr ⟨rfl, rfl, ⟨rfl, rfl, by simp⟩, rfl, rfl, rfl, rfl, wk_tail _ _ q⟩)), Or.inl rfl, Or.inl (congrArg ABlk.own (ints_ren _ _).symm), Or.inl rfl, Or.inl (congrArg ABlk.ro (ints_ren _ _).symm), Or.inl rfl, Or.inl (congrArg (ABlk.row 3 1) (ints_ren _ _).symm), Or.inl (congrArg (ABlk.row 3 1) (ints_ren _ _).symm), Or.inl ((congrArg (ABlk.row 3 1) (app_in a2 pos)).trans (congrArg (ABlk.row 3 1) (ints_ren _ _).symm)), Or.inl (congrArg (ABlk.row 3 1) (ints_ren _ _).symm), Or.inl (congrArg (ABlk.row 3 1) (ints_ren _ _).symm), Or.inl (congrArg (ABlk.row 3 1) (ints_ren _ _).symm), Or.inl (congrArg (ABlk.row 3 1) (ints_ren _ _).symm), trivial⟩ rfl (by simp [tupA, hpLt, tmLt, AV.lt, AE.lt, AC.lt, LL_cons, LL_nil, idOk, ABlk.lt, ints_LL, GB, tab64_LL, gC, wB, giC, noneB, putB, putS, nils_LL, rwC, rwH, List.replicate]) (by simp [tupA, hpLt, tmLt, AV.lt, AE.lt, AC.lt, LL_cons, LL_nil, idOk, ABlk.lt, ints_LL, GB, tab64_LL, gC, wB, giC, noneB, putB, putS, nils_LL, rwC, rwH, List.replicate])) ⟨by show pos + 1 ≤ g.n; omega, hput.symm, by simp only [List.length_cons, List.length_nil]; omega⟩ (by show g.n - (pos + 1) < g.n - pos; omega)
          · refine ⟨⟨Nat.le_of_ble_eq_true rfl, by show ((a2.length + 1 : Nat) : Int) * 8 ≤ _; omega, by omega⟩, ?_⟩
            refine Wk.on ?_
            exact Again.under (pos + 1, q, [a0, a1, a2 ++ [(pos : Int)], a3, a4, a5, a6]) (Under.wk [(8, 14)] ⟨rfl, rfl, Nat.le_of_ble_eq_true rfl, Nat.le_of_ble_eq_true rfl⟩ rfl ⟨Or.inl rfl, Or.inl rfl, Or.inl rfl, Or.inl rfl, Or.inl rfl, Or.inl rfl, trivial⟩ ⟨Or.inr (Or.inl (Or.inr ⟨rfl, rfl, row_len _ _ _, rfl, rfl, rfl, rfl, wk_tail _ _ q⟩)), Or.inl rfl, Or.inl (congrArg ABlk.own (ints_ren _ _).symm), Or.inl rfl, Or.inl (congrArg ABlk.ro (ints_ren _ _).symm), Or.inl rfl, Or.inl (congrArg (ABlk.row 3 1) (ints_ren _ _).symm), Or.inl (congrArg (ABlk.row 3 1) (ints_ren _ _).symm), Or.inl ((congrArg (ABlk.row 3 1) (app_new a2 pos)).trans (congrArg (ABlk.row 3 1) (ints_ren _ _).symm)), Or.inl (congrArg (ABlk.row 3 1) (ints_ren _ _).symm), Or.inl (congrArg (ABlk.row 3 1) (ints_ren _ _).symm), Or.inl (congrArg (ABlk.row 3 1) (ints_ren _ _).symm), Or.inl (congrArg (ABlk.row 3 1) (ints_ren _ _).symm), trivial⟩ rfl (by simp [tupA, hpLt, tmLt, AV.lt, AE.lt, AC.lt, LL_cons, LL_nil, idOk, ABlk.lt, ints_LL, GB, tab64_LL, gC, wB, giC, noneB, putB, putS, nils_LL, rwC, rwH, List.replicate]) (by simp [tupA, hpLt, tmLt, AV.lt, AE.lt, AC.lt, LL_cons, LL_nil, idOk, ABlk.lt, ints_LL, GB, tab64_LL, gC, wB, giC, noneB, putB, putS, nils_LL, rwC, rwH, List.replicate])) ⟨by show pos + 1 ≤ g.n; omega, hput.symm, by simp only [List.length_cons, List.length_nil]; omega⟩ (by show g.n - (pos + 1) < g.n - pos; omega)
        rcases l with _ | l
        · simp only [List.length_cons, List.length_nil] at hrp hs1 hVp h3
          have hal : a3.length ≤ 8 := hVm _ (by simp)
          simp only [putS, rwC, rwH, List.cons_append, List.nil_append, List.length_cons, List.length_nil, Nat.reduceAdd]
          have hg2 : (ints (wL w)).getD (0 + pos * 1) (.int .i64 0) = .int .i64 (3 : Int) := hget
          refine Wk.on ?_
          rw [decide_eq_true (show ((pos : Nat) : Int) < ((g.n : Nat) : Int) by omega)]
          refine Wk.on ?_
          rw [Int.toNat_natCast, hg2]
          refine Wk.on ?_
          refine Tr.cap 5 3 1 rfl rfl fun c hc => ?_
          refine Tr.draw (md := true) [⟨[], [39, 40, 41, 42, 43, 44, 45, 46], [], [], [9]⟩, ⟨[], [38, 40, 41, 42, 43, 44, 45, 46], [0], [], [9]⟩, ⟨[], [38, 39, 41, 44, 45], [0, 1], [], []⟩, ⟨[], [38, 39, 40, 44, 45], [0, 1, 2], [], []⟩, ⟨[2, 3], [38, 39, 44, 45], [0, 1], [], []⟩, ⟨[2, 3, 4], [38, 39, 44, 45], [0, 1], [], []⟩, ⟨[], [38, 39, 40, 41, 42, 43], [0, 1, 2, 3, 4, 5], [], []⟩, ⟨[6], [38, 39, 40, 41, 42, 43], [0, 1, 2, 3, 4, 5], [], []⟩, ⟨[2, 3, 4, 5, 6, 7], [38, 39], [0, 1], [9], []⟩] tok (by kernel_rfl) (by kernel_rfl) ?_
          refine Wk.on ?_
          refine ⟨⟨rfl, rfl, rfl, by rw [ints_len]; omega⟩, fun hin => ?_, fun hnew => ?_⟩
          · refine Wk.on ?_
            exact Again.under (pos + 1, q, [a0, a1, a2, a3 ++ [(pos : Int)], a4, a5, a6]) (Under.wk [] ⟨rfl, rfl, Nat.le_of_ble_eq_true rfl, Nat.le_of_ble_eq_true rfl⟩ rfl ⟨Or.inl rfl, Or.inl rfl, Or.inl rfl, Or.inl rfl, Or.inl rfl, Or.inl rfl, trivial⟩ ⟨Or.inr (Or.inl (Or.inr ⟨rfl, rfl, rfl, ⟨rfl, rfl, by simp⟩, rfl, rfl, rfl, wk_tail _ _ q⟩)), Or.inl rfl, Or.inl (congrArg ABlk.own (ints_ren _ _).symm), Or.inl rfl, Or.inl (congrArg ABlk.ro (ints_ren _ _).symm), Or.inl rfl, Or.inl (congrArg (ABlk.row 3 1) (ints_ren _ _).symm), Or.inl (congrArg (ABlk.row 3 1) (ints_ren _ _).symm), Or.inl (congrArg (ABlk.row 3 1) (ints_ren _ _).symm), Or.inl ((congrArg (ABlk.row 3 1) (app_in a3 pos)).trans (congrArg (ABlk.row 3 1) (ints_ren _ _).symm)), Or.inl (congrArg (ABlk.row 3 1) (ints_ren _ _).symm), Or.inl (congrArg (ABlk.row 3 1) (ints_ren _ _).symm), Or.inl (congrArg (ABlk.row 3 1) (ints_ren _ _).symm), trivial⟩ rfl (by simp [tupA, hpLt, tmLt, AV.lt, AE.lt, AC.lt, LL_cons, LL_nil, idOk, ABlk.lt, ints_LL, GB, tab64_LL, gC, wB, giC, noneB, putB, putS, nils_LL, rwC, rwH, List.replicate]) (by simp [tupA, hpLt, tmLt, AV.lt, AE.lt, AC.lt, LL_cons, LL_nil, idOk, ABlk.lt, ints_LL, GB, tab64_LL, gC, wB, giC, noneB, putB, putS, nils_LL, rwC, rwH, List.replicate])) ⟨by show pos + 1 ≤ g.n; omega, hput.symm, by simp only [List.length_cons, List.length_nil]; omega⟩ (by show g.n - (pos + 1) < g.n - pos; omega)
          · refine ⟨⟨Nat.le_of_ble_eq_true rfl, by show ((a3.length + 1 : Nat) : Int) * 8 ≤ _; omega, by omega⟩, ?_⟩
            refine Wk.on ?_
            exact Again.under (pos + 1, q, [a0, a1, a2, a3 ++ [(pos : Int)], a4, a5, a6]) (Under.wk [(9, 14)] ⟨rfl, rfl, Nat.le_of_ble_eq_true rfl, Nat.le_of_ble_eq_true rfl⟩ rfl ⟨Or.inl rfl, Or.inl rfl, Or.inl rfl, Or.inl rfl, Or.inl rfl, Or.inl rfl, trivial⟩ ⟨Or.inr (Or.inl (Or.inr ⟨rfl, rfl, rfl, row_len _ _ _, rfl, rfl, rfl, wk_tail _ _ q⟩)), Or.inl rfl, Or.inl (congrArg ABlk.own (ints_ren _ _).symm), Or.inl rfl, Or.inl (congrArg ABlk.ro (ints_ren _ _).symm), Or.inl rfl, Or.inl (congrArg (ABlk.row 3 1) (ints_ren _ _).symm), Or.inl (congrArg (ABlk.row 3 1) (ints_ren _ _).symm), Or.inl (congrArg (ABlk.row 3 1) (ints_ren _ _).symm), Or.inl ((congrArg (ABlk.row 3 1) (app_new a3 pos)).trans (congrArg (ABlk.row 3 1) (ints_ren _ _).symm)), Or.inl (congrArg (ABlk.row 3 1) (ints_ren _ _).symm), Or.inl (congrArg (ABlk.row 3 1) (ints_ren _ _).symm), Or.inl (congrArg (ABlk.row 3 1) (ints_ren _ _).symm), trivial⟩ rfl (by simp [tupA, hpLt, tmLt, AV.lt, AE.lt, AC.lt, LL_cons, LL_nil, idOk, ABlk.lt, ints_LL, GB, tab64_LL, gC, wB, giC, noneB, putB, putS, nils_LL, rwC, rwH, List.replicate]) (by simp [tupA, hpLt, tmLt, AV.lt, AE.lt, AC.lt, LL_cons, LL_nil, idOk, ABlk.lt, ints_LL, GB, tab64_LL, gC, wB, giC, noneB, putB, putS, nils_LL, rwC, rwH, List.replicate])) ⟨by show pos + 1 ≤ g.n; omega, hput.symm, by simp only [List.length_cons, List.length_nil]; omega⟩ (by show g.n - (pos + 1) < g.n - pos; omega)
        rcases l with _ | l
        · simp only [List.length_cons, List.length_nil] at hrp hs1 hVp h3
          have hal : a4.length ≤ 8 := hVm _ (by simp)
          simp only [putS, rwC, rwH, List.cons_append, List.nil_append, List.length_cons, List.length_nil, Nat.reduceAdd]
          have hg2 : (ints (wL w)).getD (0 + pos * 1) (.int .i64 0) = .int .i64 (4 : Int) := hget
          refine Wk.on ?_
          rw [decide_eq_true (show ((pos : Nat) : Int) < ((g.n : Nat) : Int) by omega)]
          refine Wk.on ?_
          rw [Int.toNat_natCast, hg2]
          refine Wk.on ?_
          refine Tr.cap 5 4 1 rfl rfl fun c hc => ?_
          refine Tr.draw (md := true) [⟨[], [39, 40, 41, 42, 43, 44, 45, 46], [], [], [10]⟩, ⟨[], [38, 40, 41, 42, 43, 44, 45, 46], [0], [], [10]⟩, ⟨[], [38, 39, 41, 44, 45], [0, 1], [], []⟩, ⟨[], [38, 39, 40, 44, 45], [0, 1, 2], [], []⟩, ⟨[2, 3], [38, 39, 44, 45], [0, 1], [], []⟩, ⟨[2, 3, 4], [38, 39, 44, 45], [0, 1], [], []⟩, ⟨[], [38, 39, 40, 41, 42, 43], [0, 1, 2, 3, 4, 5], [], []⟩, ⟨[6], [38, 39, 40, 41, 42, 43], [0, 1, 2, 3, 4, 5], [], []⟩, ⟨[2, 3, 4, 5, 6, 7], [38, 39], [0, 1], [10], []⟩] tok (by kernel_rfl) (by kernel_rfl) ?_
          refine Wk.on ?_
          refine ⟨⟨rfl, rfl, rfl, by rw [ints_len]; omega⟩, fun hin => ?_, fun hnew => ?_⟩
          · refine Wk.on ?_
            exact Again.under (pos + 1, q, [a0, a1, a2, a3, a4 ++ [(pos : Int)], a5, a6]) (Under.wk [] ⟨rfl, rfl, Nat.le_of_ble_eq_true rfl, Nat.le_of_ble_eq_true rfl⟩ rfl ⟨Or.inl rfl, Or.inl rfl, Or.inl rfl, Or.inl rfl, Or.inl rfl, Or.inl rfl, trivial⟩ ⟨Or.inr (Or.inl (Or.inr ⟨rfl, rfl, rfl, rfl, ⟨rfl, rfl, by simp⟩, rfl, rfl, wk_tail _ _ q⟩)), Or.inl rfl, Or.inl (congrArg ABlk.own (ints_ren _ _).symm), Or.inl rfl, Or.inl (congrArg ABlk.ro (ints_ren _ _).symm), Or.inl rfl, Or.inl (congrArg (ABlk.row 3 1) (ints_ren _ _).symm), Or.inl (congrArg (ABlk.row 3 1) (ints_ren _ _).symm), Or.inl (congrArg (ABlk.row 3 1) (ints_ren _ _).symm), Or.inl (congrArg (ABlk.row 3 1) (ints_ren _ _).symm), Or.inl ((congrArg (ABlk.row 3 1) (app_in a4 pos)).trans (congrArg (ABlk.row 3 1) (ints_ren _ _).symm)), Or.inl (congrArg (ABlk.row 3 1) (ints_ren _ _).symm), Or.inl (congrArg (ABlk.row 3 1) (ints_ren _ _).symm), trivial⟩ rfl (by simp [tupA, hpLt, tmLt, AV.lt, AE.lt, AC.lt, LL_cons, LL_nil, idOk, ABlk.lt, ints_LL, GB, tab64_LL, gC, wB, giC, noneB, putB, putS, nils_LL, rwC, rwH, List.replicate]) (by simp [tupA, hpLt, tmLt, AV.lt, AE.lt, AC.lt, LL_cons, LL_nil, idOk, ABlk.lt, ints_LL, GB, tab64_LL, gC, wB, giC, noneB, putB, putS, nils_LL, rwC, rwH, List.replicate])) ⟨by show pos + 1 ≤ g.n; omega, hput.symm, by simp only [List.length_cons, List.length_nil]; omega⟩ (by show g.n - (pos + 1) < g.n - pos; omega)
          · refine ⟨⟨Nat.le_of_ble_eq_true rfl, by show ((a4.length + 1 : Nat) : Int) * 8 ≤ _; omega, by omega⟩, ?_⟩
            refine Wk.on ?_
            exact Again.under (pos + 1, q, [a0, a1, a2, a3, a4 ++ [(pos : Int)], a5, a6]) (Under.wk [(10, 14)] ⟨rfl, rfl, Nat.le_of_ble_eq_true rfl, Nat.le_of_ble_eq_true rfl⟩ rfl ⟨Or.inl rfl, Or.inl rfl, Or.inl rfl, Or.inl rfl, Or.inl rfl, Or.inl rfl, trivial⟩ ⟨Or.inr (Or.inl (Or.inr ⟨rfl, rfl, rfl, rfl, row_len _ _ _, rfl, rfl, wk_tail _ _ q⟩)), Or.inl rfl, Or.inl (congrArg ABlk.own (ints_ren _ _).symm), Or.inl rfl, Or.inl (congrArg ABlk.ro (ints_ren _ _).symm), Or.inl rfl, Or.inl (congrArg (ABlk.row 3 1) (ints_ren _ _).symm), Or.inl (congrArg (ABlk.row 3 1) (ints_ren _ _).symm), Or.inl (congrArg (ABlk.row 3 1) (ints_ren _ _).symm), Or.inl (congrArg (ABlk.row 3 1) (ints_ren _ _).symm), Or.inl ((congrArg (ABlk.row 3 1) (app_new a4 pos)).trans (congrArg (ABlk.row 3 1) (ints_ren _ _).symm)), Or.inl (congrArg (ABlk.row 3 1) (ints_ren _ _).symm), Or.inl (congrArg (ABlk.row 3 1) (ints_ren _ _).symm), trivial⟩ rfl (by simp [tupA, hpLt, tmLt, AV.lt, AE.lt, AC.lt, LL_cons, LL_nil, idOk, ABlk.lt, ints_LL, GB, tab64_LL, gC, wB, giC, noneB, putB, putS, nils_LL, rwC, rwH, List.replicate]) (by simp [tupA, hpLt, tmLt, AV.lt, AE.lt, AC.lt, LL_cons, LL_nil, idOk, ABlk.lt, ints_LL, GB, tab64_LL, gC, wB, giC, noneB, putB, putS, nils_LL, rwC, rwH, List.replicate])) ⟨by show pos + 1 ≤ g.n; omega, hput.symm, by simp only [List.length_cons, List.length_nil]; omega⟩ (by show g.n - (pos + 1) < g.n - pos; omega)
        rcases l with _ | l
        · simp only [List.length_cons, List.length_nil] at hrp hs1 hVp h3
          have hal : a5.length ≤ 8 := hVm _ (by simp)
          simp only [putS, rwC, rwH, List.cons_append, List.nil_append, List.length_cons, List.length_nil, Nat.reduceAdd]
          have hg2 : (ints (wL w)).getD (0 + pos * 1) (.int .i64 0) = .int .i64 (5 : Int) := hget
          refine Wk.on ?_
          rw [decide_eq_true (show ((pos : Nat) : Int) < ((g.n : Nat) : Int) by omega)]
          refine Wk.on ?_
          rw [Int.toNat_natCast, hg2]
          refine Wk.on ?_
          refine Tr.cap 5 5 1 rfl rfl fun c hc => ?_
          refine Tr.draw (md := true) [⟨[], [39, 40, 41, 42, 43, 44, 45, 46], [], [], [11]⟩, ⟨[], [38, 40, 41, 42, 43, 44, 45, 46], [0], [], [11]⟩, ⟨[], [38, 39, 41, 44, 45], [0, 1], [], []⟩, ⟨[], [38, 39, 40, 44, 45], [0, 1, 2], [], []⟩, ⟨[2, 3], [38, 39, 44, 45], [0, 1], [], []⟩, ⟨[2, 3, 4], [38, 39, 44, 45], [0, 1], [], []⟩, ⟨[], [38, 39, 40, 41, 42, 43], [0, 1, 2, 3, 4, 5], [], []⟩, ⟨[6], [38, 39, 40, 41, 42, 43], [0, 1, 2, 3, 4, 5], [], []⟩, ⟨[2, 3, 4, 5, 6, 7], [38, 39], [0, 1], [11], []⟩] tok (by kernel_rfl) (by kernel_rfl) ?_
          refine Wk.on ?_
          refine ⟨⟨rfl, rfl, rfl, by rw [ints_len]; omega⟩, fun hin => ?_, fun hnew => ?_⟩
          · refine Wk.on ?_
            exact Again.under (pos + 1, q, [a0, a1, a2, a3, a4, a5 ++ [(pos : Int)], a6]) (Under.wk [] ⟨rfl, rfl, Nat.le_of_ble_eq_true rfl, Nat.le_of_ble_eq_true rfl⟩ rfl ⟨Or.inl rfl, Or.inl rfl, Or.inl rfl, Or.inl rfl, Or.inl rfl, Or.inl rfl, trivial⟩ ⟨Or.inr (Or.inl (Or.inr ⟨rfl, rfl, rfl, rfl, rfl, ⟨rfl, rfl, by simp⟩, rfl, wk_tail _ _ q⟩)), Or.inl rfl, Or.inl (congrArg ABlk.own (ints_ren _ _).symm), Or.inl rfl, Or.inl (congrArg ABlk.ro (ints_ren _ _).symm), Or.inl rfl, Or.inl (congrArg (ABlk.row 3 1) (ints_ren _ _).symm), Or.inl (congrArg (ABlk.row 3 1) (ints_ren _ _).symm), Or.inl (congrArg (ABlk.row 3 1) (ints_ren _ _).symm), Or.inl (congrArg (ABlk.row 3 1) (ints_ren _ _).symm), Or.inl (congrArg (ABlk.row 3 1) (ints_ren _ _).symm), Or.inl ((congrArg (ABlk.row 3 1) (app_in a5 pos)).trans (congrArg (ABlk.row 3 1) (ints_ren _ _).symm)), Or.inl (congrArg (ABlk.row 3 1) (ints_ren _ _).symm), trivial⟩ rfl (by simp [tupA, hpLt, tmLt, AV.lt, AE.lt, AC.lt, LL_cons, LL_nil, idOk, ABlk.lt, ints_LL, GB, tab64_LL, gC, wB, giC, noneB, putB, putS, nils_LL, rwC, rwH, List.replicate]) (by simp [tupA, hpLt, tmLt, AV.lt, AE.lt, AC.lt, LL_cons, LL_nil, idOk, ABlk.lt, ints_LL, GB, tab64_LL, gC, wB, giC, noneB, putB, putS, nils_LL, rwC, rwH, List.replicate])) ⟨by show pos + 1 ≤ g.n; omega, hput.symm, by simp only [List.length_cons, List.length_nil]; omega⟩ (by show g.n - (pos + 1) < g.n - pos; omega)
          · refine ⟨⟨Nat.le_of_ble_eq_true rfl, by show ((a5.length + 1 : Nat) : Int) * 8 ≤ _; omega, by omega⟩, ?_⟩
            refine Wk.on ?_
            exact Again.under (pos + 1, q, [a0, a1, a2, a3, a4, a5 ++ [(pos : Int)], a6]) (Under.wk [(11, 14)] ⟨rfl, rfl, Nat.le_of_ble_eq_true rfl, Nat.le_of_ble_eq_true rfl⟩ rfl ⟨Or.inl rfl, Or.inl rfl, Or.inl rfl, Or.inl rfl, Or.inl rfl, Or.inl rfl, trivial⟩ ⟨Or.inr (Or.inl (Or.inr ⟨rfl, rfl, rfl, rfl, rfl, row_len _ _ _, rfl, wk_tail _ _ q⟩)), Or.inl rfl, Or.inl (congrArg ABlk.own (ints_ren _ _).symm), Or.inl rfl, Or.inl (congrArg ABlk.ro (ints_ren _ _).symm), Or.inl rfl, Or.inl (congrArg (ABlk.row 3 1) (ints_ren _ _).symm), Or.inl (congrArg (ABlk.row 3 1) (ints_ren _ _).symm), Or.inl (congrArg (ABlk.row 3 1) (ints_ren _ _).symm), Or.inl (congrArg (ABlk.row 3 1) (ints_ren _ _).symm), Or.inl (congrArg (ABlk.row 3 1) (ints_ren _ _).symm), Or.inl ((congrArg (ABlk.row 3 1) (app_new a5 pos)).trans (congrArg (ABlk.row 3 1) (ints_ren _ _).symm)), Or.inl (congrArg (ABlk.row 3 1) (ints_ren _ _).symm), trivial⟩ rfl (by simp [tupA, hpLt, tmLt, AV.lt, AE.lt, AC.lt, LL_cons, LL_nil, idOk, ABlk.lt, ints_LL, GB, tab64_LL, gC, wB, giC, noneB, putB, putS, nils_LL, rwC, rwH, List.replicate]) (by simp [tupA, hpLt, tmLt, AV.lt, AE.lt, AC.lt, LL_cons, LL_nil, idOk, ABlk.lt, ints_LL, GB, tab64_LL, gC, wB, giC, noneB, putB, putS, nils_LL, rwC, rwH, List.replicate])) ⟨by show pos + 1 ≤ g.n; omega, hput.symm, by simp only [List.length_cons, List.length_nil]; omega⟩ (by show g.n - (pos + 1) < g.n - pos; omega)
        rcases l with _ | l
        · simp only [List.length_cons, List.length_nil] at hrp hs1 hVp h3
          have hal : a6.length ≤ 8 := hVm _ (by simp)
          simp only [putS, rwC, rwH, List.cons_append, List.nil_append, List.length_cons, List.length_nil, Nat.reduceAdd]
          have hg2 : (ints (wL w)).getD (0 + pos * 1) (.int .i64 0) = .int .i64 (6 : Int) := hget
          refine Wk.on ?_
          rw [decide_eq_true (show ((pos : Nat) : Int) < ((g.n : Nat) : Int) by omega)]
          refine Wk.on ?_
          rw [Int.toNat_natCast, hg2]
          refine Wk.on ?_
          refine Tr.cap 5 6 1 rfl rfl fun c hc => ?_
          refine Tr.draw (md := true) [⟨[], [39, 40, 41, 42, 43, 44, 45, 46], [], [], [12]⟩, ⟨[], [38, 40, 41, 42, 43, 44, 45, 46], [0], [], [12]⟩, ⟨[], [38, 39, 41, 44, 45], [0, 1], [], []⟩, ⟨[], [38, 39, 40, 44, 45], [0, 1, 2], [], []⟩, ⟨[2, 3], [38, 39, 44, 45], [0, 1], [], []⟩, ⟨[2, 3, 4], [38, 39, 44, 45], [0, 1], [], []⟩, ⟨[], [38, 39, 40, 41, 42, 43], [0, 1, 2, 3, 4, 5], [], []⟩, ⟨[6], [38, 39, 40, 41, 42, 43], [0, 1, 2, 3, 4, 5], [], []⟩, ⟨[2, 3, 4, 5, 6, 7], [38, 39], [0, 1], [12], []⟩] tok (by kernel_rfl) (by kernel_rfl) ?_
          refine Wk.on ?_
          refine ⟨⟨rfl, rfl, rfl, by rw [ints_len]; omega⟩, fun hin => ?_, fun hnew => ?_⟩
          · refine Wk.on ?_
            exact Again.under (pos + 1, q, [a0, a1, a2, a3, a4, a5, a6 ++ [(pos : Int)]]) (Under.wk [] ⟨rfl, rfl, Nat.le_of_ble_eq_true rfl, Nat.le_of_ble_eq_true rfl⟩ rfl ⟨Or.inl rfl, Or.inl rfl, Or.inl rfl, Or.inl rfl, Or.inl rfl, Or.inl rfl, trivial⟩ ⟨Or.inr (Or.inl (Or.inr ⟨rfl, rfl, rfl, rfl, rfl, rfl, ⟨rfl, rfl, by simp⟩, wk_tail _ _ q⟩)), Or.inl rfl, Or.inl (congrArg ABlk.own (ints_ren _ _).symm), Or.inl rfl, Or.inl (congrArg ABlk.ro (ints_ren _ _).symm), Or.inl rfl, Or.inl (congrArg (ABlk.row 3 1) (ints_ren _ _).symm), Or.inl (congrArg (ABlk.row 3 1) (ints_ren _ _).symm), Or.inl (congrArg (ABlk.row 3 1) (ints_ren _ _).symm), Or.inl (congrArg (ABlk.row 3 1) (ints_ren _ _).symm), Or.inl (congrArg (ABlk.row 3 1) (ints_ren _ _).symm), Or.inl (congrArg (ABlk.row 3 1) (ints_ren _ _).symm), Or.inl ((congrArg (ABlk.row 3 1) (app_in a6 pos)).trans (congrArg (ABlk.row 3 1) (ints_ren _ _).symm)), trivial⟩ rfl (by simp [tupA, hpLt, tmLt, AV.lt, AE.lt, AC.lt, LL_cons, LL_nil, idOk, ABlk.lt, ints_LL, GB, tab64_LL, gC, wB, giC, noneB, putB, putS, nils_LL, rwC, rwH, List.replicate]) (by simp [tupA, hpLt, tmLt, AV.lt, AE.lt, AC.lt, LL_cons, LL_nil, idOk, ABlk.lt, ints_LL, GB, tab64_LL, gC, wB, giC, noneB, putB, putS, nils_LL, rwC, rwH, List.replicate])) ⟨by show pos + 1 ≤ g.n; omega, hput.symm, by simp only [List.length_cons, List.length_nil]; omega⟩ (by show g.n - (pos + 1) < g.n - pos; omega)
          · refine ⟨⟨Nat.le_of_ble_eq_true rfl, by show ((a6.length + 1 : Nat) : Int) * 8 ≤ _; omega, by omega⟩, ?_⟩
            refine Wk.on ?_
            exact Again.under (pos + 1, q, [a0, a1, a2, a3, a4, a5, a6 ++ [(pos : Int)]]) (Under.wk [(12, 14)] ⟨rfl, rfl, Nat.le_of_ble_eq_true rfl, Nat.le_of_ble_eq_true rfl⟩ rfl ⟨Or.inl rfl, Or.inl rfl, Or.inl rfl, Or.inl rfl, Or.inl rfl, Or.inl rfl, trivial⟩ ⟨Or.inr (Or.inl (Or.inr ⟨rfl, rfl, rfl, rfl, rfl, rfl, row_len _ _ _, wk_tail _ _ q⟩)), Or.inl rfl, Or.inl (congrArg ABlk.own (ints_ren _ _).symm), Or.inl rfl, Or.inl (congrArg ABlk.ro (ints_ren _ _).symm), Or.inl rfl, Or.inl (congrArg (ABlk.row 3 1) (ints_ren _ _).symm), Or.inl (congrArg (ABlk.row 3 1) (ints_ren _ _).symm), Or.inl (congrArg (ABlk.row 3 1) (ints_ren _ _).symm), Or.inl (congrArg (ABlk.row 3 1) (ints_ren _ _).symm), Or.inl (congrArg (ABlk.row 3 1) (ints_ren _ _).symm), Or.inl (congrArg (ABlk.row 3 1) (ints_ren _ _).symm), Or.inl ((congrArg (ABlk.row 3 1) (app_new a6 pos)).trans (congrArg (ABlk.row 3 1) (ints_ren _ _).symm)), trivial⟩ rfl (by simp [tupA, hpLt, tmLt, AV.lt, AE.lt, AC.lt, LL_cons, LL_nil, idOk, ABlk.lt, ints_LL, GB, tab64_LL, gC, wB, giC, noneB, putB, putS, nils_LL, rwC, rwH, List.replicate]) (by simp [tupA, hpLt, tmLt, AV.lt, AE.lt, AC.lt, LL_cons, LL_nil, idOk, ABlk.lt, ints_LL, GB, tab64_LL, gC, wB, giC, noneB, putB, putS, nils_LL, rwC, rwH, List.replicate])) ⟨by show pos + 1 ≤ g.n; omega, hput.symm, by simp only [List.length_cons, List.length_nil]; omega⟩ (by show g.n - (pos + 1) < g.n - pos; omega)
        rcases l with _ | l
        · simp only [List.length_cons, List.length_nil] at hrp hs1 hVp h3
          rcases q with _ | q
          · omega
          simp only [putS, rwC, rwH, List.cons_append, List.nil_append, List.length_cons, List.length_nil, Nat.reduceAdd]
          have hg2 : (ints (wL w)).getD (0 + pos * 1) (.int .i64 0) = .int .i64 (7 : Int) := hget
          refine Wk.on ?_
          rw [decide_eq_true (show ((pos : Nat) : Int) < ((g.n : Nat) : Int) by omega)]
          refine Wk.on ?_
          rw [Int.toNat_natCast, hg2]
          refine Wk.on ?_
          refine Tr.draw (md := true) [⟨[], [39, 40, 41, 42, 43, 44, 45, 46], [], [], []⟩, ⟨[], [38, 40, 41, 42, 43, 44, 45, 46], [0], [], []⟩, ⟨[], [38, 39, 41, 44, 45], [0, 1], [], []⟩, ⟨[], [38, 39, 40, 44, 45], [0, 1, 2], [], []⟩, ⟨[2, 3], [38, 39, 44, 45], [0, 1], [], []⟩, ⟨[2, 3, 4], [38, 39, 44, 45], [0, 1], [], []⟩, ⟨[], [38, 39, 40, 41, 42, 43], [0, 1, 2, 3, 4, 5], [], []⟩, ⟨[6], [38, 39, 40, 41, 42, 43], [0, 1, 2, 3, 4, 5], [], []⟩, ⟨[2, 3, 4, 5, 6, 7], [38, 39], [0, 1], [], []⟩] tok (by kernel_rfl) (by kernel_rfl) ?_
          refine Wk.on ?_
          exact Again.under (pos + 1, q, [a0, a1, a2, a3, a4, a5, a6, [(pos : Int)]]) (Under.wk [(13, 14)] ⟨rfl, rfl, Nat.le_of_ble_eq_true rfl, Nat.le_of_ble_eq_true rfl⟩ rfl ⟨Or.inl rfl, Or.inl rfl, Or.inl rfl, Or.inl rfl, Or.inl rfl, Or.inl rfl, trivial⟩ ⟨Or.inr (Or.inl (Or.inr ⟨rfl, rfl, rfl, rfl, rfl, rfl, rfl, rfl, wk_tail _ _ q⟩)), Or.inl rfl, Or.inl (congrArg ABlk.own (ints_ren _ _).symm), Or.inl rfl, Or.inl (congrArg ABlk.ro (ints_ren _ _).symm), Or.inl rfl, Or.inl (congrArg (ABlk.row 3 1) (ints_ren _ _).symm), Or.inl (congrArg (ABlk.row 3 1) (ints_ren _ _).symm), Or.inl (congrArg (ABlk.row 3 1) (ints_ren _ _).symm), Or.inl (congrArg (ABlk.row 3 1) (ints_ren _ _).symm), Or.inl (congrArg (ABlk.row 3 1) (ints_ren _ _).symm), Or.inl (congrArg (ABlk.row 3 1) (ints_ren _ _).symm), Or.inl (congrArg (ABlk.row 3 1) (ints_ren _ _).symm), Or.inl rfl, trivial⟩ rfl (by simp [tupA, hpLt, tmLt, AV.lt, AE.lt, AC.lt, LL_cons, LL_nil, idOk, ABlk.lt, ints_LL, GB, tab64_LL, gC, wB, giC, noneB, putB, putS, nils_LL, rwC, rwH, List.replicate]) (by simp [tupA, hpLt, tmLt, AV.lt, AE.lt, AC.lt, LL_cons, LL_nil, idOk, ABlk.lt, ints_LL, GB, tab64_LL, gC, wB, giC, noneB, putB, putS, nils_LL, rwC, rwH, List.replicate])) ⟨by show pos + 1 ≤ g.n; omega, hput.symm, by simp only [List.length_cons, List.length_nil]; omega⟩ (by show g.n - (pos + 1) < g.n - pos; omega)
        simp only [List.length_cons, List.length_nil] at hrp
        omega
      simp only [List.length_cons] at hVp
      omega
    · obtain rfl : pos = g.n := by omega
      have hV8 : V.length ≤ 8 := by omega
      have hVM : V.length = M := by rw [h2, LV_len, hM]
      obtain rfl : q = 0 := by omega
      rw [← h2]
      refine Wk.on ?_
      rw [decide_eq_false (show ¬ ((g.n : Nat) : Int) < ((g.n : Nat) : Int) by omega)]
      refine Wk.on ?_
      intro _
      clear h2 hfin hb2 hc10 hsucc hM hr
      rcases V with _ | ⟨a0, V⟩
      · simp at hVM; omega
      rcases V with _ | ⟨a1, V⟩
      · simp at hVM; omega
      rcases V with _ | ⟨a2, V⟩
      · refine Wk.on ?_
        exact AH.Fin.new [5, 6, 7, 8, 9, 10, 11, 12, 13] _ _ ⟨rfl, rfl, rfl⟩ rfl ⟨congrArg (fun x => some (ABlk.own x)) (ints_ren _ _).symm, rfl, rfl, congrArg (fun x => some (ABlk.row 3 1 x)) (ints_ren _ _).symm, congrArg (fun x => some (ABlk.row 3 1 x)) (ints_ren _ _).symm, trivial⟩ rfl (by simp [tupA, hpLt, tmLt, AV.lt, AE.lt, AC.lt, LL_cons, LL_nil, idOk, ABlk.lt, ints_LL, GB, tab64_LL, gC, wB, giC, noneB, putB, putS, nils_LL, rwC, rwH, List.replicate]) (by simp [tupA, hpLt, tmLt, AV.lt, AE.lt, AC.lt, LL_cons, LL_nil, idOk, ABlk.lt, ints_LL, GB, tab64_LL, gC, wB, giC, noneB, putB, putS, nils_LL, rwC, rwH, List.replicate])
      rcases V with _ | ⟨a3, V⟩
      · refine Wk.on ?_
        exact AH.Fin.new [5, 6, 7, 8, 9, 10, 11, 12, 13] _ _ ⟨rfl, rfl, rfl⟩ rfl ⟨congrArg (fun x => some (ABlk.own x)) (ints_ren _ _).symm, rfl, rfl, congrArg (fun x => some (ABlk.row 3 1 x)) (ints_ren _ _).symm, congrArg (fun x => some (ABlk.row 3 1 x)) (ints_ren _ _).symm, congrArg (fun x => some (ABlk.row 3 1 x)) (ints_ren _ _).symm, trivial⟩ rfl (by simp [tupA, hpLt, tmLt, AV.lt, AE.lt, AC.lt, LL_cons, LL_nil, idOk, ABlk.lt, ints_LL, GB, tab64_LL, gC, wB, giC, noneB, putB, putS, nils_LL, rwC, rwH, List.replicate]) (by simp [tupA, hpLt, tmLt, AV.lt, AE.lt, AC.lt, LL_cons, LL_nil, idOk, ABlk.lt, ints_LL, GB, tab64_LL, gC, wB, giC, noneB, putB, putS, nils_LL, rwC, rwH, List.replicate])
      rcases V with _ | ⟨a4, V⟩
      · refine Wk.on ?_
        exact AH.Fin.new [5, 6, 7, 8, 9, 10, 11, 12, 13] _ _ ⟨rfl, rfl, rfl⟩ rfl ⟨congrArg (fun x => some (ABlk.own x)) (ints_ren _ _).symm, rfl, rfl, congrArg (fun x => some (ABlk.row 3 1 x)) (ints_ren _ _).symm, congrArg (fun x => some (ABlk.row 3 1 x)) (ints_ren _ _).symm, congrArg (fun x => some (ABlk.row 3 1 x)) (ints_ren _ _).symm, congrArg (fun x => some (ABlk.row 3 1 x)) (ints_ren _ _).symm, trivial⟩ rfl (by simp [tupA, hpLt, tmLt, AV.lt, AE.lt, AC.lt, LL_cons, LL_nil, idOk, ABlk.lt, ints_LL, GB, tab64_LL, gC, wB, giC, noneB, putB, putS, nils_LL, rwC, rwH, List.replicate]) (by simp [tupA, hpLt, tmLt, AV.lt, AE.lt, AC.lt, LL_cons, LL_nil, idOk, ABlk.lt, ints_LL, GB, tab64_LL, gC, wB, giC, noneB, putB, putS, nils_LL, rwC, rwH, List.replicate])
      rcases V with _ | ⟨a5, V⟩
      · refine Wk.on ?_
        exact AH.Fin.new [5, 6, 7, 8, 9, 10, 11, 12, 13] _ _ ⟨rfl, rfl, rfl⟩ rfl ⟨congrArg (fun x => some (ABlk.own x)) (ints_ren _ _).symm, rfl, rfl, congrArg (fun x => some (ABlk.row 3 1 x)) (ints_ren _ _).symm, congrArg (fun x => some (ABlk.row 3 1 x)) (ints_ren _ _).symm, congrArg (fun x => some (ABlk.row 3 1 x)) (ints_ren _ _).symm, congrArg (fun x => some (ABlk.row 3 1 x)) (ints_ren _ _).symm, congrArg (fun x => some (ABlk.row 3 1 x)) (ints_ren _ _).symm, trivial⟩ rfl (by simp [tupA, hpLt, tmLt, AV.lt, AE.lt, AC.lt, LL_cons, LL_nil, idOk, ABlk.lt, ints_LL, GB, tab64_LL, gC, wB, giC, noneB, putB, putS, nils_LL, rwC, rwH, List.replicate]) (by simp [tupA, hpLt, tmLt, AV.lt, AE.lt, AC.lt, LL_cons, LL_nil, idOk, ABlk.lt, ints_LL, GB, tab64_LL, gC, wB, giC, noneB, putB, putS, nils_LL, rwC, rwH, List.replicate])
      rcases V with _ | ⟨a6, V⟩
      · refine Wk.on ?_
        exact AH.Fin.new [5, 6, 7, 8, 9, 10, 11, 12, 13] _ _ ⟨rfl, rfl, rfl⟩ rfl ⟨congrArg (fun x => some (ABlk.own x)) (ints_ren _ _).symm, rfl, rfl, congrArg (fun x => some (ABlk.row 3 1 x)) (ints_ren _ _).symm, congrArg (fun x => some (ABlk.row 3 1 x)) (ints_ren _ _).symm, congrArg (fun x => some (ABlk.row 3 1 x)) (ints_ren _ _).symm, congrArg (fun x => some (ABlk.row 3 1 x)) (ints_ren _ _).symm, congrArg (fun x => some (ABlk.row 3 1 x)) (ints_ren _ _).symm, congrArg (fun x => some (ABlk.row 3 1 x)) (ints_ren _ _).symm, trivial⟩ rfl (by simp [tupA, hpLt, tmLt, AV.lt, AE.lt, AC.lt, LL_cons, LL_nil, idOk, ABlk.lt, ints_LL, GB, tab64_LL, gC, wB, giC, noneB, putB, putS, nils_LL, rwC, rwH, List.replicate]) (by simp [tupA, hpLt, tmLt, AV.lt, AE.lt, AC.lt, LL_cons, LL_nil, idOk, ABlk.lt, ints_LL, GB, tab64_LL, gC, wB, giC, noneB, putB, putS, nils_LL, rwC, rwH, List.replicate])
      rcases V with _ | ⟨a7, V⟩
      · refine Wk.on ?_
        exact AH.Fin.new [5, 6, 7, 8, 9, 10, 11, 12, 13] _ _ ⟨rfl, rfl, rfl⟩ rfl ⟨congrArg (fun x => some (ABlk.own x)) (ints_ren _ _).symm, rfl, rfl, congrArg (fun x => some (ABlk.row 3 1 x)) (ints_ren _ _).symm, congrArg (fun x => some (ABlk.row 3 1 x)) (ints_ren _ _).symm, congrArg (fun x => some (ABlk.row 3 1 x)) (ints_ren _ _).symm, congrArg (fun x => some (ABlk.row 3 1 x)) (ints_ren _ _).symm, congrArg (fun x => some (ABlk.row 3 1 x)) (ints_ren _ _).symm, congrArg (fun x => some (ABlk.row 3 1 x)) (ints_ren _ _).symm, congrArg (fun x => some (ABlk.row 3 1 x)) (ints_ren _ _).symm, trivial⟩ rfl (by simp [tupA, hpLt, tmLt, AV.lt, AE.lt, AC.lt, LL_cons, LL_nil, idOk, ABlk.lt, ints_LL, GB, tab64_LL, gC, wB, giC, noneB, putB, putS, nils_LL, rwC, rwH, List.replicate]) (by simp [tupA, hpLt, tmLt, AV.lt, AE.lt, AC.lt, LL_cons, LL_nil, idOk, ABlk.lt, ints_LL, GB, tab64_LL, gC, wB, giC, noneB, putB, putS, nils_LL, rwC, rwH, List.replicate])
      rcases V with _ | ⟨a8, V⟩
      · refine Wk.on ?_
        exact AH.Fin.new [5, 6, 7, 8, 9, 10, 11, 12, 13] _ _ ⟨rfl, rfl, rfl⟩ rfl ⟨congrArg (fun x => some (ABlk.own x)) (ints_ren _ _).symm, rfl, rfl, congrArg (fun x => some (ABlk.row 3 1 x)) (ints_ren _ _).symm, congrArg (fun x => some (ABlk.row 3 1 x)) (ints_ren _ _).symm, congrArg (fun x => some (ABlk.row 3 1 x)) (ints_ren _ _).symm, congrArg (fun x => some (ABlk.row 3 1 x)) (ints_ren _ _).symm, congrArg (fun x => some (ABlk.row 3 1 x)) (ints_ren _ _).symm, congrArg (fun x => some (ABlk.row 3 1 x)) (ints_ren _ _).symm, congrArg (fun x => some (ABlk.row 3 1 x)) (ints_ren _ _).symm, congrArg (fun x => some (ABlk.row 3 1 x)) (ints_ren _ _).symm, trivial⟩ rfl (by simp [tupA, hpLt, tmLt, AV.lt, AE.lt, AC.lt, LL_cons, LL_nil, idOk, ABlk.lt, ints_LL, GB, tab64_LL, gC, wB, giC, noneB, putB, putS, nils_LL, rwC, rwH, List.replicate]) (by simp [tupA, hpLt, tmLt, AV.lt, AE.lt, AC.lt, LL_cons, LL_nil, idOk, ABlk.lt, ints_LL, GB, tab64_LL, gC, wB, giC, noneB, putB, putS, nils_LL, rwC, rwH, List.replicate])
      simp only [List.length_cons] at hV8
      omega
end Go.Proofs.YtfphkpdobbffeaaDoor
