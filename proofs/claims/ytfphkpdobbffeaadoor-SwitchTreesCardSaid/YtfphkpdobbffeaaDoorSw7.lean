/-
  Contract: the lists of a division, made.
-/
import Derived.Test.YtfphkpdobbffeaaDoorSw6
import Derived.Test.YtfphkpdobbffeaaDoorSw2
set_option linter.unusedSimpArgs false
set_option linter.unusedVariables false
namespace Go.Proofs.YtfphkpdobbffeaaDoor
open Go Go.AH
set_option maxRecDepth 100000
set_option maxHeartbeats 4000000

def rwC : Nat → List (List Int) → List AC
  | _, [] => []
  | j, a :: V => .row (6 + j) a.length :: rwC (j + 1) V
def rwH : Nat → List (List Int) → List (Nat × ABlk)
  | _, [] => []
  | j, a :: V => (6 + j, .row 3 1 (ints a)) :: rwH (j + 1) V
def dpl (ws hd : List Nat) : List PE := [⟨[], [39, 40, 41, 42, 43, 44, 45, 46], [], [], hd⟩, ⟨[], [38, 40, 41, 42, 43, 44, 45, 46], [0], [], hd⟩, ⟨[], [38, 39, 41, 44, 45], [0, 1], [], []⟩, ⟨[], [38, 39, 40, 44, 45], [0, 1, 2], [], []⟩, ⟨[2, 3], [38, 39, 44, 45], [0, 1], [], []⟩, ⟨[2, 3, 4], [38, 39, 44, 45], [0, 1], [], []⟩, ⟨[], [38, 39, 40, 41, 42, 43], [0, 1, 2, 3, 4, 5], [], []⟩, ⟨[6], [38, 39, 40, 41, 42, 43], [0, 1, 2, 3, 4, 5], [], []⟩, ⟨[2, 3, 4, 5, 6, 7], [38, 39], [0, 1], ws, []⟩]
theorem rep_nils : ∀ M : Nat, rep M [AC.nils] = List.replicate M .nils
  | 0 => rfl
  | M + 1 => by rw [List.replicate_succ, ← rep_nils M]; rfl
theorem wk_tail (hp : List (Nat × ABlk)) (f : Nat → Nat) : ∀ q : Nat, wkL hp (List.replicate q .nils) ((List.replicate q .nils).map (AC.ren f))
  | 0 => trivial
  | q + 1 => ⟨rfl, wk_tail hp f q⟩
theorem app_in (a : List Int) (p : Int) : (ints a).take (0 * 1 + a.length * 1) ++ [.int .i64 p] ++ (ints a).drop (0 * 1 + a.length * 1 + 1 * 1) = ints (a ++ [p]) := by
  have h : (ints a).length = a.length := ints_len a
  rw [Nat.zero_mul, Nat.zero_add, Nat.mul_one, List.take_of_length_le (by omega), List.drop_of_length_le (by omega), List.append_nil]
  simp [ints]
theorem app_new (a : List Int) (p : Int) : ((ints a).drop (0 * 1)).take (a.length * 1) ++ [.int .i64 p] = ints (a ++ [p]) := by
  have h : (ints a).length = a.length := ints_len a
  rw [Nat.zero_mul, Nat.mul_one, List.drop_zero, List.take_of_length_le (by omega)]
  simp [ints]
theorem row_len (i : Nat) (a : List Int) (p : Int) : AC.row i (a.length + 1) = .row i (a ++ [p]).length := by rw [List.length_append]; rfl
theorem nils_LL (n : Nat) : ∀ q : Nat, LL n (List.replicate q .nils) ↔ True
  | 0 => by simp [LL_nil]
  | q + 1 => by rw [List.replicate_succ, LL_cons, nils_LL n q]; exact ⟨fun _ => trivial, fun _ => ⟨trivial, trivial⟩⟩
def putB (g : Gm) (w : Nat → Nat) : List (Nat × ABlk) := [(0, wB g), (1, .ro (gC g 0)), (2, .own (ints (wL w))), (3, .own [.nils]), (4, .ro [.fn 66 [] [1, 2, 3, 4]])]
def putS (g : Gm) (w : Nat → Nat) (M : Nat) (x : Nat × Nat × List (List Int)) : AS :=
  ⟨[(2, .c (.ptr 1 0)), (3, .c (.ptr 2 0)), (4, .c (.ptr 3 0)), (31, .c (.sl 2 0 g.n (some 8))), (32, .c (.int .i64 g.n)), (33, .c (.int .i64 x.1))], (5, .own (rwC 0 x.2.2 ++ List.replicate x.2.1 .nils)) :: (3, .own [.sl 5 0 M (some M)]) :: (2, .own (ints (wL w))) :: (1, .ro (gC g 0)) :: (0, wB g) :: (4, .ro [.fn 66 [] [1, 2, 3, 4]]) :: rwH 0 x.2.2, 6 + x.2.2.length, 66, 5⟩
theorem rwH_lt (n : Nat) : ∀ (V : List (List Int)) (j : Nat), 6 + j + V.length ≤ n → hpLt n (rwH j V)
  | [], _, _ => trivial
  | a :: V, j, h => ⟨.inl (by simp only [List.length_cons] at h; omega), ints_LL _ _, rwH_lt n V (j + 1) (by simp only [List.length_cons] at h; omega)⟩
theorem rwC_LL (n q : Nat) : ∀ (V : List (List Int)) (j : Nat), 6 + j + V.length ≤ n → LL n (rwC j V ++ List.replicate q .nils)
  | [], _, _ => (nils_LL n q).2 trivial
  | a :: V, j, h => by
    rw [rwC, List.cons_append, LL_cons]
    exact ⟨.inl (by simp only [List.length_cons] at h; omega), rwC_LL n q V (j + 1) (by simp only [List.length_cons] at h; omega)⟩
theorem rwH_key (l : List (Nat × Nat)) : ∀ (V : List (List Int)) (j : Nat), (rwH j V).map (fun p => rn l p.1) = (List.range' (6 + j) V.length).map (rn l)
  | [], _ => rfl
  | a :: V, j => by rw [rwH, List.map_cons, List.length_cons, List.range'_succ, List.map_cons, rwH_key l V (j + 1)]; rfl
/-- At the loop's head once more. -/
theorem pag {g : Gm} {w : Nat → Nat} {M pos q : Nat} {V : List (List Int)} {s : AS} {inv : Nat × Nat × List (List Int) → Prop} (l : List (Nat × Nat)) (hi : inv (pos + 1, q, V)) (hp : pos < g.n)
    (h5 : wkHA s.hp (rn l) [(5, .own (rwC 0 V ++ List.replicate q .nils))]) (hr : wkHA s.hp (rn l) (rwH 0 V)) (hk : 6 + V.length ≤ 14)
    (hn : nodB ([5, 3, 2, 1, 0, 4].map (rn l) ++ (List.range' 6 V.length).map (rn l)) = true := by rfl)
    (hs : s.nt = 66 ∧ s.k0 = 5 := by exact ⟨rfl, rfl⟩) (hf : (l.all fun p => Nat.ble s.k0 p.1 && Nat.blt p.1 GB) = true := by rfl)
    (ht : wkTA s.hp s.tm (rn l) (putS g w M (pos + 1, q, V)).tm := by exact ⟨Or.inl rfl, Or.inl rfl, Or.inl rfl, Or.inl rfl, Or.inl rfl, Or.inl rfl, trivial⟩)
    (hc : wkHA s.hp (rn l) [(3, .own [.sl 5 0 M (some M)]), (2, .own (ints (wL w))), (1, .ro (gC g 0)), (0, wB g), (4, .ro [.fn 66 [] [1, 2, 3, 4]])] := by exact ⟨Or.inl rfl, Or.inl (congrArg ABlk.own (ints_ren _ _).symm), Or.inl rfl, Or.inl (congrArg ABlk.ro (ints_ren _ _).symm), Or.inl rfl, trivial⟩) :
    Again (putS g w M) inv (fun x => g.n - x.1) (g.n - pos) s := by
  refine Again.under (pos + 1, q, V) (Under.wk l ⟨hs.1.symm, hs.2.symm, by show 5 ≤ 6 + V.length; omega, by show 6 + V.length ≤ 100000; omega⟩ hf ht ⟨h5.1, hc.1, hc.2.1, hc.2.2.1, hc.2.2.2.1, hc.2.2.2.2.1, hr⟩ ?_ ?_ ?_) hi (by show g.n - (pos + 1) < g.n - pos; omega)
  · have := rwH_key l V 0
    show nodB (_ :: _ :: _ :: _ :: _ :: _ :: (rwH 0 V).map (fun p => rn l p.1)) = true
    rw [this]; exact hn
  · exact ⟨.inl (by show 1 < 6 + V.length; omega), .inl (by show 2 < 6 + V.length; omega), .inl (by show 3 < 6 + V.length; omega), .inl (by show 2 < 6 + V.length; omega), trivial, trivial, trivial⟩
  · exact ⟨.inl (by show 5 < 6 + V.length; omega), rwC_LL _ q V 0 (by show 6 + 0 + V.length ≤ 6 + V.length; omega), .inl (by show 3 < 6 + V.length; omega), by simp [ABlk.lt, LL_cons, LL_nil, AC.lt, idOk, putS]; omega, .inl (by show 2 < 6 + V.length; omega), ints_LL _ _, .inl (by show 1 < 6 + V.length; omega), by simp [ABlk.lt, gC, LL_cons, LL_nil, AC.lt, idOk, putS]; exact .inl (by omega), .inl (by show 0 < 6 + V.length; omega), ints_LL _ _, .inl (by show 4 < 6 + V.length; omega), by simp [ABlk.lt, LL_cons, LL_nil, AC.lt, idOk, putS]; omega, rwH_lt _ V 0 (by show 6 + 0 + V.length ≤ 6 + V.length; omega)⟩
theorem ru {hp : List (Nat × ABlk)} {q : Nat → Nat} {a : List Int} : wkB2 hp (.row 3 1 (ints a)) ((ABlk.row 3 1 (ints a)).ren q) := Or.inl (congrArg (ABlk.row 3 1) (ints_ren _ _).symm)
theorem ri {hp : List (Nat × ABlk)} {q : Nat → Nat} (a : List Int) (p : Int) : wkB2 hp (.row 3 1 ((ints a).take (0 * 1 + a.length * 1) ++ [.int .i64 p] ++ (ints a).drop (0 * 1 + a.length * 1 + 1 * 1))) ((ABlk.row 3 1 (ints (a ++ [p]))).ren q) := by rw [app_in]; exact ru
theorem rw_ {hp : List (Nat × ABlk)} {q : Nat → Nat} (a : List Int) (p : Int) : wkB2 hp (.row 3 1 (((ints a).drop (0 * 1)).take (a.length * 1) ++ [.int .i64 p])) ((ABlk.row 3 1 (ints (a ++ [p]))).ren q) := by rw [app_new]; exact ru
theorem leaf_no {g : Gm} (hg : g.ok) (w : Nat → Nat) (hb : ¬ Bar g w) : FDet Tryd.prog 66 [.c (.int .i64 g.n), .c (.int .i64 (mx w g.n : Nat)), .c (.ptr 1 0), .c (.ptr 2 0), .c (.ptr 3 0), .c (.ptr 4 0)] (putB g w) 5 (.c (.bool false)) [(2, .own (ints (wL w))), (3, .own [.nils])] 14 := by
  have h8 := hg.n8
  have hl := hg.len
  have hc10 : crN w g.ws ≤ 10 := Nat.le_trans List.countP_le_length hl
  have hW8 : (ints (wL w)).length = 8 := by rw [ints_len, wL_len]
  unfold Bar at hb
  refine FSpec.of_body tok true Tryd.func66 rfl (by kernel_rfl) (by decide) (by simp [tupA, hpLt, tmLt, AV.lt, AE.lt, AC.lt, LL_cons, LL_nil, idOk, ABlk.lt, ints_LL, GB, tab64_LL, gC, wB, giC, noneB, putB, putS, nils_LL, rwC, rwH, List.replicate]) (by simp [tupA, hpLt, tmLt, AV.lt, AE.lt, AC.lt, LL_cons, LL_nil, idOk, ABlk.lt, ints_LL, GB, tab64_LL, gC, wB, giC, noneB, putB, putS, nils_LL, rwC, rwH, List.replicate]) (by show 6 ≤ _; decide) ?_
  refine Wk.on ?_
  rw [decide_eq_true (show ((g.n : Nat) : Int) = ((g.n : Nat) : Int) from rfl)]
  refine Wk.on ?_
  by_cases h2 : mx w g.n < 2
  · rw [decide_eq_true (show ((mx w g.n : Nat) : Int) < 2 by omega)]
    refine Wk.on ?_
    exact AH.Fin.new [5, 6, 7, 8, 9, 10, 11, 12, 13] _ _ ⟨rfl, rfl, rfl⟩ rfl ⟨by show some (ABlk.own _) = some (ABlk.own ((ints _).map _)); rw [ints_ren], rfl, trivial⟩ rfl (by simp [tupA, hpLt, tmLt, AV.lt, AE.lt, AC.lt, LL_cons, LL_nil, idOk, ABlk.lt, ints_LL, GB, tab64_LL, gC, wB, giC, noneB, putB, putS, nils_LL, rwC, rwH, List.replicate]) (by simp [tupA, hpLt, tmLt, AV.lt, AE.lt, AC.lt, LL_cons, LL_nil, idOk, ABlk.lt, ints_LL, GB, tab64_LL, gC, wB, giC, noneB, putB, putS, nils_LL, rwC, rwH, List.replicate])
  · rw [decide_eq_false (show ¬ ((mx w g.n : Nat) : Int) < 2 by omega)]
    refine Wk.on ?_
    refine CallA.ro [0] (.c (.int .i64 (crN w g.ws : Nat))) (between_spec hg w) (by first | rfl | exact congrArg AV.g (ints_ren _ _) | (simp [ints_ren, AV.ren, ABlk.ren, AC.ren, AE.ren, qq]; done)) rfl (by (repeat (first | exact trivial | refine ⟨⟨(by first | exact .inl (by decide) | exact .inr (by decide)), (by first | (refine Or.inl ?_; first | rfl | exact congrArg some (ints_ren _ _).symm | exact congrArg ABlk.own (ints_ren _ _).symm | exact congrArg some (tab64_ren _).symm) | rfl | exact congrArg some (ints_ren _ _).symm | exact congrArg ABlk.own (ints_ren _ _).symm | exact congrArg some (tab64_ren _).symm | exact Or.inr ⟨rfl, rfl⟩)⟩, ?_⟩))) (by first | rfl | exact congrArg AV.g (ints_ren _ _) | (simp [ints_ren, AV.ren, ABlk.ren, AC.ren, AE.ren, qq]; done)) ?_
    refine Wk.on ?_
    rw [decide_eq_true (show 2 * (((mx w g.n : Nat) : Int) - 1) ≤ ((crN w g.ws : Nat) : Int) by omega)]
    refine Wk.on ?_
    exact AH.Fin.new [5, 6, 7, 8, 9, 10, 11, 12, 13] _ _ ⟨rfl, rfl, rfl⟩ rfl ⟨by show some (ABlk.own _) = some (ABlk.own ((ints _).map _)); rw [ints_ren], rfl, trivial⟩ rfl (by simp [tupA, hpLt, tmLt, AV.lt, AE.lt, AC.lt, LL_cons, LL_nil, idOk, ABlk.lt, ints_LL, GB, tab64_LL, gC, wB, giC, noneB, putB, putS, nils_LL, rwC, rwH, List.replicate]) (by simp [tupA, hpLt, tmLt, AV.lt, AE.lt, AC.lt, LL_cons, LL_nil, idOk, ABlk.lt, ints_LL, GB, tab64_LL, gC, wB, giC, noneB, putB, putS, nils_LL, rwC, rwH, List.replicate])
theorem leaf_yes {g : Gm} (hg : g.ok) (w : Nat → Nat) (hr : RG w g.n) (hb : Bar g w) : FDet Tryd.prog 66 [.c (.int .i64 g.n), .c (.int .i64 (mx w g.n : Nat)), .c (.ptr 1 0), .c (.ptr 2 0), .c (.ptr 3 0), .c (.ptr 4 0)] (putB g w) 5 (.c (.bool true)) ((2, .own (ints (wL w))) :: (3, .own [.sl 5 0 (mx w g.n) (some (mx w g.n))]) :: (5, .own (rwC 0 (LV w g.n))) :: rwH 0 (LV w g.n)) 14 := by
  have h8 := hg.n8
  have hl := hg.len
  have hc10 : crN w g.ws ≤ 10 := Nat.le_trans List.countP_le_length hl
  have hW8 : (ints (wL w)).length = 8 := by rw [ints_len, wL_len]
  have hM8 := mx_le hr g.n (by omega)
  obtain ⟨hb1, hb2⟩ := hb
  have hfin : LV w g.n = LV w g.n := rfl
  have hsucc : ∀ p, p < g.n → mx w (p + 1) ≤ mx w g.n := fun p hp => mx_mono _ hp
  obtain ⟨M, hM⟩ : ∃ M, M = mx w g.n := ⟨_, rfl⟩
  rw [← hM] at hb1 hb2 hM8 hsucc ⊢
  refine FSpec.of_body tok true Tryd.func66 rfl (by kernel_rfl) (by decide) (by simp [tupA, hpLt, tmLt, AV.lt, AE.lt, AC.lt, LL_cons, LL_nil, idOk, ABlk.lt, ints_LL, GB, tab64_LL, gC, wB, giC, noneB, putB, putS, nils_LL, rwC, rwH, List.replicate]) (by simp [tupA, hpLt, tmLt, AV.lt, AE.lt, AC.lt, LL_cons, LL_nil, idOk, ABlk.lt, ints_LL, GB, tab64_LL, gC, wB, giC, noneB, putB, putS, nils_LL, rwC, rwH, List.replicate]) (by show 6 ≤ _; decide) ?_
  refine Wk.on ?_
  rw [decide_eq_true (show ((g.n : Nat) : Int) = ((g.n : Nat) : Int) from rfl)]
  refine Wk.on ?_
  rw [decide_eq_false (show ¬ ((M : Nat) : Int) < 2 by omega)]
  refine Wk.on ?_
  refine CallA.ro [0] (.c (.int .i64 (crN w g.ws : Nat))) (between_spec hg w) (by first | rfl | exact congrArg AV.g (ints_ren _ _) | (simp [ints_ren, AV.ren, ABlk.ren, AC.ren, AE.ren, qq]; done)) rfl (by (repeat (first | exact trivial | refine ⟨⟨(by first | exact .inl (by decide) | exact .inr (by decide)), (by first | (refine Or.inl ?_; first | rfl | exact congrArg some (ints_ren _ _).symm | exact congrArg ABlk.own (ints_ren _ _).symm | exact congrArg some (tab64_ren _).symm) | rfl | exact congrArg some (ints_ren _ _).symm | exact congrArg ABlk.own (ints_ren _ _).symm | exact congrArg some (tab64_ren _).symm | exact Or.inr ⟨rfl, rfl⟩)⟩, ?_⟩))) (by first | rfl | exact congrArg AV.g (ints_ren _ _) | (simp [ints_ren, AV.ren, ABlk.ren, AC.ren, AE.ren, qq]; done)) ?_
  refine Wk.on ?_
  rw [decide_eq_false (show ¬ 2 * (((M : Nat) : Int) - 1) ≤ ((crN w g.ws : Nat) : Int) by omega)]
  refine Wk.on ?_
  refine ⟨⟨Nat.le_of_ble_eq_true rfl, Nat.le_of_ble_eq_true rfl, rfl, by omega, rfl, by show (24 : Int) * (M : Int) ≤ _; omega, by omega⟩, ?_⟩
  refine Wk.on ?_
  refine ⟨⟨by decide, by show (0 : Int) ≤ (g.n : Int); omega, .inl (by show (g.n : Int) ≤ 8; omega)⟩, ?_⟩
  refine Wk.on ?_
  refine Tr.loop (md := true) (X := Nat × Nat × List (List Int)) (st := putS g w M) (inv := fun x => x.1 ≤ g.n ∧ x.2.2 = LV w x.1 ∧ x.2.2.length + x.2.1 = M) (μ := fun x => g.n - x.1) (x0 := (0, M, [])) (l := []) tok ⟨by omega, rfl, by simp⟩ ?_ ?_
  · exact Sub.nil ⟨rfl, rfl, ⟨Nat.le_of_ble_eq_true rfl, Nat.le_of_ble_eq_true rfl⟩, rfl, (by simp [tupA, hpLt, tmLt, AV.lt, AE.lt, AC.lt, LL_cons, LL_nil, idOk, ABlk.lt, ints_LL, GB, tab64_LL, gC, wB, giC, noneB, putB, putS, nils_LL, rwC, rwH, List.replicate]), (by simp [tupA, hpLt, tmLt, AV.lt, AE.lt, AC.lt, LL_cons, LL_nil, idOk, ABlk.lt, ints_LL, GB, tab64_LL, gC, wB, giC, noneB, putB, putS, nils_LL, rwC, rwH, List.replicate])⟩ (by (repeat (first | exact trivial | refine ⟨trivial, ?_⟩ | refine ⟨rfl, ?_⟩))) ⟨congrArg ABlk.own (rep_nils M), rfl, rfl, rfl, rfl, rfl, trivial⟩
  · rintro ⟨pos, q, V⟩ ⟨h1, h2, h3⟩
    dsimp only at h1 h2 h3
    by_cases hp : pos < g.n
    · have hrp := hr pos hp
      have hput := LV_succ hrp
      have hVm : ∀ a ∈ V, a.length ≤ 8 := fun a ha => by have := LV_mem (h2 ▸ ha); omega
      have hVl : V.length = mx w pos := by rw [h2, LV_len]
      have hVp : mx w pos ≤ pos := mx_le hr pos (by omega)
      have hs1 := hsucc pos hp
      have hget := wL_get2 w (i := pos) (by omega)
      rw [← h2] at hput
      have hmx : mx w (pos + 1) = max (mx w pos) (w pos + 1) := rfl
      generalize w pos = l at hput hget hrp hmx
      rw [hmx, ← hVl] at hs1
      rw [← hVl] at hrp hVp
      clear h2 hmx hVl hfin hb2 hc10
      rcases V with _ | ⟨a0, V⟩
      · rcases l with _ | l
        · simp only [List.length_cons, List.length_nil] at hrp hs1 hVp h3
          rcases q with _ | q
          · omega
          simp only [putS, rwC, rwH, List.cons_append, List.nil_append, List.length_cons, List.length_nil, Nat.reduceAdd]
          have hg2 : (ints (wL w)).getD (0 + pos * 1) (.int .i64 0) = .int .i64 (0 : Int) := hget
          refine Wk.on ?_
          rw [decide_eq_true (show ((pos : Nat) : Int) < ((g.n : Nat) : Int) by omega)]
          refine Wk.on ?_
          rw [Int.toNat_natCast, hg2]
          refine Wk.on ?_
          refine Tr.draw (md := true) (dpl [] []) tok (by kernel_rfl) (by kernel_rfl) ?_
          refine Wk.on ?_
          exact pag (V := [[(pos : Int)]]) [(6, 7)] ⟨by show pos + 1 ≤ g.n; omega, hput.symm, by simp only [List.length_cons, List.length_nil]; omega⟩ hp ⟨Or.inr (Or.inl (Or.inr ⟨rfl, wk_tail _ _ q⟩)), trivial⟩ ⟨Or.inl rfl, trivial⟩ (by simp)
        simp only [List.length_cons, List.length_nil] at hrp
        omega
      rcases V with _ | ⟨a1, V⟩
      · rcases l with _ | l
        · simp only [List.length_cons, List.length_nil] at hrp hs1 hVp h3
          have hal : a0.length ≤ 8 := hVm _ (by simp)
          simp only [putS, rwC, rwH, List.cons_append, List.nil_append, List.length_cons, List.length_nil, Nat.reduceAdd]
          have hg2 : (ints (wL w)).getD (0 + pos * 1) (.int .i64 0) = .int .i64 (0 : Int) := hget
          refine Wk.on ?_
          rw [decide_eq_true (show ((pos : Nat) : Int) < ((g.n : Nat) : Int) by omega)]
          refine Wk.on ?_
          rw [Int.toNat_natCast, hg2]
          refine Wk.on ?_
          refine Tr.cap 5 0 1 rfl rfl fun c hc => ?_
          refine Tr.draw (md := true) (dpl [6] [6]) tok (by kernel_rfl) (by kernel_rfl) ?_
          refine Wk.on ?_
          refine ⟨⟨rfl, rfl, rfl, by rw [ints_len]; omega⟩, fun hin => ?_, fun hnew => ?_⟩
          · refine Wk.on ?_
            exact pag (V := [a0 ++ [(pos : Int)]]) [] ⟨by show pos + 1 ≤ g.n; omega, hput.symm, by simp only [List.length_cons, List.length_nil]; omega⟩ hp ⟨Or.inr (Or.inl (Or.inr ⟨⟨rfl, rfl, by simp⟩, wk_tail _ _ q⟩)), trivial⟩ ⟨ri a0 pos, trivial⟩ (by simp)
          · refine ⟨⟨Nat.le_of_ble_eq_true rfl, by show ((a0.length + 1 : Nat) : Int) * 8 ≤ _; omega, by omega⟩, ?_⟩
            refine Wk.on ?_
            exact pag (V := [a0 ++ [(pos : Int)]]) [(6, 8)] ⟨by show pos + 1 ≤ g.n; omega, hput.symm, by simp only [List.length_cons, List.length_nil]; omega⟩ hp ⟨Or.inr (Or.inl (Or.inr ⟨row_len _ _ _, wk_tail _ _ q⟩)), trivial⟩ ⟨rw_ a0 pos, trivial⟩ (by simp)
        rcases l with _ | l
        · simp only [List.length_cons, List.length_nil] at hrp hs1 hVp h3
          rcases q with _ | q
          · omega
          simp only [putS, rwC, rwH, List.cons_append, List.nil_append, List.length_cons, List.length_nil, Nat.reduceAdd]
          have hg2 : (ints (wL w)).getD (0 + pos * 1) (.int .i64 0) = .int .i64 (1 : Int) := hget
          refine Wk.on ?_
          rw [decide_eq_true (show ((pos : Nat) : Int) < ((g.n : Nat) : Int) by omega)]
          refine Wk.on ?_
          rw [Int.toNat_natCast, hg2]
          refine Wk.on ?_
          refine Tr.draw (md := true) (dpl [] []) tok (by kernel_rfl) (by kernel_rfl) ?_
          refine Wk.on ?_
          exact pag (V := [a0, [(pos : Int)]]) [(7, 8)] ⟨by show pos + 1 ≤ g.n; omega, hput.symm, by simp only [List.length_cons, List.length_nil]; omega⟩ hp ⟨Or.inr (Or.inl (Or.inr ⟨rfl, rfl, wk_tail _ _ q⟩)), trivial⟩ ⟨ru, Or.inl rfl, trivial⟩ (by simp)
        simp only [List.length_cons, List.length_nil] at hrp
        omega
      rcases V with _ | ⟨a2, V⟩
      · rcases l with _ | l
        · simp only [List.length_cons, List.length_nil] at hrp hs1 hVp h3
          have hal : a0.length ≤ 8 := hVm _ (by simp)
          simp only [putS, rwC, rwH, List.cons_append, List.nil_append, List.length_cons, List.length_nil, Nat.reduceAdd]
          have hg2 : (ints (wL w)).getD (0 + pos * 1) (.int .i64 0) = .int .i64 (0 : Int) := hget
          refine Wk.on ?_
          rw [decide_eq_true (show ((pos : Nat) : Int) < ((g.n : Nat) : Int) by omega)]
          refine Wk.on ?_
          rw [Int.toNat_natCast, hg2]
          refine Wk.on ?_
          refine Tr.cap 5 0 1 rfl rfl fun c hc => ?_
          refine Tr.draw (md := true) (dpl [6] [6]) tok (by kernel_rfl) (by kernel_rfl) ?_
          refine Wk.on ?_
          refine ⟨⟨rfl, rfl, rfl, by rw [ints_len]; omega⟩, fun hin => ?_, fun hnew => ?_⟩
          · refine Wk.on ?_
            exact pag (V := [a0 ++ [(pos : Int)], a1]) [] ⟨by show pos + 1 ≤ g.n; omega, hput.symm, by simp only [List.length_cons, List.length_nil]; omega⟩ hp ⟨Or.inr (Or.inl (Or.inr ⟨⟨rfl, rfl, by simp⟩, rfl, wk_tail _ _ q⟩)), trivial⟩ ⟨ri a0 pos, ru, trivial⟩ (by simp)
          · refine ⟨⟨Nat.le_of_ble_eq_true rfl, by show ((a0.length + 1 : Nat) : Int) * 8 ≤ _; omega, by omega⟩, ?_⟩
            refine Wk.on ?_
            exact pag (V := [a0 ++ [(pos : Int)], a1]) [(6, 9)] ⟨by show pos + 1 ≤ g.n; omega, hput.symm, by simp only [List.length_cons, List.length_nil]; omega⟩ hp ⟨Or.inr (Or.inl (Or.inr ⟨row_len _ _ _, rfl, wk_tail _ _ q⟩)), trivial⟩ ⟨rw_ a0 pos, ru, trivial⟩ (by simp)
        rcases l with _ | l
        · simp only [List.length_cons, List.length_nil] at hrp hs1 hVp h3
          have hal : a1.length ≤ 8 := hVm _ (by simp)
          simp only [putS, rwC, rwH, List.cons_append, List.nil_append, List.length_cons, List.length_nil, Nat.reduceAdd]
          have hg2 : (ints (wL w)).getD (0 + pos * 1) (.int .i64 0) = .int .i64 (1 : Int) := hget
          refine Wk.on ?_
          rw [decide_eq_true (show ((pos : Nat) : Int) < ((g.n : Nat) : Int) by omega)]
          refine Wk.on ?_
          rw [Int.toNat_natCast, hg2]
          refine Wk.on ?_
          refine Tr.cap 5 1 1 rfl rfl fun c hc => ?_
          refine Tr.draw (md := true) (dpl [7] [7]) tok (by kernel_rfl) (by kernel_rfl) ?_
          refine Wk.on ?_
          refine ⟨⟨rfl, rfl, rfl, by rw [ints_len]; omega⟩, fun hin => ?_, fun hnew => ?_⟩
          · refine Wk.on ?_
            exact pag (V := [a0, a1 ++ [(pos : Int)]]) [] ⟨by show pos + 1 ≤ g.n; omega, hput.symm, by simp only [List.length_cons, List.length_nil]; omega⟩ hp ⟨Or.inr (Or.inl (Or.inr ⟨rfl, ⟨rfl, rfl, by simp⟩, wk_tail _ _ q⟩)), trivial⟩ ⟨ru, ri a1 pos, trivial⟩ (by simp)
          · refine ⟨⟨Nat.le_of_ble_eq_true rfl, by show ((a1.length + 1 : Nat) : Int) * 8 ≤ _; omega, by omega⟩, ?_⟩
            refine Wk.on ?_
            exact pag (V := [a0, a1 ++ [(pos : Int)]]) [(7, 9)] ⟨by show pos + 1 ≤ g.n; omega, hput.symm, by simp only [List.length_cons, List.length_nil]; omega⟩ hp ⟨Or.inr (Or.inl (Or.inr ⟨rfl, row_len _ _ _, wk_tail _ _ q⟩)), trivial⟩ ⟨ru, rw_ a1 pos, trivial⟩ (by simp)
        rcases l with _ | l
        · simp only [List.length_cons, List.length_nil] at hrp hs1 hVp h3
          rcases q with _ | q
          · omega
          simp only [putS, rwC, rwH, List.cons_append, List.nil_append, List.length_cons, List.length_nil, Nat.reduceAdd]
          have hg2 : (ints (wL w)).getD (0 + pos * 1) (.int .i64 0) = .int .i64 (2 : Int) := hget
          refine Wk.on ?_
          rw [decide_eq_true (show ((pos : Nat) : Int) < ((g.n : Nat) : Int) by omega)]
          refine Wk.on ?_
          rw [Int.toNat_natCast, hg2]
          refine Wk.on ?_
          refine Tr.draw (md := true) (dpl [] []) tok (by kernel_rfl) (by kernel_rfl) ?_
          refine Wk.on ?_
          exact pag (V := [a0, a1, [(pos : Int)]]) [(8, 9)] ⟨by show pos + 1 ≤ g.n; omega, hput.symm, by simp only [List.length_cons, List.length_nil]; omega⟩ hp ⟨Or.inr (Or.inl (Or.inr ⟨rfl, rfl, rfl, wk_tail _ _ q⟩)), trivial⟩ ⟨ru, ru, Or.inl rfl, trivial⟩ (by simp)
        simp only [List.length_cons, List.length_nil] at hrp
        omega
      rcases V with _ | ⟨a3, V⟩
      · rcases l with _ | l
        · simp only [List.length_cons, List.length_nil] at hrp hs1 hVp h3
          have hal : a0.length ≤ 8 := hVm _ (by simp)
          simp only [putS, rwC, rwH, List.cons_append, List.nil_append, List.length_cons, List.length_nil, Nat.reduceAdd]
          have hg2 : (ints (wL w)).getD (0 + pos * 1) (.int .i64 0) = .int .i64 (0 : Int) := hget
          refine Wk.on ?_
          rw [decide_eq_true (show ((pos : Nat) : Int) < ((g.n : Nat) : Int) by omega)]
          refine Wk.on ?_
          rw [Int.toNat_natCast, hg2]
          refine Wk.on ?_
          refine Tr.cap 5 0 1 rfl rfl fun c hc => ?_
          refine Tr.draw (md := true) (dpl [6] [6]) tok (by kernel_rfl) (by kernel_rfl) ?_
          refine Wk.on ?_
          refine ⟨⟨rfl, rfl, rfl, by rw [ints_len]; omega⟩, fun hin => ?_, fun hnew => ?_⟩
          · refine Wk.on ?_
            exact pag (V := [a0 ++ [(pos : Int)], a1, a2]) [] ⟨by show pos + 1 ≤ g.n; omega, hput.symm, by simp only [List.length_cons, List.length_nil]; omega⟩ hp ⟨Or.inr (Or.inl (Or.inr ⟨⟨rfl, rfl, by simp⟩, rfl, rfl, wk_tail _ _ q⟩)), trivial⟩ ⟨ri a0 pos, ru, ru, trivial⟩ (by simp)
          · refine ⟨⟨Nat.le_of_ble_eq_true rfl, by show ((a0.length + 1 : Nat) : Int) * 8 ≤ _; omega, by omega⟩, ?_⟩
            refine Wk.on ?_
            exact pag (V := [a0 ++ [(pos : Int)], a1, a2]) [(6, 10)] ⟨by show pos + 1 ≤ g.n; omega, hput.symm, by simp only [List.length_cons, List.length_nil]; omega⟩ hp ⟨Or.inr (Or.inl (Or.inr ⟨row_len _ _ _, rfl, rfl, wk_tail _ _ q⟩)), trivial⟩ ⟨rw_ a0 pos, ru, ru, trivial⟩ (by simp)
        rcases l with _ | l
        · simp only [List.length_cons, List.length_nil] at hrp hs1 hVp h3
          have hal : a1.length ≤ 8 := hVm _ (by simp)
          simp only [putS, rwC, rwH, List.cons_append, List.nil_append, List.length_cons, List.length_nil, Nat.reduceAdd]
          have hg2 : (ints (wL w)).getD (0 + pos * 1) (.int .i64 0) = .int .i64 (1 : Int) := hget
          refine Wk.on ?_
          rw [decide_eq_true (show ((pos : Nat) : Int) < ((g.n : Nat) : Int) by omega)]
          refine Wk.on ?_
          rw [Int.toNat_natCast, hg2]
          refine Wk.on ?_
          refine Tr.cap 5 1 1 rfl rfl fun c hc => ?_
          refine Tr.draw (md := true) (dpl [7] [7]) tok (by kernel_rfl) (by kernel_rfl) ?_
          refine Wk.on ?_
          refine ⟨⟨rfl, rfl, rfl, by rw [ints_len]; omega⟩, fun hin => ?_, fun hnew => ?_⟩
          · refine Wk.on ?_
            exact pag (V := [a0, a1 ++ [(pos : Int)], a2]) [] ⟨by show pos + 1 ≤ g.n; omega, hput.symm, by simp only [List.length_cons, List.length_nil]; omega⟩ hp ⟨Or.inr (Or.inl (Or.inr ⟨rfl, ⟨rfl, rfl, by simp⟩, rfl, wk_tail _ _ q⟩)), trivial⟩ ⟨ru, ri a1 pos, ru, trivial⟩ (by simp)
          · refine ⟨⟨Nat.le_of_ble_eq_true rfl, by show ((a1.length + 1 : Nat) : Int) * 8 ≤ _; omega, by omega⟩, ?_⟩
            refine Wk.on ?_
            exact pag (V := [a0, a1 ++ [(pos : Int)], a2]) [(7, 10)] ⟨by show pos + 1 ≤ g.n; omega, hput.symm, by simp only [List.length_cons, List.length_nil]; omega⟩ hp ⟨Or.inr (Or.inl (Or.inr ⟨rfl, row_len _ _ _, rfl, wk_tail _ _ q⟩)), trivial⟩ ⟨ru, rw_ a1 pos, ru, trivial⟩ (by simp)
        rcases l with _ | l
        · simp only [List.length_cons, List.length_nil] at hrp hs1 hVp h3
          have hal : a2.length ≤ 8 := hVm _ (by simp)
          simp only [putS, rwC, rwH, List.cons_append, List.nil_append, List.length_cons, List.length_nil, Nat.reduceAdd]
          have hg2 : (ints (wL w)).getD (0 + pos * 1) (.int .i64 0) = .int .i64 (2 : Int) := hget
          refine Wk.on ?_
          rw [decide_eq_true (show ((pos : Nat) : Int) < ((g.n : Nat) : Int) by omega)]
          refine Wk.on ?_
          rw [Int.toNat_natCast, hg2]
          refine Wk.on ?_
          refine Tr.cap 5 2 1 rfl rfl fun c hc => ?_
          refine Tr.draw (md := true) (dpl [8] [8]) tok (by kernel_rfl) (by kernel_rfl) ?_
          refine Wk.on ?_
          refine ⟨⟨rfl, rfl, rfl, by rw [ints_len]; omega⟩, fun hin => ?_, fun hnew => ?_⟩
          · refine Wk.on ?_
            exact pag (V := [a0, a1, a2 ++ [(pos : Int)]]) [] ⟨by show pos + 1 ≤ g.n; omega, hput.symm, by simp only [List.length_cons, List.length_nil]; omega⟩ hp ⟨Or.inr (Or.inl (Or.inr ⟨rfl, rfl, ⟨rfl, rfl, by simp⟩, wk_tail _ _ q⟩)), trivial⟩ ⟨ru, ru, ri a2 pos, trivial⟩ (by simp)
          · refine ⟨⟨Nat.le_of_ble_eq_true rfl, by show ((a2.length + 1 : Nat) : Int) * 8 ≤ _; omega, by omega⟩, ?_⟩
            refine Wk.on ?_
            exact pag (V := [a0, a1, a2 ++ [(pos : Int)]]) [(8, 10)] ⟨by show pos + 1 ≤ g.n; omega, hput.symm, by simp only [List.length_cons, List.length_nil]; omega⟩ hp ⟨Or.inr (Or.inl (Or.inr ⟨rfl, rfl, row_len _ _ _, wk_tail _ _ q⟩)), trivial⟩ ⟨ru, ru, rw_ a2 pos, trivial⟩ (by simp)
        rcases l with _ | l
        · simp only [List.length_cons, List.length_nil] at hrp hs1 hVp h3
          rcases q with _ | q
          · omega
          simp only [putS, rwC, rwH, List.cons_append, List.nil_append, List.length_cons, List.length_nil, Nat.reduceAdd]
          have hg2 : (ints (wL w)).getD (0 + pos * 1) (.int .i64 0) = .int .i64 (3 : Int) := hget
          refine Wk.on ?_
          rw [decide_eq_true (show ((pos : Nat) : Int) < ((g.n : Nat) : Int) by omega)]
          refine Wk.on ?_
          rw [Int.toNat_natCast, hg2]
          refine Wk.on ?_
          refine Tr.draw (md := true) (dpl [] []) tok (by kernel_rfl) (by kernel_rfl) ?_
          refine Wk.on ?_
          exact pag (V := [a0, a1, a2, [(pos : Int)]]) [(9, 10)] ⟨by show pos + 1 ≤ g.n; omega, hput.symm, by simp only [List.length_cons, List.length_nil]; omega⟩ hp ⟨Or.inr (Or.inl (Or.inr ⟨rfl, rfl, rfl, rfl, wk_tail _ _ q⟩)), trivial⟩ ⟨ru, ru, ru, Or.inl rfl, trivial⟩ (by simp)
        simp only [List.length_cons, List.length_nil] at hrp
        omega
      rcases V with _ | ⟨a4, V⟩
      · rcases l with _ | l
        · simp only [List.length_cons, List.length_nil] at hrp hs1 hVp h3
          have hal : a0.length ≤ 8 := hVm _ (by simp)
          simp only [putS, rwC, rwH, List.cons_append, List.nil_append, List.length_cons, List.length_nil, Nat.reduceAdd]
          have hg2 : (ints (wL w)).getD (0 + pos * 1) (.int .i64 0) = .int .i64 (0 : Int) := hget
          refine Wk.on ?_
          rw [decide_eq_true (show ((pos : Nat) : Int) < ((g.n : Nat) : Int) by omega)]
          refine Wk.on ?_
          rw [Int.toNat_natCast, hg2]
          refine Wk.on ?_
          refine Tr.cap 5 0 1 rfl rfl fun c hc => ?_
          refine Tr.draw (md := true) (dpl [6] [6]) tok (by kernel_rfl) (by kernel_rfl) ?_
          refine Wk.on ?_
          refine ⟨⟨rfl, rfl, rfl, by rw [ints_len]; omega⟩, fun hin => ?_, fun hnew => ?_⟩
          · refine Wk.on ?_
            exact pag (V := [a0 ++ [(pos : Int)], a1, a2, a3]) [] ⟨by show pos + 1 ≤ g.n; omega, hput.symm, by simp only [List.length_cons, List.length_nil]; omega⟩ hp ⟨Or.inr (Or.inl (Or.inr ⟨⟨rfl, rfl, by simp⟩, rfl, rfl, rfl, wk_tail _ _ q⟩)), trivial⟩ ⟨ri a0 pos, ru, ru, ru, trivial⟩ (by simp)
          · refine ⟨⟨Nat.le_of_ble_eq_true rfl, by show ((a0.length + 1 : Nat) : Int) * 8 ≤ _; omega, by omega⟩, ?_⟩
            refine Wk.on ?_
            exact pag (V := [a0 ++ [(pos : Int)], a1, a2, a3]) [(6, 11)] ⟨by show pos + 1 ≤ g.n; omega, hput.symm, by simp only [List.length_cons, List.length_nil]; omega⟩ hp ⟨Or.inr (Or.inl (Or.inr ⟨row_len _ _ _, rfl, rfl, rfl, wk_tail _ _ q⟩)), trivial⟩ ⟨rw_ a0 pos, ru, ru, ru, trivial⟩ (by simp)
        rcases l with _ | l
        · simp only [List.length_cons, List.length_nil] at hrp hs1 hVp h3
          have hal : a1.length ≤ 8 := hVm _ (by simp)
          simp only [putS, rwC, rwH, List.cons_append, List.nil_append, List.length_cons, List.length_nil, Nat.reduceAdd]
          have hg2 : (ints (wL w)).getD (0 + pos * 1) (.int .i64 0) = .int .i64 (1 : Int) := hget
          refine Wk.on ?_
          rw [decide_eq_true (show ((pos : Nat) : Int) < ((g.n : Nat) : Int) by omega)]
          refine Wk.on ?_
          rw [Int.toNat_natCast, hg2]
          refine Wk.on ?_
          refine Tr.cap 5 1 1 rfl rfl fun c hc => ?_
          refine Tr.draw (md := true) (dpl [7] [7]) tok (by kernel_rfl) (by kernel_rfl) ?_
          refine Wk.on ?_
          refine ⟨⟨rfl, rfl, rfl, by rw [ints_len]; omega⟩, fun hin => ?_, fun hnew => ?_⟩
          · refine Wk.on ?_
            exact pag (V := [a0, a1 ++ [(pos : Int)], a2, a3]) [] ⟨by show pos + 1 ≤ g.n; omega, hput.symm, by simp only [List.length_cons, List.length_nil]; omega⟩ hp ⟨Or.inr (Or.inl (Or.inr ⟨rfl, ⟨rfl, rfl, by simp⟩, rfl, rfl, wk_tail _ _ q⟩)), trivial⟩ ⟨ru, ri a1 pos, ru, ru, trivial⟩ (by simp)
          · refine ⟨⟨Nat.le_of_ble_eq_true rfl, by show ((a1.length + 1 : Nat) : Int) * 8 ≤ _; omega, by omega⟩, ?_⟩
            refine Wk.on ?_
            exact pag (V := [a0, a1 ++ [(pos : Int)], a2, a3]) [(7, 11)] ⟨by show pos + 1 ≤ g.n; omega, hput.symm, by simp only [List.length_cons, List.length_nil]; omega⟩ hp ⟨Or.inr (Or.inl (Or.inr ⟨rfl, row_len _ _ _, rfl, rfl, wk_tail _ _ q⟩)), trivial⟩ ⟨ru, rw_ a1 pos, ru, ru, trivial⟩ (by simp)
        rcases l with _ | l
        · simp only [List.length_cons, List.length_nil] at hrp hs1 hVp h3
          have hal : a2.length ≤ 8 := hVm _ (by simp)
          simp only [putS, rwC, rwH, List.cons_append, List.nil_append, List.length_cons, List.length_nil, Nat.reduceAdd]
          have hg2 : (ints (wL w)).getD (0 + pos * 1) (.int .i64 0) = .int .i64 (2 : Int) := hget
          refine Wk.on ?_
          rw [decide_eq_true (show ((pos : Nat) : Int) < ((g.n : Nat) : Int) by omega)]
          refine Wk.on ?_
          rw [Int.toNat_natCast, hg2]
          refine Wk.on ?_
          refine Tr.cap 5 2 1 rfl rfl fun c hc => ?_
          refine Tr.draw (md := true) (dpl [8] [8]) tok (by kernel_rfl) (by kernel_rfl) ?_
          refine Wk.on ?_
          refine ⟨⟨rfl, rfl, rfl, by rw [ints_len]; omega⟩, fun hin => ?_, fun hnew => ?_⟩
          · refine Wk.on ?_
            exact pag (V := [a0, a1, a2 ++ [(pos : Int)], a3]) [] ⟨by show pos + 1 ≤ g.n; omega, hput.symm, by simp only [List.length_cons, List.length_nil]; omega⟩ hp ⟨Or.inr (Or.inl (Or.inr ⟨rfl, rfl, ⟨rfl, rfl, by simp⟩, rfl, wk_tail _ _ q⟩)), trivial⟩ ⟨ru, ru, ri a2 pos, ru, trivial⟩ (by simp)
          · refine ⟨⟨Nat.le_of_ble_eq_true rfl, by show ((a2.length + 1 : Nat) : Int) * 8 ≤ _; omega, by omega⟩, ?_⟩
            refine Wk.on ?_
            exact pag (V := [a0, a1, a2 ++ [(pos : Int)], a3]) [(8, 11)] ⟨by show pos + 1 ≤ g.n; omega, hput.symm, by simp only [List.length_cons, List.length_nil]; omega⟩ hp ⟨Or.inr (Or.inl (Or.inr ⟨rfl, rfl, row_len _ _ _, rfl, wk_tail _ _ q⟩)), trivial⟩ ⟨ru, ru, rw_ a2 pos, ru, trivial⟩ (by simp)
        rcases l with _ | l
        · simp only [List.length_cons, List.length_nil] at hrp hs1 hVp h3
          have hal : a3.length ≤ 8 := hVm _ (by simp)
          simp only [putS, rwC, rwH, List.cons_append, List.nil_append, List.length_cons, List.length_nil, Nat.reduceAdd]
          have hg2 : (ints (wL w)).getD (0 + pos * 1) (.int .i64 0) = .int .i64 (3 : Int) := hget
          refine Wk.on ?_
          rw [decide_eq_true (show ((pos : Nat) : Int) < ((g.n : Nat) : Int) by omega)]
          refine Wk.on ?_
          rw [Int.toNat_natCast, hg2]
          refine Wk.on ?_
          refine Tr.cap 5 3 1 rfl rfl fun c hc => ?_
          refine Tr.draw (md := true) (dpl [9] [9]) tok (by kernel_rfl) (by kernel_rfl) ?_
          refine Wk.on ?_
          refine ⟨⟨rfl, rfl, rfl, by rw [ints_len]; omega⟩, fun hin => ?_, fun hnew => ?_⟩
          · refine Wk.on ?_
            exact pag (V := [a0, a1, a2, a3 ++ [(pos : Int)]]) [] ⟨by show pos + 1 ≤ g.n; omega, hput.symm, by simp only [List.length_cons, List.length_nil]; omega⟩ hp ⟨Or.inr (Or.inl (Or.inr ⟨rfl, rfl, rfl, ⟨rfl, rfl, by simp⟩, wk_tail _ _ q⟩)), trivial⟩ ⟨ru, ru, ru, ri a3 pos, trivial⟩ (by simp)
          · refine ⟨⟨Nat.le_of_ble_eq_true rfl, by show ((a3.length + 1 : Nat) : Int) * 8 ≤ _; omega, by omega⟩, ?_⟩
            refine Wk.on ?_
            exact pag (V := [a0, a1, a2, a3 ++ [(pos : Int)]]) [(9, 11)] ⟨by show pos + 1 ≤ g.n; omega, hput.symm, by simp only [List.length_cons, List.length_nil]; omega⟩ hp ⟨Or.inr (Or.inl (Or.inr ⟨rfl, rfl, rfl, row_len _ _ _, wk_tail _ _ q⟩)), trivial⟩ ⟨ru, ru, ru, rw_ a3 pos, trivial⟩ (by simp)
        rcases l with _ | l
        · simp only [List.length_cons, List.length_nil] at hrp hs1 hVp h3
          rcases q with _ | q
          · omega
          simp only [putS, rwC, rwH, List.cons_append, List.nil_append, List.length_cons, List.length_nil, Nat.reduceAdd]
          have hg2 : (ints (wL w)).getD (0 + pos * 1) (.int .i64 0) = .int .i64 (4 : Int) := hget
          refine Wk.on ?_
          rw [decide_eq_true (show ((pos : Nat) : Int) < ((g.n : Nat) : Int) by omega)]
          refine Wk.on ?_
          rw [Int.toNat_natCast, hg2]
          refine Wk.on ?_
          refine Tr.draw (md := true) (dpl [] []) tok (by kernel_rfl) (by kernel_rfl) ?_
          refine Wk.on ?_
          exact pag (V := [a0, a1, a2, a3, [(pos : Int)]]) [(10, 11)] ⟨by show pos + 1 ≤ g.n; omega, hput.symm, by simp only [List.length_cons, List.length_nil]; omega⟩ hp ⟨Or.inr (Or.inl (Or.inr ⟨rfl, rfl, rfl, rfl, rfl, wk_tail _ _ q⟩)), trivial⟩ ⟨ru, ru, ru, ru, Or.inl rfl, trivial⟩ (by simp)
        simp only [List.length_cons, List.length_nil] at hrp
        omega
      rcases V with _ | ⟨a5, V⟩
      · rcases l with _ | l
        · simp only [List.length_cons, List.length_nil] at hrp hs1 hVp h3
          have hal : a0.length ≤ 8 := hVm _ (by simp)
          simp only [putS, rwC, rwH, List.cons_append, List.nil_append, List.length_cons, List.length_nil, Nat.reduceAdd]
          have hg2 : (ints (wL w)).getD (0 + pos * 1) (.int .i64 0) = .int .i64 (0 : Int) := hget
          refine Wk.on ?_
          rw [decide_eq_true (show ((pos : Nat) : Int) < ((g.n : Nat) : Int) by omega)]
          refine Wk.on ?_
          rw [Int.toNat_natCast, hg2]
          refine Wk.on ?_
          refine Tr.cap 5 0 1 rfl rfl fun c hc => ?_
          refine Tr.draw (md := true) (dpl [6] [6]) tok (by kernel_rfl) (by kernel_rfl) ?_
          refine Wk.on ?_
          refine ⟨⟨rfl, rfl, rfl, by rw [ints_len]; omega⟩, fun hin => ?_, fun hnew => ?_⟩
          · refine Wk.on ?_
            exact pag (V := [a0 ++ [(pos : Int)], a1, a2, a3, a4]) [] ⟨by show pos + 1 ≤ g.n; omega, hput.symm, by simp only [List.length_cons, List.length_nil]; omega⟩ hp ⟨Or.inr (Or.inl (Or.inr ⟨⟨rfl, rfl, by simp⟩, rfl, rfl, rfl, rfl, wk_tail _ _ q⟩)), trivial⟩ ⟨ri a0 pos, ru, ru, ru, ru, trivial⟩ (by simp)
          · refine ⟨⟨Nat.le_of_ble_eq_true rfl, by show ((a0.length + 1 : Nat) : Int) * 8 ≤ _; omega, by omega⟩, ?_⟩
            refine Wk.on ?_
            exact pag (V := [a0 ++ [(pos : Int)], a1, a2, a3, a4]) [(6, 12)] ⟨by show pos + 1 ≤ g.n; omega, hput.symm, by simp only [List.length_cons, List.length_nil]; omega⟩ hp ⟨Or.inr (Or.inl (Or.inr ⟨row_len _ _ _, rfl, rfl, rfl, rfl, wk_tail _ _ q⟩)), trivial⟩ ⟨rw_ a0 pos, ru, ru, ru, ru, trivial⟩ (by simp)
        rcases l with _ | l
        · simp only [List.length_cons, List.length_nil] at hrp hs1 hVp h3
          have hal : a1.length ≤ 8 := hVm _ (by simp)
          simp only [putS, rwC, rwH, List.cons_append, List.nil_append, List.length_cons, List.length_nil, Nat.reduceAdd]
          have hg2 : (ints (wL w)).getD (0 + pos * 1) (.int .i64 0) = .int .i64 (1 : Int) := hget
          refine Wk.on ?_
          rw [decide_eq_true (show ((pos : Nat) : Int) < ((g.n : Nat) : Int) by omega)]
          refine Wk.on ?_
          rw [Int.toNat_natCast, hg2]
          refine Wk.on ?_
          refine Tr.cap 5 1 1 rfl rfl fun c hc => ?_
          refine Tr.draw (md := true) (dpl [7] [7]) tok (by kernel_rfl) (by kernel_rfl) ?_
          refine Wk.on ?_
          refine ⟨⟨rfl, rfl, rfl, by rw [ints_len]; omega⟩, fun hin => ?_, fun hnew => ?_⟩
          · refine Wk.on ?_
            exact pag (V := [a0, a1 ++ [(pos : Int)], a2, a3, a4]) [] ⟨by show pos + 1 ≤ g.n; omega, hput.symm, by simp only [List.length_cons, List.length_nil]; omega⟩ hp ⟨Or.inr (Or.inl (Or.inr ⟨rfl, ⟨rfl, rfl, by simp⟩, rfl, rfl, rfl, wk_tail _ _ q⟩)), trivial⟩ ⟨ru, ri a1 pos, ru, ru, ru, trivial⟩ (by simp)
          · refine ⟨⟨Nat.le_of_ble_eq_true rfl, by show ((a1.length + 1 : Nat) : Int) * 8 ≤ _; omega, by omega⟩, ?_⟩
            refine Wk.on ?_
            exact pag (V := [a0, a1 ++ [(pos : Int)], a2, a3, a4]) [(7, 12)] ⟨by show pos + 1 ≤ g.n; omega, hput.symm, by simp only [List.length_cons, List.length_nil]; omega⟩ hp ⟨Or.inr (Or.inl (Or.inr ⟨rfl, row_len _ _ _, rfl, rfl, rfl, wk_tail _ _ q⟩)), trivial⟩ ⟨ru, rw_ a1 pos, ru, ru, ru, trivial⟩ (by simp)
        rcases l with _ | l
        · simp only [List.length_cons, List.length_nil] at hrp hs1 hVp h3
          have hal : a2.length ≤ 8 := hVm _ (by simp)
          simp only [putS, rwC, rwH, List.cons_append, List.nil_append, List.length_cons, List.length_nil, Nat.reduceAdd]
          have hg2 : (ints (wL w)).getD (0 + pos * 1) (.int .i64 0) = .int .i64 (2 : Int) := hget
          refine Wk.on ?_
          rw [decide_eq_true (show ((pos : Nat) : Int) < ((g.n : Nat) : Int) by omega)]
          refine Wk.on ?_
          rw [Int.toNat_natCast, hg2]
          refine Wk.on ?_
          refine Tr.cap 5 2 1 rfl rfl fun c hc => ?_
          refine Tr.draw (md := true) (dpl [8] [8]) tok (by kernel_rfl) (by kernel_rfl) ?_
          refine Wk.on ?_
          refine ⟨⟨rfl, rfl, rfl, by rw [ints_len]; omega⟩, fun hin => ?_, fun hnew => ?_⟩
          · refine Wk.on ?_
            exact pag (V := [a0, a1, a2 ++ [(pos : Int)], a3, a4]) [] ⟨by show pos + 1 ≤ g.n; omega, hput.symm, by simp only [List.length_cons, List.length_nil]; omega⟩ hp ⟨Or.inr (Or.inl (Or.inr ⟨rfl, rfl, ⟨rfl, rfl, by simp⟩, rfl, rfl, wk_tail _ _ q⟩)), trivial⟩ ⟨ru, ru, ri a2 pos, ru, ru, trivial⟩ (by simp)
          · refine ⟨⟨Nat.le_of_ble_eq_true rfl, by show ((a2.length + 1 : Nat) : Int) * 8 ≤ _; omega, by omega⟩, ?_⟩
            refine Wk.on ?_
            exact pag (V := [a0, a1, a2 ++ [(pos : Int)], a3, a4]) [(8, 12)] ⟨by show pos + 1 ≤ g.n; omega, hput.symm, by simp only [List.length_cons, List.length_nil]; omega⟩ hp ⟨Or.inr (Or.inl (Or.inr ⟨rfl, rfl, row_len _ _ _, rfl, rfl, wk_tail _ _ q⟩)), trivial⟩ ⟨ru, ru, rw_ a2 pos, ru, ru, trivial⟩ (by simp)
        rcases l with _ | l
        · simp only [List.length_cons, List.length_nil] at hrp hs1 hVp h3
          have hal : a3.length ≤ 8 := hVm _ (by simp)
          simp only [putS, rwC, rwH, List.cons_append, List.nil_append, List.length_cons, List.length_nil, Nat.reduceAdd]
          have hg2 : (ints (wL w)).getD (0 + pos * 1) (.int .i64 0) = .int .i64 (3 : Int) := hget
          refine Wk.on ?_
          rw [decide_eq_true (show ((pos : Nat) : Int) < ((g.n : Nat) : Int) by omega)]
          refine Wk.on ?_
          rw [Int.toNat_natCast, hg2]
          refine Wk.on ?_
          refine Tr.cap 5 3 1 rfl rfl fun c hc => ?_
          refine Tr.draw (md := true) (dpl [9] [9]) tok (by kernel_rfl) (by kernel_rfl) ?_
          refine Wk.on ?_
          refine ⟨⟨rfl, rfl, rfl, by rw [ints_len]; omega⟩, fun hin => ?_, fun hnew => ?_⟩
          · refine Wk.on ?_
            exact pag (V := [a0, a1, a2, a3 ++ [(pos : Int)], a4]) [] ⟨by show pos + 1 ≤ g.n; omega, hput.symm, by simp only [List.length_cons, List.length_nil]; omega⟩ hp ⟨Or.inr (Or.inl (Or.inr ⟨rfl, rfl, rfl, ⟨rfl, rfl, by simp⟩, rfl, wk_tail _ _ q⟩)), trivial⟩ ⟨ru, ru, ru, ri a3 pos, ru, trivial⟩ (by simp)
          · refine ⟨⟨Nat.le_of_ble_eq_true rfl, by show ((a3.length + 1 : Nat) : Int) * 8 ≤ _; omega, by omega⟩, ?_⟩
            refine Wk.on ?_
            exact pag (V := [a0, a1, a2, a3 ++ [(pos : Int)], a4]) [(9, 12)] ⟨by show pos + 1 ≤ g.n; omega, hput.symm, by simp only [List.length_cons, List.length_nil]; omega⟩ hp ⟨Or.inr (Or.inl (Or.inr ⟨rfl, rfl, rfl, row_len _ _ _, rfl, wk_tail _ _ q⟩)), trivial⟩ ⟨ru, ru, ru, rw_ a3 pos, ru, trivial⟩ (by simp)
        rcases l with _ | l
        · simp only [List.length_cons, List.length_nil] at hrp hs1 hVp h3
          have hal : a4.length ≤ 8 := hVm _ (by simp)
          simp only [putS, rwC, rwH, List.cons_append, List.nil_append, List.length_cons, List.length_nil, Nat.reduceAdd]
          have hg2 : (ints (wL w)).getD (0 + pos * 1) (.int .i64 0) = .int .i64 (4 : Int) := hget
          refine Wk.on ?_
          rw [decide_eq_true (show ((pos : Nat) : Int) < ((g.n : Nat) : Int) by omega)]
          refine Wk.on ?_
          rw [Int.toNat_natCast, hg2]
          refine Wk.on ?_
          refine Tr.cap 5 4 1 rfl rfl fun c hc => ?_
          refine Tr.draw (md := true) (dpl [10] [10]) tok (by kernel_rfl) (by kernel_rfl) ?_
          refine Wk.on ?_
          refine ⟨⟨rfl, rfl, rfl, by rw [ints_len]; omega⟩, fun hin => ?_, fun hnew => ?_⟩
          · refine Wk.on ?_
            exact pag (V := [a0, a1, a2, a3, a4 ++ [(pos : Int)]]) [] ⟨by show pos + 1 ≤ g.n; omega, hput.symm, by simp only [List.length_cons, List.length_nil]; omega⟩ hp ⟨Or.inr (Or.inl (Or.inr ⟨rfl, rfl, rfl, rfl, ⟨rfl, rfl, by simp⟩, wk_tail _ _ q⟩)), trivial⟩ ⟨ru, ru, ru, ru, ri a4 pos, trivial⟩ (by simp)
          · refine ⟨⟨Nat.le_of_ble_eq_true rfl, by show ((a4.length + 1 : Nat) : Int) * 8 ≤ _; omega, by omega⟩, ?_⟩
            refine Wk.on ?_
            exact pag (V := [a0, a1, a2, a3, a4 ++ [(pos : Int)]]) [(10, 12)] ⟨by show pos + 1 ≤ g.n; omega, hput.symm, by simp only [List.length_cons, List.length_nil]; omega⟩ hp ⟨Or.inr (Or.inl (Or.inr ⟨rfl, rfl, rfl, rfl, row_len _ _ _, wk_tail _ _ q⟩)), trivial⟩ ⟨ru, ru, ru, ru, rw_ a4 pos, trivial⟩ (by simp)
        rcases l with _ | l
        · simp only [List.length_cons, List.length_nil] at hrp hs1 hVp h3
          rcases q with _ | q
          · omega
          simp only [putS, rwC, rwH, List.cons_append, List.nil_append, List.length_cons, List.length_nil, Nat.reduceAdd]
          have hg2 : (ints (wL w)).getD (0 + pos * 1) (.int .i64 0) = .int .i64 (5 : Int) := hget
          refine Wk.on ?_
          rw [decide_eq_true (show ((pos : Nat) : Int) < ((g.n : Nat) : Int) by omega)]
          refine Wk.on ?_
          rw [Int.toNat_natCast, hg2]
          refine Wk.on ?_
          refine Tr.draw (md := true) (dpl [] []) tok (by kernel_rfl) (by kernel_rfl) ?_
          refine Wk.on ?_
          exact pag (V := [a0, a1, a2, a3, a4, [(pos : Int)]]) [(11, 12)] ⟨by show pos + 1 ≤ g.n; omega, hput.symm, by simp only [List.length_cons, List.length_nil]; omega⟩ hp ⟨Or.inr (Or.inl (Or.inr ⟨rfl, rfl, rfl, rfl, rfl, rfl, wk_tail _ _ q⟩)), trivial⟩ ⟨ru, ru, ru, ru, ru, Or.inl rfl, trivial⟩ (by simp)
        simp only [List.length_cons, List.length_nil] at hrp
        omega
      rcases V with _ | ⟨a6, V⟩
      · rcases l with _ | l
        · simp only [List.length_cons, List.length_nil] at hrp hs1 hVp h3
          have hal : a0.length ≤ 8 := hVm _ (by simp)
          simp only [putS, rwC, rwH, List.cons_append, List.nil_append, List.length_cons, List.length_nil, Nat.reduceAdd]
          have hg2 : (ints (wL w)).getD (0 + pos * 1) (.int .i64 0) = .int .i64 (0 : Int) := hget
          refine Wk.on ?_
          rw [decide_eq_true (show ((pos : Nat) : Int) < ((g.n : Nat) : Int) by omega)]
          refine Wk.on ?_
          rw [Int.toNat_natCast, hg2]
          refine Wk.on ?_
          refine Tr.cap 5 0 1 rfl rfl fun c hc => ?_
          refine Tr.draw (md := true) (dpl [6] [6]) tok (by kernel_rfl) (by kernel_rfl) ?_
          refine Wk.on ?_
          refine ⟨⟨rfl, rfl, rfl, by rw [ints_len]; omega⟩, fun hin => ?_, fun hnew => ?_⟩
          · refine Wk.on ?_
            exact pag (V := [a0 ++ [(pos : Int)], a1, a2, a3, a4, a5]) [] ⟨by show pos + 1 ≤ g.n; omega, hput.symm, by simp only [List.length_cons, List.length_nil]; omega⟩ hp ⟨Or.inr (Or.inl (Or.inr ⟨⟨rfl, rfl, by simp⟩, rfl, rfl, rfl, rfl, rfl, wk_tail _ _ q⟩)), trivial⟩ ⟨ri a0 pos, ru, ru, ru, ru, ru, trivial⟩ (by simp)
          · refine ⟨⟨Nat.le_of_ble_eq_true rfl, by show ((a0.length + 1 : Nat) : Int) * 8 ≤ _; omega, by omega⟩, ?_⟩
            refine Wk.on ?_
            exact pag (V := [a0 ++ [(pos : Int)], a1, a2, a3, a4, a5]) [(6, 13)] ⟨by show pos + 1 ≤ g.n; omega, hput.symm, by simp only [List.length_cons, List.length_nil]; omega⟩ hp ⟨Or.inr (Or.inl (Or.inr ⟨row_len _ _ _, rfl, rfl, rfl, rfl, rfl, wk_tail _ _ q⟩)), trivial⟩ ⟨rw_ a0 pos, ru, ru, ru, ru, ru, trivial⟩ (by simp)
        rcases l with _ | l
        · simp only [List.length_cons, List.length_nil] at hrp hs1 hVp h3
          have hal : a1.length ≤ 8 := hVm _ (by simp)
          simp only [putS, rwC, rwH, List.cons_append, List.nil_append, List.length_cons, List.length_nil, Nat.reduceAdd]
          have hg2 : (ints (wL w)).getD (0 + pos * 1) (.int .i64 0) = .int .i64 (1 : Int) := hget
          refine Wk.on ?_
          rw [decide_eq_true (show ((pos : Nat) : Int) < ((g.n : Nat) : Int) by omega)]
          refine Wk.on ?_
          rw [Int.toNat_natCast, hg2]
          refine Wk.on ?_
          refine Tr.cap 5 1 1 rfl rfl fun c hc => ?_
          refine Tr.draw (md := true) (dpl [7] [7]) tok (by kernel_rfl) (by kernel_rfl) ?_
          refine Wk.on ?_
          refine ⟨⟨rfl, rfl, rfl, by rw [ints_len]; omega⟩, fun hin => ?_, fun hnew => ?_⟩
          · refine Wk.on ?_
            exact pag (V := [a0, a1 ++ [(pos : Int)], a2, a3, a4, a5]) [] ⟨by show pos + 1 ≤ g.n; omega, hput.symm, by simp only [List.length_cons, List.length_nil]; omega⟩ hp ⟨Or.inr (Or.inl (Or.inr ⟨rfl, ⟨rfl, rfl, by simp⟩, rfl, rfl, rfl, rfl, wk_tail _ _ q⟩)), trivial⟩ ⟨ru, ri a1 pos, ru, ru, ru, ru, trivial⟩ (by simp)
          · refine ⟨⟨Nat.le_of_ble_eq_true rfl, by show ((a1.length + 1 : Nat) : Int) * 8 ≤ _; omega, by omega⟩, ?_⟩
            refine Wk.on ?_
            exact pag (V := [a0, a1 ++ [(pos : Int)], a2, a3, a4, a5]) [(7, 13)] ⟨by show pos + 1 ≤ g.n; omega, hput.symm, by simp only [List.length_cons, List.length_nil]; omega⟩ hp ⟨Or.inr (Or.inl (Or.inr ⟨rfl, row_len _ _ _, rfl, rfl, rfl, rfl, wk_tail _ _ q⟩)), trivial⟩ ⟨ru, rw_ a1 pos, ru, ru, ru, ru, trivial⟩ (by simp)
        rcases l with _ | l
        · simp only [List.length_cons, List.length_nil] at hrp hs1 hVp h3
          have hal : a2.length ≤ 8 := hVm _ (by simp)
          simp only [putS, rwC, rwH, List.cons_append, List.nil_append, List.length_cons, List.length_nil, Nat.reduceAdd]
          have hg2 : (ints (wL w)).getD (0 + pos * 1) (.int .i64 0) = .int .i64 (2 : Int) := hget
          refine Wk.on ?_
          rw [decide_eq_true (show ((pos : Nat) : Int) < ((g.n : Nat) : Int) by omega)]
          refine Wk.on ?_
          rw [Int.toNat_natCast, hg2]
          refine Wk.on ?_
          refine Tr.cap 5 2 1 rfl rfl fun c hc => ?_
          refine Tr.draw (md := true) (dpl [8] [8]) tok (by kernel_rfl) (by kernel_rfl) ?_
          refine Wk.on ?_
          refine ⟨⟨rfl, rfl, rfl, by rw [ints_len]; omega⟩, fun hin => ?_, fun hnew => ?_⟩
          · refine Wk.on ?_
            exact pag (V := [a0, a1, a2 ++ [(pos : Int)], a3, a4, a5]) [] ⟨by show pos + 1 ≤ g.n; omega, hput.symm, by simp only [List.length_cons, List.length_nil]; omega⟩ hp ⟨Or.inr (Or.inl (Or.inr ⟨rfl, rfl, ⟨rfl, rfl, by simp⟩, rfl, rfl, rfl, wk_tail _ _ q⟩)), trivial⟩ ⟨ru, ru, ri a2 pos, ru, ru, ru, trivial⟩ (by simp)
          · refine ⟨⟨Nat.le_of_ble_eq_true rfl, by show ((a2.length + 1 : Nat) : Int) * 8 ≤ _; omega, by omega⟩, ?_⟩
            refine Wk.on ?_
            exact pag (V := [a0, a1, a2 ++ [(pos : Int)], a3, a4, a5]) [(8, 13)] ⟨by show pos + 1 ≤ g.n; omega, hput.symm, by simp only [List.length_cons, List.length_nil]; omega⟩ hp ⟨Or.inr (Or.inl (Or.inr ⟨rfl, rfl, row_len _ _ _, rfl, rfl, rfl, wk_tail _ _ q⟩)), trivial⟩ ⟨ru, ru, rw_ a2 pos, ru, ru, ru, trivial⟩ (by simp)
        rcases l with _ | l
        · simp only [List.length_cons, List.length_nil] at hrp hs1 hVp h3
          have hal : a3.length ≤ 8 := hVm _ (by simp)
          simp only [putS, rwC, rwH, List.cons_append, List.nil_append, List.length_cons, List.length_nil, Nat.reduceAdd]
          have hg2 : (ints (wL w)).getD (0 + pos * 1) (.int .i64 0) = .int .i64 (3 : Int) := hget
          refine Wk.on ?_
          rw [decide_eq_true (show ((pos : Nat) : Int) < ((g.n : Nat) : Int) by omega)]
          refine Wk.on ?_
          rw [Int.toNat_natCast, hg2]
          refine Wk.on ?_
          refine Tr.cap 5 3 1 rfl rfl fun c hc => ?_
          refine Tr.draw (md := true) (dpl [9] [9]) tok (by kernel_rfl) (by kernel_rfl) ?_
          refine Wk.on ?_
          refine ⟨⟨rfl, rfl, rfl, by rw [ints_len]; omega⟩, fun hin => ?_, fun hnew => ?_⟩
          · refine Wk.on ?_
            exact pag (V := [a0, a1, a2, a3 ++ [(pos : Int)], a4, a5]) [] ⟨by show pos + 1 ≤ g.n; omega, hput.symm, by simp only [List.length_cons, List.length_nil]; omega⟩ hp ⟨Or.inr (Or.inl (Or.inr ⟨rfl, rfl, rfl, ⟨rfl, rfl, by simp⟩, rfl, rfl, wk_tail _ _ q⟩)), trivial⟩ ⟨ru, ru, ru, ri a3 pos, ru, ru, trivial⟩ (by simp)
          · refine ⟨⟨Nat.le_of_ble_eq_true rfl, by show ((a3.length + 1 : Nat) : Int) * 8 ≤ _; omega, by omega⟩, ?_⟩
            refine Wk.on ?_
            exact pag (V := [a0, a1, a2, a3 ++ [(pos : Int)], a4, a5]) [(9, 13)] ⟨by show pos + 1 ≤ g.n; omega, hput.symm, by simp only [List.length_cons, List.length_nil]; omega⟩ hp ⟨Or.inr (Or.inl (Or.inr ⟨rfl, rfl, rfl, row_len _ _ _, rfl, rfl, wk_tail _ _ q⟩)), trivial⟩ ⟨ru, ru, ru, rw_ a3 pos, ru, ru, trivial⟩ (by simp)
        rcases l with _ | l
        · simp only [List.length_cons, List.length_nil] at hrp hs1 hVp h3
          have hal : a4.length ≤ 8 := hVm _ (by simp)
          simp only [putS, rwC, rwH, List.cons_append, List.nil_append, List.length_cons, List.length_nil, Nat.reduceAdd]
          have hg2 : (ints (wL w)).getD (0 + pos * 1) (.int .i64 0) = .int .i64 (4 : Int) := hget
          refine Wk.on ?_
          rw [decide_eq_true (show ((pos : Nat) : Int) < ((g.n : Nat) : Int) by omega)]
          refine Wk.on ?_
          rw [Int.toNat_natCast, hg2]
          refine Wk.on ?_
          refine Tr.cap 5 4 1 rfl rfl fun c hc => ?_
          refine Tr.draw (md := true) (dpl [10] [10]) tok (by kernel_rfl) (by kernel_rfl) ?_
          refine Wk.on ?_
          refine ⟨⟨rfl, rfl, rfl, by rw [ints_len]; omega⟩, fun hin => ?_, fun hnew => ?_⟩
          · refine Wk.on ?_
            exact pag (V := [a0, a1, a2, a3, a4 ++ [(pos : Int)], a5]) [] ⟨by show pos + 1 ≤ g.n; omega, hput.symm, by simp only [List.length_cons, List.length_nil]; omega⟩ hp ⟨Or.inr (Or.inl (Or.inr ⟨rfl, rfl, rfl, rfl, ⟨rfl, rfl, by simp⟩, rfl, wk_tail _ _ q⟩)), trivial⟩ ⟨ru, ru, ru, ru, ri a4 pos, ru, trivial⟩ (by simp)
          · refine ⟨⟨Nat.le_of_ble_eq_true rfl, by show ((a4.length + 1 : Nat) : Int) * 8 ≤ _; omega, by omega⟩, ?_⟩
            refine Wk.on ?_
            exact pag (V := [a0, a1, a2, a3, a4 ++ [(pos : Int)], a5]) [(10, 13)] ⟨by show pos + 1 ≤ g.n; omega, hput.symm, by simp only [List.length_cons, List.length_nil]; omega⟩ hp ⟨Or.inr (Or.inl (Or.inr ⟨rfl, rfl, rfl, rfl, row_len _ _ _, rfl, wk_tail _ _ q⟩)), trivial⟩ ⟨ru, ru, ru, ru, rw_ a4 pos, ru, trivial⟩ (by simp)
        rcases l with _ | l
        · simp only [List.length_cons, List.length_nil] at hrp hs1 hVp h3
          have hal : a5.length ≤ 8 := hVm _ (by simp)
          simp only [putS, rwC, rwH, List.cons_append, List.nil_append, List.length_cons, List.length_nil, Nat.reduceAdd]
          have hg2 : (ints (wL w)).getD (0 + pos * 1) (.int .i64 0) = .int .i64 (5 : Int) := hget
          refine Wk.on ?_
          rw [decide_eq_true (show ((pos : Nat) : Int) < ((g.n : Nat) : Int) by omega)]
          refine Wk.on ?_
          rw [Int.toNat_natCast, hg2]
          refine Wk.on ?_
          refine Tr.cap 5 5 1 rfl rfl fun c hc => ?_
          refine Tr.draw (md := true) (dpl [11] [11]) tok (by kernel_rfl) (by kernel_rfl) ?_
          refine Wk.on ?_
          refine ⟨⟨rfl, rfl, rfl, by rw [ints_len]; omega⟩, fun hin => ?_, fun hnew => ?_⟩
          · refine Wk.on ?_
            exact pag (V := [a0, a1, a2, a3, a4, a5 ++ [(pos : Int)]]) [] ⟨by show pos + 1 ≤ g.n; omega, hput.symm, by simp only [List.length_cons, List.length_nil]; omega⟩ hp ⟨Or.inr (Or.inl (Or.inr ⟨rfl, rfl, rfl, rfl, rfl, ⟨rfl, rfl, by simp⟩, wk_tail _ _ q⟩)), trivial⟩ ⟨ru, ru, ru, ru, ru, ri a5 pos, trivial⟩ (by simp)
          · refine ⟨⟨Nat.le_of_ble_eq_true rfl, by show ((a5.length + 1 : Nat) : Int) * 8 ≤ _; omega, by omega⟩, ?_⟩
            refine Wk.on ?_
            exact pag (V := [a0, a1, a2, a3, a4, a5 ++ [(pos : Int)]]) [(11, 13)] ⟨by show pos + 1 ≤ g.n; omega, hput.symm, by simp only [List.length_cons, List.length_nil]; omega⟩ hp ⟨Or.inr (Or.inl (Or.inr ⟨rfl, rfl, rfl, rfl, rfl, row_len _ _ _, wk_tail _ _ q⟩)), trivial⟩ ⟨ru, ru, ru, ru, ru, rw_ a5 pos, trivial⟩ (by simp)
        rcases l with _ | l
        · simp only [List.length_cons, List.length_nil] at hrp hs1 hVp h3
          rcases q with _ | q
          · omega
          simp only [putS, rwC, rwH, List.cons_append, List.nil_append, List.length_cons, List.length_nil, Nat.reduceAdd]
          have hg2 : (ints (wL w)).getD (0 + pos * 1) (.int .i64 0) = .int .i64 (6 : Int) := hget
          refine Wk.on ?_
          rw [decide_eq_true (show ((pos : Nat) : Int) < ((g.n : Nat) : Int) by omega)]
          refine Wk.on ?_
          rw [Int.toNat_natCast, hg2]
          refine Wk.on ?_
          refine Tr.draw (md := true) (dpl [] []) tok (by kernel_rfl) (by kernel_rfl) ?_
          refine Wk.on ?_
          exact pag (V := [a0, a1, a2, a3, a4, a5, [(pos : Int)]]) [(12, 13)] ⟨by show pos + 1 ≤ g.n; omega, hput.symm, by simp only [List.length_cons, List.length_nil]; omega⟩ hp ⟨Or.inr (Or.inl (Or.inr ⟨rfl, rfl, rfl, rfl, rfl, rfl, rfl, wk_tail _ _ q⟩)), trivial⟩ ⟨ru, ru, ru, ru, ru, ru, Or.inl rfl, trivial⟩ (by simp)
        simp only [List.length_cons, List.length_nil] at hrp
        omega
      rcases V with _ | ⟨a7, V⟩
      · rcases l with _ | l
        · simp only [List.length_cons, List.length_nil] at hrp hs1 hVp h3
          have hal : a0.length ≤ 8 := hVm _ (by simp)
          simp only [putS, rwC, rwH, List.cons_append, List.nil_append, List.length_cons, List.length_nil, Nat.reduceAdd]
          have hg2 : (ints (wL w)).getD (0 + pos * 1) (.int .i64 0) = .int .i64 (0 : Int) := hget
          refine Wk.on ?_
          rw [decide_eq_true (show ((pos : Nat) : Int) < ((g.n : Nat) : Int) by omega)]
          refine Wk.on ?_
          rw [Int.toNat_natCast, hg2]
          refine Wk.on ?_
          refine Tr.cap 5 0 1 rfl rfl fun c hc => ?_
          refine Tr.draw (md := true) (dpl [6] [6]) tok (by kernel_rfl) (by kernel_rfl) ?_
          refine Wk.on ?_
          refine ⟨⟨rfl, rfl, rfl, by rw [ints_len]; omega⟩, fun hin => ?_, fun hnew => ?_⟩
          · refine Wk.on ?_
            exact pag (V := [a0 ++ [(pos : Int)], a1, a2, a3, a4, a5, a6]) [] ⟨by show pos + 1 ≤ g.n; omega, hput.symm, by simp only [List.length_cons, List.length_nil]; omega⟩ hp ⟨Or.inr (Or.inl (Or.inr ⟨⟨rfl, rfl, by simp⟩, rfl, rfl, rfl, rfl, rfl, rfl, wk_tail _ _ q⟩)), trivial⟩ ⟨ri a0 pos, ru, ru, ru, ru, ru, ru, trivial⟩ (by simp)
          · refine ⟨⟨Nat.le_of_ble_eq_true rfl, by show ((a0.length + 1 : Nat) : Int) * 8 ≤ _; omega, by omega⟩, ?_⟩
            refine Wk.on ?_
            exact pag (V := [a0 ++ [(pos : Int)], a1, a2, a3, a4, a5, a6]) [(6, 14)] ⟨by show pos + 1 ≤ g.n; omega, hput.symm, by simp only [List.length_cons, List.length_nil]; omega⟩ hp ⟨Or.inr (Or.inl (Or.inr ⟨row_len _ _ _, rfl, rfl, rfl, rfl, rfl, rfl, wk_tail _ _ q⟩)), trivial⟩ ⟨rw_ a0 pos, ru, ru, ru, ru, ru, ru, trivial⟩ (by simp)
        rcases l with _ | l
        · simp only [List.length_cons, List.length_nil] at hrp hs1 hVp h3
          have hal : a1.length ≤ 8 := hVm _ (by simp)
          simp only [putS, rwC, rwH, List.cons_append, List.nil_append, List.length_cons, List.length_nil, Nat.reduceAdd]
          have hg2 : (ints (wL w)).getD (0 + pos * 1) (.int .i64 0) = .int .i64 (1 : Int) := hget
          refine Wk.on ?_
          rw [decide_eq_true (show ((pos : Nat) : Int) < ((g.n : Nat) : Int) by omega)]
          refine Wk.on ?_
          rw [Int.toNat_natCast, hg2]
          refine Wk.on ?_
          refine Tr.cap 5 1 1 rfl rfl fun c hc => ?_
          refine Tr.draw (md := true) (dpl [7] [7]) tok (by kernel_rfl) (by kernel_rfl) ?_
          refine Wk.on ?_
          refine ⟨⟨rfl, rfl, rfl, by rw [ints_len]; omega⟩, fun hin => ?_, fun hnew => ?_⟩
          · refine Wk.on ?_
            exact pag (V := [a0, a1 ++ [(pos : Int)], a2, a3, a4, a5, a6]) [] ⟨by show pos + 1 ≤ g.n; omega, hput.symm, by simp only [List.length_cons, List.length_nil]; omega⟩ hp ⟨Or.inr (Or.inl (Or.inr ⟨rfl, ⟨rfl, rfl, by simp⟩, rfl, rfl, rfl, rfl, rfl, wk_tail _ _ q⟩)), trivial⟩ ⟨ru, ri a1 pos, ru, ru, ru, ru, ru, trivial⟩ (by simp)
          · refine ⟨⟨Nat.le_of_ble_eq_true rfl, by show ((a1.length + 1 : Nat) : Int) * 8 ≤ _; omega, by omega⟩, ?_⟩
            refine Wk.on ?_
            exact pag (V := [a0, a1 ++ [(pos : Int)], a2, a3, a4, a5, a6]) [(7, 14)] ⟨by show pos + 1 ≤ g.n; omega, hput.symm, by simp only [List.length_cons, List.length_nil]; omega⟩ hp ⟨Or.inr (Or.inl (Or.inr ⟨rfl, row_len _ _ _, rfl, rfl, rfl, rfl, rfl, wk_tail _ _ q⟩)), trivial⟩ ⟨ru, rw_ a1 pos, ru, ru, ru, ru, ru, trivial⟩ (by simp)
        rcases l with _ | l
        · simp only [List.length_cons, List.length_nil] at hrp hs1 hVp h3
          have hal : a2.length ≤ 8 := hVm _ (by simp)
          simp only [putS, rwC, rwH, List.cons_append, List.nil_append, List.length_cons, List.length_nil, Nat.reduceAdd]
          have hg2 : (ints (wL w)).getD (0 + pos * 1) (.int .i64 0) = .int .i64 (2 : Int) := hget
          refine Wk.on ?_
          rw [decide_eq_true (show ((pos : Nat) : Int) < ((g.n : Nat) : Int) by omega)]
          refine Wk.on ?_
          rw [Int.toNat_natCast, hg2]
          refine Wk.on ?_
          refine Tr.cap 5 2 1 rfl rfl fun c hc => ?_
          refine Tr.draw (md := true) (dpl [8] [8]) tok (by kernel_rfl) (by kernel_rfl) ?_
          refine Wk.on ?_
          refine ⟨⟨rfl, rfl, rfl, by rw [ints_len]; omega⟩, fun hin => ?_, fun hnew => ?_⟩
          · refine Wk.on ?_
            exact pag (V := [a0, a1, a2 ++ [(pos : Int)], a3, a4, a5, a6]) [] ⟨by show pos + 1 ≤ g.n; omega, hput.symm, by simp only [List.length_cons, List.length_nil]; omega⟩ hp ⟨Or.inr (Or.inl (Or.inr ⟨rfl, rfl, ⟨rfl, rfl, by simp⟩, rfl, rfl, rfl, rfl, wk_tail _ _ q⟩)), trivial⟩ ⟨ru, ru, ri a2 pos, ru, ru, ru, ru, trivial⟩ (by simp)
          · refine ⟨⟨Nat.le_of_ble_eq_true rfl, by show ((a2.length + 1 : Nat) : Int) * 8 ≤ _; omega, by omega⟩, ?_⟩
            refine Wk.on ?_
            exact pag (V := [a0, a1, a2 ++ [(pos : Int)], a3, a4, a5, a6]) [(8, 14)] ⟨by show pos + 1 ≤ g.n; omega, hput.symm, by simp only [List.length_cons, List.length_nil]; omega⟩ hp ⟨Or.inr (Or.inl (Or.inr ⟨rfl, rfl, row_len _ _ _, rfl, rfl, rfl, rfl, wk_tail _ _ q⟩)), trivial⟩ ⟨ru, ru, rw_ a2 pos, ru, ru, ru, ru, trivial⟩ (by simp)
        rcases l with _ | l
        · simp only [List.length_cons, List.length_nil] at hrp hs1 hVp h3
          have hal : a3.length ≤ 8 := hVm _ (by simp)
          simp only [putS, rwC, rwH, List.cons_append, List.nil_append, List.length_cons, List.length_nil, Nat.reduceAdd]
          have hg2 : (ints (wL w)).getD (0 + pos * 1) (.int .i64 0) = .int .i64 (3 : Int) := hget
          refine Wk.on ?_
          rw [decide_eq_true (show ((pos : Nat) : Int) < ((g.n : Nat) : Int) by omega)]
          refine Wk.on ?_
          rw [Int.toNat_natCast, hg2]
          refine Wk.on ?_
          refine Tr.cap 5 3 1 rfl rfl fun c hc => ?_
          refine Tr.draw (md := true) (dpl [9] [9]) tok (by kernel_rfl) (by kernel_rfl) ?_
          refine Wk.on ?_
          refine ⟨⟨rfl, rfl, rfl, by rw [ints_len]; omega⟩, fun hin => ?_, fun hnew => ?_⟩
          · refine Wk.on ?_
            exact pag (V := [a0, a1, a2, a3 ++ [(pos : Int)], a4, a5, a6]) [] ⟨by show pos + 1 ≤ g.n; omega, hput.symm, by simp only [List.length_cons, List.length_nil]; omega⟩ hp ⟨Or.inr (Or.inl (Or.inr ⟨rfl, rfl, rfl, ⟨rfl, rfl, by simp⟩, rfl, rfl, rfl, wk_tail _ _ q⟩)), trivial⟩ ⟨ru, ru, ru, ri a3 pos, ru, ru, ru, trivial⟩ (by simp)
          · refine ⟨⟨Nat.le_of_ble_eq_true rfl, by show ((a3.length + 1 : Nat) : Int) * 8 ≤ _; omega, by omega⟩, ?_⟩
            refine Wk.on ?_
            exact pag (V := [a0, a1, a2, a3 ++ [(pos : Int)], a4, a5, a6]) [(9, 14)] ⟨by show pos + 1 ≤ g.n; omega, hput.symm, by simp only [List.length_cons, List.length_nil]; omega⟩ hp ⟨Or.inr (Or.inl (Or.inr ⟨rfl, rfl, rfl, row_len _ _ _, rfl, rfl, rfl, wk_tail _ _ q⟩)), trivial⟩ ⟨ru, ru, ru, rw_ a3 pos, ru, ru, ru, trivial⟩ (by simp)
        rcases l with _ | l
        · simp only [List.length_cons, List.length_nil] at hrp hs1 hVp h3
          have hal : a4.length ≤ 8 := hVm _ (by simp)
          simp only [putS, rwC, rwH, List.cons_append, List.nil_append, List.length_cons, List.length_nil, Nat.reduceAdd]
          have hg2 : (ints (wL w)).getD (0 + pos * 1) (.int .i64 0) = .int .i64 (4 : Int) := hget
          refine Wk.on ?_
          rw [decide_eq_true (show ((pos : Nat) : Int) < ((g.n : Nat) : Int) by omega)]
          refine Wk.on ?_
          rw [Int.toNat_natCast, hg2]
          refine Wk.on ?_
          refine Tr.cap 5 4 1 rfl rfl fun c hc => ?_
          refine Tr.draw (md := true) (dpl [10] [10]) tok (by kernel_rfl) (by kernel_rfl) ?_
          refine Wk.on ?_
          refine ⟨⟨rfl, rfl, rfl, by rw [ints_len]; omega⟩, fun hin => ?_, fun hnew => ?_⟩
          · refine Wk.on ?_
            exact pag (V := [a0, a1, a2, a3, a4 ++ [(pos : Int)], a5, a6]) [] ⟨by show pos + 1 ≤ g.n; omega, hput.symm, by simp only [List.length_cons, List.length_nil]; omega⟩ hp ⟨Or.inr (Or.inl (Or.inr ⟨rfl, rfl, rfl, rfl, ⟨rfl, rfl, by simp⟩, rfl, rfl, wk_tail _ _ q⟩)), trivial⟩ ⟨ru, ru, ru, ru, ri a4 pos, ru, ru, trivial⟩ (by simp)
          · refine ⟨⟨Nat.le_of_ble_eq_true rfl, by show ((a4.length + 1 : Nat) : Int) * 8 ≤ _; omega, by omega⟩, ?_⟩
            refine Wk.on ?_
            exact pag (V := [a0, a1, a2, a3, a4 ++ [(pos : Int)], a5, a6]) [(10, 14)] ⟨by show pos + 1 ≤ g.n; omega, hput.symm, by simp only [List.length_cons, List.length_nil]; omega⟩ hp ⟨Or.inr (Or.inl (Or.inr ⟨rfl, rfl, rfl, rfl, row_len _ _ _, rfl, rfl, wk_tail _ _ q⟩)), trivial⟩ ⟨ru, ru, ru, ru, rw_ a4 pos, ru, ru, trivial⟩ (by simp)
        rcases l with _ | l
        · simp only [List.length_cons, List.length_nil] at hrp hs1 hVp h3
          have hal : a5.length ≤ 8 := hVm _ (by simp)
          simp only [putS, rwC, rwH, List.cons_append, List.nil_append, List.length_cons, List.length_nil, Nat.reduceAdd]
          have hg2 : (ints (wL w)).getD (0 + pos * 1) (.int .i64 0) = .int .i64 (5 : Int) := hget
          refine Wk.on ?_
          rw [decide_eq_true (show ((pos : Nat) : Int) < ((g.n : Nat) : Int) by omega)]
          refine Wk.on ?_
          rw [Int.toNat_natCast, hg2]
          refine Wk.on ?_
          refine Tr.cap 5 5 1 rfl rfl fun c hc => ?_
          refine Tr.draw (md := true) (dpl [11] [11]) tok (by kernel_rfl) (by kernel_rfl) ?_
          refine Wk.on ?_
          refine ⟨⟨rfl, rfl, rfl, by rw [ints_len]; omega⟩, fun hin => ?_, fun hnew => ?_⟩
          · refine Wk.on ?_
            exact pag (V := [a0, a1, a2, a3, a4, a5 ++ [(pos : Int)], a6]) [] ⟨by show pos + 1 ≤ g.n; omega, hput.symm, by simp only [List.length_cons, List.length_nil]; omega⟩ hp ⟨Or.inr (Or.inl (Or.inr ⟨rfl, rfl, rfl, rfl, rfl, ⟨rfl, rfl, by simp⟩, rfl, wk_tail _ _ q⟩)), trivial⟩ ⟨ru, ru, ru, ru, ru, ri a5 pos, ru, trivial⟩ (by simp)
          · refine ⟨⟨Nat.le_of_ble_eq_true rfl, by show ((a5.length + 1 : Nat) : Int) * 8 ≤ _; omega, by omega⟩, ?_⟩
            refine Wk.on ?_
            exact pag (V := [a0, a1, a2, a3, a4, a5 ++ [(pos : Int)], a6]) [(11, 14)] ⟨by show pos + 1 ≤ g.n; omega, hput.symm, by simp only [List.length_cons, List.length_nil]; omega⟩ hp ⟨Or.inr (Or.inl (Or.inr ⟨rfl, rfl, rfl, rfl, rfl, row_len _ _ _, rfl, wk_tail _ _ q⟩)), trivial⟩ ⟨ru, ru, ru, ru, ru, rw_ a5 pos, ru, trivial⟩ (by simp)
        rcases l with _ | l
        · simp only [List.length_cons, List.length_nil] at hrp hs1 hVp h3
          have hal : a6.length ≤ 8 := hVm _ (by simp)
          simp only [putS, rwC, rwH, List.cons_append, List.nil_append, List.length_cons, List.length_nil, Nat.reduceAdd]
          have hg2 : (ints (wL w)).getD (0 + pos * 1) (.int .i64 0) = .int .i64 (6 : Int) := hget
          refine Wk.on ?_
          rw [decide_eq_true (show ((pos : Nat) : Int) < ((g.n : Nat) : Int) by omega)]
          refine Wk.on ?_
          rw [Int.toNat_natCast, hg2]
          refine Wk.on ?_
          refine Tr.cap 5 6 1 rfl rfl fun c hc => ?_
          refine Tr.draw (md := true) (dpl [12] [12]) tok (by kernel_rfl) (by kernel_rfl) ?_
          refine Wk.on ?_
          refine ⟨⟨rfl, rfl, rfl, by rw [ints_len]; omega⟩, fun hin => ?_, fun hnew => ?_⟩
          · refine Wk.on ?_
            exact pag (V := [a0, a1, a2, a3, a4, a5, a6 ++ [(pos : Int)]]) [] ⟨by show pos + 1 ≤ g.n; omega, hput.symm, by simp only [List.length_cons, List.length_nil]; omega⟩ hp ⟨Or.inr (Or.inl (Or.inr ⟨rfl, rfl, rfl, rfl, rfl, rfl, ⟨rfl, rfl, by simp⟩, wk_tail _ _ q⟩)), trivial⟩ ⟨ru, ru, ru, ru, ru, ru, ri a6 pos, trivial⟩ (by simp)
          · refine ⟨⟨Nat.le_of_ble_eq_true rfl, by show ((a6.length + 1 : Nat) : Int) * 8 ≤ _; omega, by omega⟩, ?_⟩
            refine Wk.on ?_
            exact pag (V := [a0, a1, a2, a3, a4, a5, a6 ++ [(pos : Int)]]) [(12, 14)] ⟨by show pos + 1 ≤ g.n; omega, hput.symm, by simp only [List.length_cons, List.length_nil]; omega⟩ hp ⟨Or.inr (Or.inl (Or.inr ⟨rfl, rfl, rfl, rfl, rfl, rfl, row_len _ _ _, wk_tail _ _ q⟩)), trivial⟩ ⟨ru, ru, ru, ru, ru, ru, rw_ a6 pos, trivial⟩ (by simp)
        rcases l with _ | l
        · simp only [List.length_cons, List.length_nil] at hrp hs1 hVp h3
          rcases q with _ | q
          · omega
          simp only [putS, rwC, rwH, List.cons_append, List.nil_append, List.length_cons, List.length_nil, Nat.reduceAdd]
          have hg2 : (ints (wL w)).getD (0 + pos * 1) (.int .i64 0) = .int .i64 (7 : Int) := hget
          refine Wk.on ?_
          rw [decide_eq_true (show ((pos : Nat) : Int) < ((g.n : Nat) : Int) by omega)]
          refine Wk.on ?_
          rw [Int.toNat_natCast, hg2]
          refine Wk.on ?_
          refine Tr.draw (md := true) (dpl [] []) tok (by kernel_rfl) (by kernel_rfl) ?_
          refine Wk.on ?_
          exact pag (V := [a0, a1, a2, a3, a4, a5, a6, [(pos : Int)]]) [(13, 14)] ⟨by show pos + 1 ≤ g.n; omega, hput.symm, by simp only [List.length_cons, List.length_nil]; omega⟩ hp ⟨Or.inr (Or.inl (Or.inr ⟨rfl, rfl, rfl, rfl, rfl, rfl, rfl, rfl, wk_tail _ _ q⟩)), trivial⟩ ⟨ru, ru, ru, ru, ru, ru, ru, Or.inl rfl, trivial⟩ (by simp)
        simp only [List.length_cons, List.length_nil] at hrp
        omega
      simp only [List.length_cons] at hVp
      omega
    · obtain rfl : pos = g.n := by omega
      have hV8 : V.length ≤ 8 := by omega
      have hVM : V.length = M := by rw [h2, LV_len, hM]
      obtain rfl : q = 0 := by omega
      rw [← h2]
      refine Wk.on ?_
      rw [decide_eq_false (show ¬ ((g.n : Nat) : Int) < ((g.n : Nat) : Int) by omega)]
      refine Wk.on ?_
      intro _
      clear h2 hfin hb2 hc10 hsucc hM hr
      rcases V with _ | ⟨a0, V⟩
      · simp at hVM; omega
      rcases V with _ | ⟨a1, V⟩
      · simp at hVM; omega
      rcases V with _ | ⟨a2, V⟩
      · refine Wk.on ?_
        exact AH.Fin.new [5, 6, 7, 8, 9, 10, 11, 12, 13] _ _ ⟨rfl, rfl, rfl⟩ rfl ⟨congrArg (fun x => some (ABlk.own x)) (ints_ren _ _).symm, rfl, rfl, congrArg (fun x => some (ABlk.row 3 1 x)) (ints_ren _ _).symm, congrArg (fun x => some (ABlk.row 3 1 x)) (ints_ren _ _).symm, trivial⟩ rfl (by simp [tupA, hpLt, tmLt, AV.lt, AE.lt, AC.lt, LL_cons, LL_nil, idOk, ABlk.lt, ints_LL, GB, tab64_LL, gC, wB, giC, noneB, putB, putS, nils_LL, rwC, rwH, List.replicate]) (by simp [tupA, hpLt, tmLt, AV.lt, AE.lt, AC.lt, LL_cons, LL_nil, idOk, ABlk.lt, ints_LL, GB, tab64_LL, gC, wB, giC, noneB, putB, putS, nils_LL, rwC, rwH, List.replicate])
      rcases V with _ | ⟨a3, V⟩
      · refine Wk.on ?_
        exact AH.Fin.new [5, 6, 7, 8, 9, 10, 11, 12, 13] _ _ ⟨rfl, rfl, rfl⟩ rfl ⟨congrArg (fun x => some (ABlk.own x)) (ints_ren _ _).symm, rfl, rfl, congrArg (fun x => some (ABlk.row 3 1 x)) (ints_ren _ _).symm, congrArg (fun x => some (ABlk.row 3 1 x)) (ints_ren _ _).symm, congrArg (fun x => some (ABlk.row 3 1 x)) (ints_ren _ _).symm, trivial⟩ rfl (by simp [tupA, hpLt, tmLt, AV.lt, AE.lt, AC.lt, LL_cons, LL_nil, idOk, ABlk.lt, ints_LL, GB, tab64_LL, gC, wB, giC, noneB, putB, putS, nils_LL, rwC, rwH, List.replicate]) (by simp [tupA, hpLt, tmLt, AV.lt, AE.lt, AC.lt, LL_cons, LL_nil, idOk, ABlk.lt, ints_LL, GB, tab64_LL, gC, wB, giC, noneB, putB, putS, nils_LL, rwC, rwH, List.replicate])
      rcases V with _ | ⟨a4, V⟩
      · refine Wk.on ?_
        exact AH.Fin.new [5, 6, 7, 8, 9, 10, 11, 12, 13] _ _ ⟨rfl, rfl, rfl⟩ rfl ⟨congrArg (fun x => some (ABlk.own x)) (ints_ren _ _).symm, rfl, rfl, congrArg (fun x => some (ABlk.row 3 1 x)) (ints_ren _ _).symm, congrArg (fun x => some (ABlk.row 3 1 x)) (ints_ren _ _).symm, congrArg (fun x => some (ABlk.row 3 1 x)) (ints_ren _ _).symm, congrArg (fun x => some (ABlk.row 3 1 x)) (ints_ren _ _).symm, trivial⟩ rfl (by simp [tupA, hpLt, tmLt, AV.lt, AE.lt, AC.lt, LL_cons, LL_nil, idOk, ABlk.lt, ints_LL, GB, tab64_LL, gC, wB, giC, noneB, putB, putS, nils_LL, rwC, rwH, List.replicate]) (by simp [tupA, hpLt, tmLt, AV.lt, AE.lt, AC.lt, LL_cons, LL_nil, idOk, ABlk.lt, ints_LL, GB, tab64_LL, gC, wB, giC, noneB, putB, putS, nils_LL, rwC, rwH, List.replicate])
      rcases V with _ | ⟨a5, V⟩
      · refine Wk.on ?_
        exact AH.Fin.new [5, 6, 7, 8, 9, 10, 11, 12, 13] _ _ ⟨rfl, rfl, rfl⟩ rfl ⟨congrArg (fun x => some (ABlk.own x)) (ints_ren _ _).symm, rfl, rfl, congrArg (fun x => some (ABlk.row 3 1 x)) (ints_ren _ _).symm, congrArg (fun x => some (ABlk.row 3 1 x)) (ints_ren _ _).symm, congrArg (fun x => some (ABlk.row 3 1 x)) (ints_ren _ _).symm, congrArg (fun x => some (ABlk.row 3 1 x)) (ints_ren _ _).symm, congrArg (fun x => some (ABlk.row 3 1 x)) (ints_ren _ _).symm, trivial⟩ rfl (by simp [tupA, hpLt, tmLt, AV.lt, AE.lt, AC.lt, LL_cons, LL_nil, idOk, ABlk.lt, ints_LL, GB, tab64_LL, gC, wB, giC, noneB, putB, putS, nils_LL, rwC, rwH, List.replicate]) (by simp [tupA, hpLt, tmLt, AV.lt, AE.lt, AC.lt, LL_cons, LL_nil, idOk, ABlk.lt, ints_LL, GB, tab64_LL, gC, wB, giC, noneB, putB, putS, nils_LL, rwC, rwH, List.replicate])
      rcases V with _ | ⟨a6, V⟩
      · refine Wk.on ?_
        exact AH.Fin.new [5, 6, 7, 8, 9, 10, 11, 12, 13] _ _ ⟨rfl, rfl, rfl⟩ rfl ⟨congrArg (fun x => some (ABlk.own x)) (ints_ren _ _).symm, rfl, rfl, congrArg (fun x => some (ABlk.row 3 1 x)) (ints_ren _ _).symm, congrArg (fun x => some (ABlk.row 3 1 x)) (ints_ren _ _).symm, congrArg (fun x => some (ABlk.row 3 1 x)) (ints_ren _ _).symm, congrArg (fun x => some (ABlk.row 3 1 x)) (ints_ren _ _).symm, congrArg (fun x => some (ABlk.row 3 1 x)) (ints_ren _ _).symm, congrArg (fun x => some (ABlk.row 3 1 x)) (ints_ren _ _).symm, trivial⟩ rfl (by simp [tupA, hpLt, tmLt, AV.lt, AE.lt, AC.lt, LL_cons, LL_nil, idOk, ABlk.lt, ints_LL, GB, tab64_LL, gC, wB, giC, noneB, putB, putS, nils_LL, rwC, rwH, List.replicate]) (by simp [tupA, hpLt, tmLt, AV.lt, AE.lt, AC.lt, LL_cons, LL_nil, idOk, ABlk.lt, ints_LL, GB, tab64_LL, gC, wB, giC, noneB, putB, putS, nils_LL, rwC, rwH, List.replicate])
      rcases V with _ | ⟨a7, V⟩
      · refine Wk.on ?_
        exact AH.Fin.new [5, 6, 7, 8, 9, 10, 11, 12, 13] _ _ ⟨rfl, rfl, rfl⟩ rfl ⟨congrArg (fun x => some (ABlk.own x)) (ints_ren _ _).symm, rfl, rfl, congrArg (fun x => some (ABlk.row 3 1 x)) (ints_ren _ _).symm, congrArg (fun x => some (ABlk.row 3 1 x)) (ints_ren _ _).symm, congrArg (fun x => some (ABlk.row 3 1 x)) (ints_ren _ _).symm, congrArg (fun x => some (ABlk.row 3 1 x)) (ints_ren _ _).symm, congrArg (fun x => some (ABlk.row 3 1 x)) (ints_ren _ _).symm, congrArg (fun x => some (ABlk.row 3 1 x)) (ints_ren _ _).symm, congrArg (fun x => some (ABlk.row 3 1 x)) (ints_ren _ _).symm, trivial⟩ rfl (by simp [tupA, hpLt, tmLt, AV.lt, AE.lt, AC.lt, LL_cons, LL_nil, idOk, ABlk.lt, ints_LL, GB, tab64_LL, gC, wB, giC, noneB, putB, putS, nils_LL, rwC, rwH, List.replicate]) (by simp [tupA, hpLt, tmLt, AV.lt, AE.lt, AC.lt, LL_cons, LL_nil, idOk, ABlk.lt, ints_LL, GB, tab64_LL, gC, wB, giC, noneB, putB, putS, nils_LL, rwC, rwH, List.replicate])
      rcases V with _ | ⟨a8, V⟩
      · refine Wk.on ?_
        exact AH.Fin.new [5, 6, 7, 8, 9, 10, 11, 12, 13] _ _ ⟨rfl, rfl, rfl⟩ rfl ⟨congrArg (fun x => some (ABlk.own x)) (ints_ren _ _).symm, rfl, rfl, congrArg (fun x => some (ABlk.row 3 1 x)) (ints_ren _ _).symm, congrArg (fun x => some (ABlk.row 3 1 x)) (ints_ren _ _).symm, congrArg (fun x => some (ABlk.row 3 1 x)) (ints_ren _ _).symm, congrArg (fun x => some (ABlk.row 3 1 x)) (ints_ren _ _).symm, congrArg (fun x => some (ABlk.row 3 1 x)) (ints_ren _ _).symm, congrArg (fun x => some (ABlk.row 3 1 x)) (ints_ren _ _).symm, congrArg (fun x => some (ABlk.row 3 1 x)) (ints_ren _ _).symm, congrArg (fun x => some (ABlk.row 3 1 x)) (ints_ren _ _).symm, trivial⟩ rfl (by simp [tupA, hpLt, tmLt, AV.lt, AE.lt, AC.lt, LL_cons, LL_nil, idOk, ABlk.lt, ints_LL, GB, tab64_LL, gC, wB, giC, noneB, putB, putS, nils_LL, rwC, rwH, List.replicate]) (by simp [tupA, hpLt, tmLt, AV.lt, AE.lt, AC.lt, LL_cons, LL_nil, idOk, ABlk.lt, ints_LL, GB, tab64_LL, gC, wB, giC, noneB, putB, putS, nils_LL, rwC, rwH, List.replicate])
      simp only [List.length_cons] at hV8
      omega
end Go.Proofs.YtfphkpdobbffeaaDoor

/-
  Contract: put, the search for a barrier.
-/
namespace Go.Proofs.YtfphkpdobbffeaaDoor
open Go Go.AH
set_option maxRecDepth 100000
set_option maxHeartbeats 4000000

def rwP : Nat → List (List Int) → List (Nat × List Int)
  | _, [] => []
  | j, a :: V => (6 + j, a) :: rwP (j + 1) V
theorem rwC_eq : ∀ (V : List (List Int)) (j : Nat), rwC j V = (rwP j V).map fun p => AC.row p.1 p.2.length
  | [], _ => rfl
  | a :: V, j => by rw [rwC, rwP, List.map_cons, rwC_eq V]
theorem rwP_le : ∀ (V : List (List Int)) (j : Nat), ∀ p ∈ rwP j V, 6 + j ≤ p.1
  | [], _, p, h => absurd h List.not_mem_nil
  | a :: V, j, p, h => by
    rcases List.mem_cons.1 h with rfl | h
    · exact Nat.le_refl _
    · have := rwP_le V (j + 1) p h; omega
theorem rwH_lk : ∀ (V : List (List Int)) (j : Nat), ∀ p ∈ rwP j V, lk (rwH j V) p.1 = some (.row 3 1 (ints p.2))
  | [], _, p, h => absurd h List.not_mem_nil
  | a :: V, j, p, h => by
    rcases List.mem_cons.1 h with rfl | h
    · simp [rwH, lk]
    · have := rwP_le V (j + 1) p h
      simp only [rwH, lk]
      rw [if_neg (by omega)]
      exact rwH_lk V (j + 1) p h
theorem rwP_map : ∀ (V : List (List Int)) (j : Nat), (rwP j V).map Prod.snd = V
  | [], _ => rfl
  | a :: V, j => by rw [rwP, List.map_cons, rwP_map V]
/-- The lists, frozen. -/
def tvC (V : List (List Int)) : List AC := V.map fun a => .tv (.leaf 1 a.length a)
theorem tvC_ren (q : Nat → Nat) (V : List (List Int)) : (tvC V).map (AC.ren q) = tvC V := by
  unfold tvC; rw [List.map_map]; rfl
theorem tvC_LL (n : Nat) (V : List (List Int)) : LL n (tvC V) ↔ True := by
  refine ⟨fun _ => trivial, fun _ x hx => ?_⟩
  obtain ⟨a, _, rfl⟩ := List.mem_map.1 hx
  trivial
instance : RenC tab64 := ⟨tab64_ren, fun n => by simp [tab64_LL]⟩
instance (V : List (List Int)) : RenC (tvC V) := ⟨fun q => tvC_ren q V, fun n => (tvC_LL n V).2 trivial⟩
def prH (g : Gm) : Bool × (Nat → Nat) → List (Nat × ABlk)
  | (false, v) => [(2, .own (ints (wL v))), (3, .own [.nils])]
  | (true, v) => [(5, .own (tvC (LV v g.n))), (2, .own (ints (wL v))), (3, .own [.sl 5 0 (mx v g.n) (some (mx v g.n))])]
def PI (g : Gm) (w : Nat → Nat) (i : Nat) (x : Bool × (Nat → Nat)) : Prop :=
  (∀ j, j < i → x.2 j = w j) ∧ (x.1 = true → RG x.2 g.n ∧ Bar g x.2) ∧ (x.1 = false → ∀ u : Nat → Nat, (∀ j, j < i → u j = w j) → RG u g.n → ¬ Bar g u)
def PutSp (g : Gm) (i : Nat) (w : Nat → Nat) : Prop :=
  FSpec Tryd.prog 66 [.c (.int .i64 i), .c (.int .i64 (mx w i : Nat)), .c (.ptr 1 0), .c (.ptr 2 0), .c (.ptr 3 0), .c (.ptr 4 0)] (putB g w) 5 fun r hq k' => ∃ x, PI g w i x ∧ r = .c (.bool x.1) ∧ hq = prH g x ∧ k' = 14
theorem crN_congr {u v : Nat → Nat} {n : Nat} {ws : List (Nat × Nat)} (h : ∀ j, j < n → u j = v j) (hw : ∀ p ∈ ws, p.1 < n ∧ p.2 < n) : crN u ws = crN v ws := by
  refine List.countP_congr fun p hp => ?_
  obtain ⟨h1, h2⟩ := hw p hp
  rw [h _ h1, h _ h2]
theorem ws_ends {g : Gm} (hg : g.ok) : ∀ p ∈ g.ws, p.1 < g.n ∧ p.2 < g.n := fun p hp => by
  obtain ⟨i, hi, rfl⟩ := List.getElem_of_mem hp
  have := hg.ends i hi
  rw [List.getD_eq_getElem?_getD, List.getElem?_eq_getElem hi] at this
  simp only [Option.getD_some] at this
  omega
theorem Bar_congr {g : Gm} (hg : g.ok) {u v : Nat → Nat} (h : ∀ j, j < g.n → u j = v j) : Bar g u ↔ Bar g v := by
  unfold Bar
  rw [mx_congr h, crN_congr h (ws_ends hg)]
theorem put_leaf {g : Gm} (hg : g.ok) {w : Nat → Nat} (hr : RG w g.n) : PutSp g g.n w := by
  by_cases hb : Bar g w
  · refine (leaf_yes hg w hr hb).frz ?_
    rintro R wd u r hp' k' ⟨rfl, rfl, rfl⟩ H hcr hrl hnd hlt
    have ho : lk ((2, ABlk.own (ints (wL w))) :: (3, .own [.sl 5 0 (mx w g.n) (some (mx w g.n))]) :: (5, .own (rwC 0 (LV w g.n))) :: rwH 0 (LV w g.n)) 5 = some (.own ((rwP 0 (LV w g.n)).map fun p => AC.row p.1 p.2.length)) := by rw [← rwC_eq]; rfl
    have h6 : ∀ p ∈ rwP 0 (LV w g.n), 6 ≤ p.1 := fun p hp => rwP_le _ 0 p hp
    obtain ⟨Z, z1, z2, z3⟩ := H.freezeRows (n := 14) (rwP 0 (LV w g.n)) [(2, .own (ints (wL w))), (3, .own [.sl 5 0 (mx w g.n) (some (mx w g.n))])] ho (fun p hp => ⟨3, by
      have := h6 p hp
      simp only [lk]
      rw [if_neg (by omega), if_neg (by omega), if_neg (by omega)]
      exact rwH_lk _ 0 p hp⟩) (fun i b hb => by
      simp only [lk] at hb ⊢
      split at hb
      · rename_i e; subst e
        exact ⟨by rw [if_pos rfl]; exact hb, fun hm => by obtain ⟨p, hp, e⟩ := List.mem_map.1 hm; have := h6 p hp; omega⟩
      · rename_i e1
        split at hb
        · rename_i e; subst e
          exact ⟨by rw [if_neg (by omega), if_pos rfl]; exact hb, fun hm => by obtain ⟨p, hp, e⟩ := List.mem_map.1 hm; have := h6 p hp; omega⟩
        · cases hb) hlt (fun hm => by obtain ⟨p, hp, e⟩ := List.mem_map.1 hm; have := h6 p hp; omega)
    have e5 : ((rwP 0 (LV w g.n)).map fun p => AC.tv (.leaf 1 p.2.length p.2)) = tvC (LV w g.n) := by
      have := congrArg (List.map fun a : List Int => AC.tv (.leaf 1 a.length a)) (rwP_map (LV w g.n) 0)
      rw [List.map_map] at this
      exact this
    rw [e5] at z3
    refine ⟨Z, .c (.bool true), (5, .own (tvC (LV w g.n))) :: [(2, .own (ints (wL w))), (3, .own [.sl 5 0 (mx w g.n) (some (mx w g.n))])], z1, z2, ⟨(true, w), ⟨fun _ _ => rfl, fun _ => ⟨hr, hb⟩, fun h => by cases h⟩, rfl, rfl, rfl⟩, hcr, trivial, z3, by simp, fun i b hb => ?_, fun i b hb hw => ?_⟩
    · simp only [lk] at hb
      split at hb
      · rename_i e; subst e; injection hb with hb; subst hb; exact ⟨.inl (by omega), (tvC_LL _ _).2 trivial⟩
      · split at hb
        · rename_i e; subst e; injection hb with hb; subst hb; exact ⟨.inl (by omega), ints_LL _ _⟩
        · split at hb
          · rename_i e; subst e; injection hb with hb; subst hb; exact ⟨.inl (by omega), (by simp [tupA, hpLt, tmLt, AV.lt, AE.lt, AC.lt, LL_cons, LL_nil, idOk, ABlk.lt, ints_LL, GB, tab64_LL, gC, wB, giC, noneB, putB, tvC_LL])⟩
          · cases hb
    · simp only [lk] at hb ⊢
      split at hb
      · rename_i e; subst e; exact ⟨_, rfl, rfl⟩
      · split at hb
        · rename_i e; subst e; exact ⟨_, rfl, rfl⟩
        · split at hb
          · rename_i e; subst e; exact ⟨_, rfl, rfl⟩
          · cases hb
  · refine (leaf_no hg w hb).imp ?_
    rintro r hq k' ⟨rfl, rfl, rfl⟩
    exact ⟨(false, w), ⟨fun _ _ => rfl, (fun h => by cases h), fun _ u hu _ hbu => hb ((Bar_congr hg hu).1 hbu)⟩, rfl, rfl, rfl⟩
end Go.Proofs.YtfphkpdobbffeaaDoor

/-
  Contract: put, the search for a barrier: the recursion.
-/
namespace Go.Proofs.YtfphkpdobbffeaaDoor
open Go Go.AH
set_option maxRecDepth 100000
set_option maxHeartbeats 4000000

/-- What lies there after a call. -/
def prS (g : Gm) (x : Bool × (Nat → Nat)) : List (Nat × ABlk) := match x with
  | (false, v) => [(0, wB g), (1, .ro (gC g 0)), (4, .ro [.fn 66 [] [1, 2, 3, 4]]), (3, .own [.nils]), (2, .own (ints (wL v)))]
  | (true, v) => [(0, wB g), (1, .ro (gC g 0)), (4, .ro [.fn 66 [] [1, 2, 3, 4]]), (3, .own [.sl 5 0 (mx v g.n) (some (mx v g.n))]), (2, .own (ints (wL v))), (5, .own (tvC (LV v g.n)))]
theorem updW_lt {w : Nat → Nat} {i k j : Nat} (h : j < i) : updW w i k j = w j := if_neg (by omega)
theorem updW_eq {w : Nat → Nat} {i k : Nat} : updW w i k i = k := if_pos rfl
theorem bput_spec {g : Gm} (hg : g.ok) : ∀ (d i : Nat) (w : Nat → Nat), i + d = g.n → RG w i → PutSp g i w := by
  intro d
  induction d with
  | zero => 
    intro i w hi hr
    have e : i = g.n := by omega
    subst e
    exact put_leaf hg hr
  | succ d ih =>
    intro i w hi hr
    have h8 := hg.n8
    have hm8 := mx_le hr i (by omega)
    obtain ⟨m, hm⟩ : ∃ m, m = mx w i := ⟨_, rfl⟩
    unfold PutSp
    rw [← hm] at hm8 ⊢
    have hW8 : ∀ v, (ints (wL v)).length = 8 := fun v => by rw [ints_len, wL_len]
    refine FSpec.of_body tok true Tryd.func66 rfl (by kernel_rfl) (by decide) (by simp [tupA, hpLt, tmLt, AV.lt, AE.lt, AC.lt, LL_cons, LL_nil, idOk, ABlk.lt, ints_LL, GB, tab64_LL, gC, wB, giC, noneB, putB, prH, tvC_LL]) (by simp [tupA, hpLt, tmLt, AV.lt, AE.lt, AC.lt, LL_cons, LL_nil, idOk, ABlk.lt, ints_LL, GB, tab64_LL, gC, wB, giC, noneB, putB, prH, tvC_LL]) (by show 6 ≤ _; decide) ?_
    refine Wk.on ?_
    rw [decide_eq_false (show ¬ ((i : Nat) : Int) = ((g.n : Nat) : Int) by omega)]
    refine Wk.on ?_
    refine Tr.loop (md := true) (X := Nat × (Nat → Nat)) (st := fun x => ⟨[(0, .c (.int .i64 i)), (1, .c (.int .i64 m)), (2, .c (.ptr 1 0)), (3, .c (.ptr 2 0)), (4, .c (.ptr 3 0)), (5, .c (.ptr 4 0)), (50, .c (.int .i64 (m + 1 : Nat))), (51, .c (.int .i64 x.1))], [(0, wB g), (1, .ro (gC g 0)), (4, .ro [.fn 66 [] [1, 2, 3, 4]]), (3, .own [.nils]), (2, .own (ints (wL x.2)))], 5, 66, 5⟩) (inv := fun x => x.1 ≤ m + 1 ∧ (∀ j, j < i → x.2 j = w j) ∧ ∀ u : Nat → Nat, (∀ j, j < i → u j = w j) → RG u g.n → u i < x.1 → ¬ Bar g u) (μ := fun x => m + 1 - x.1) (x0 := (0, w)) (l := []) tok ⟨by omega, fun _ _ => rfl, fun u _ _ h => absurd h (by omega)⟩ ?_ ?_
    · exact Sub.nil ⟨rfl, rfl, (by simp [tab64_LL, gC, wB, giC, noneB, putB, prH, tvC_LL]), rfl, (by simp [tupA, hpLt, tmLt, AV.lt, AE.lt, AC.lt, LL_cons, LL_nil, idOk, ABlk.lt, ints_LL, GB, tab64_LL, gC, wB, giC, noneB, putB, prH, tvC_LL]), (by simp [tupA, hpLt, tmLt, AV.lt, AE.lt, AC.lt, LL_cons, LL_nil, idOk, ABlk.lt, ints_LL, GB, tab64_LL, gC, wB, giC, noneB, putB, prH, tvC_LL])⟩ (by (repeat (first | exact trivial | refine ⟨trivial, ?_⟩ | refine ⟨rfl, ?_⟩))) ⟨rfl, rfl, rfl, rfl, rfl, trivial⟩
    · rintro ⟨k, v⟩ ⟨h1, h2, h3⟩
      dsimp only at h1 h2 h3 ⊢
      by_cases hk : k < m + 1
      · have h8v := hW8 v
        refine Wk.on ?_
        rw [decide_eq_true (show ((k : Nat) : Int) < ((m + 1 : Nat) : Int) by omega)]
        refine Wk.on ?_
        have hset : (ints (wL v)).set (0 + ((i : Nat) : Int).toNat * 1) (.int .i64 (k : Nat)) = ints (wL (updW v i k)) := by rw [Int.toNat_natCast, Nat.zero_add, Nat.mul_one]; exact wL_set v k (by omega)
        have hwj : ∀ j, j < i → updW v i k j = w j := fun j hj => (updW_lt hj).trans (h2 j hj)
        have hmx : mx (updW v i k) (i + 1) = max m (k + 1) := by
          show max (mx (updW v i k) i) (updW v i k i + 1) = _
          rw [updW_eq, mx_congr hwj, ← hm]
        have hmx2 : max ((m : Nat) : Int) ((k : Nat) + 1) = ((mx (updW v i k) (i + 1) : Nat) : Int) := by rw [hmx]; omega
        have hr2 : RG (updW v i k) (i + 1) := fun j hj => by
          by_cases e : j < i
          · rw [hwj j e, mx_congr (v := w) fun x hx => hwj x (by omega)]; exact hr j e
          · obtain rfl : j = i := by omega
            rw [updW_eq, mx_congr hwj, ← hm]; omega
        rw [hset, hmx2]
        refine CallA.any (X := Bool × (Nat → Nat)) (I := PI g (updW v i k) (i + 1)) [0, 1, 2, 3, 4] (r := fun x => .c (.bool x.1)) (hp1 := prH g) (k1 := 14) (fun x => .c (.bool x.1)) (prS g) (ih (i + 1) (updW v i k) (by omega) hr2) (by first | rfl | exact congrArg AV.g (ints_ren _ _) | (simp [ints_ren, AV.ren, ABlk.ren, AC.ren, AE.ren, tvC_ren, qq]; done)) rfl (by (repeat (first | exact trivial | refine ⟨⟨(by first | exact .inl (by decide) | exact .inr (by decide)), (by first | (refine Or.inl ?_; first | rfl | exact congrArg some (ints_ren _ _).symm | exact congrArg ABlk.own (ints_ren _ _).symm | exact congrArg some (tab64_ren _).symm) | rfl | exact congrArg some (ints_ren _ _).symm | exact congrArg ABlk.own (ints_ren _ _).symm | exact congrArg some (tab64_ren _).symm | exact Or.inr ⟨rfl, rfl⟩)⟩, ?_⟩))) (fun x => rfl) (fun x => by rcases x with ⟨_ | _, v⟩ <;> simp [behind, gone, lk, up, del, qq, ABlk.wr, GB, prS, prH, putB, wB, gC, ABlk.ren, AC.ren, ints_ren, tvC_ren]) ?_
        rintro ⟨b, v'⟩ ⟨p1, p2, p3⟩
        dsimp only at p1 p2 p3 ⊢
        have q1 : ∀ j, j < i → v' j = w j := fun j hj => (p1 j (by omega)).trans (hwj j hj)
        cases b
        · refine Wk.on ?_
          have hnext : ∀ u : Nat → Nat, (∀ j, j < i → u j = w j) → RG u g.n → u i < k + 1 → ¬ Bar g u := fun u hu hur huk => by
            by_cases e : u i < k
            · exact h3 u hu hur e
            · refine p3 rfl u (fun j hj => ?_) hur
              by_cases e2 : j < i
              · rw [hu j e2, hwj j e2]
              · obtain rfl : j = i := by omega
                rw [updW_eq]; omega
          refine Again.mk ((k + 1, v')) (Sub.nil ⟨rfl, rfl, (by simp [tab64_LL, gC, wB, giC, noneB, putB, prH, tvC_LL]), rfl, (by simp [tupA, hpLt, tmLt, AV.lt, AE.lt, AC.lt, LL_cons, LL_nil, idOk, ABlk.lt, ints_LL, GB, tab64_LL, gC, wB, giC, noneB, putB, prH, tvC_LL]), (by simp [tupA, hpLt, tmLt, AV.lt, AE.lt, AC.lt, LL_cons, LL_nil, idOk, ABlk.lt, ints_LL, GB, tab64_LL, gC, wB, giC, noneB, putB, prH, tvC_LL])⟩ (by (repeat (first | exact trivial | refine ⟨trivial, ?_⟩ | refine ⟨rfl, ?_⟩))) (by (repeat (first | exact trivial | refine ⟨trivial, ?_⟩ | refine ⟨rfl, ?_⟩)))) (⟨by show k + 1 ≤ m + 1; omega, q1, hnext⟩) (by omega)
        · refine Wk.on ?_
          obtain ⟨s1, s2⟩ := p2 rfl
          exact AH.Fin.new [5, 6, 7, 8, 9, 10, 11, 12, 13] _ _ ⟨(true, v'), ⟨q1, fun _ => ⟨s1, s2⟩, (fun h => by cases h)⟩, rfl, rfl, rfl⟩ rfl ⟨congrArg (fun x => some (ABlk.own x)) (tvC_ren _ _).symm, congrArg (fun x => some (ABlk.own x)) (ints_ren _ _).symm, rfl, trivial⟩ rfl (by simp [tupA, hpLt, tmLt, AV.lt, AE.lt, AC.lt, LL_cons, LL_nil, idOk, ABlk.lt, ints_LL, GB, tab64_LL, gC, wB, giC, noneB, putB, prH, tvC_LL]) (by simp [tupA, hpLt, tmLt, AV.lt, AE.lt, AC.lt, LL_cons, LL_nil, idOk, ABlk.lt, ints_LL, GB, tab64_LL, gC, wB, giC, noneB, putB, prH, tvC_LL])
      · obtain rfl : k = m + 1 := by omega
        have h8v := hW8 v
        refine Wk.on ?_
        rw [decide_eq_false (show ¬ ((m + 1 : Nat) : Int) < ((m + 1 : Nat) : Int) by omega)]
        refine Wk.on ?_
        intro _
        refine Wk.on ?_
        exact AH.Fin.new [5, 6, 7, 8, 9, 10, 11, 12, 13] _ _ ⟨(false, v), ⟨h2, (fun h => by cases h), fun _ u hu hur => h3 u hu hur (by
          have := hur i (by omega)
          rw [mx_congr hu, ← hm] at this
          show u i < m + 1
          omega)⟩, rfl, rfl, rfl⟩ rfl ⟨congrArg (fun x => some (ABlk.own x)) (ints_ren _ _).symm, rfl, trivial⟩ rfl (by simp [tupA, hpLt, tmLt, AV.lt, AE.lt, AC.lt, LL_cons, LL_nil, idOk, ABlk.lt, ints_LL, GB, tab64_LL, gC, wB, giC, noneB, putB, prH, tvC_LL]) (by simp [tupA, hpLt, tmLt, AV.lt, AE.lt, AC.lt, LL_cons, LL_nil, idOk, ABlk.lt, ints_LL, GB, tab64_LL, gC, wB, giC, noneB, putB, prH, tvC_LL])
end Go.Proofs.YtfphkpdobbffeaaDoor

/-
  Contract: Barrier.
-/
namespace Go.Proofs.YtfphkpdobbffeaaDoor
open Go Go.AH
set_option maxRecDepth 100000
set_option maxHeartbeats 4000000

def w0 : Nat → Nat := fun _ => 0
def barR (g : Gm) (x : Bool × (Nat → Nat)) : AV := match x with
  | (false, _) => .t [.c .nils, .c (.bool false), .c (.int .i64 0)]
  | (true, v) => .t [.c (.sl 1 0 (mx v g.n) (some (mx v g.n))), .c (.bool true), .c (.int .i64 0)]
def barH (g : Gm) (x : Bool × (Nat → Nat)) : List (Nat × ABlk) := match x with
  | (false, _) => []
  | (true, v) => [(1, .own (tvC (LV v g.n)))]
def BI (g : Gm) (x : Bool × (Nat → Nat)) : Prop := (x.1 = true → RG x.2 g.n ∧ Bar g x.2) ∧ (x.1 = false → ∀ u : Nat → Nat, RG u g.n → ¬ Bar g u)
/-- What lies there after the search. -/
def baS (g : Gm) (x : Bool × (Nat → Nat)) : List (Nat × ABlk) := match x with
  | (false, v) => [(4, .own [.fn 66 [] [1, 2, 3, 4]]), (1, .own (gC g 0)), (0, wB g), (3, .own [.nils]), (2, .own (ints (wL v)))]
  | (true, v) => [(4, .own [.fn 66 [] [1, 2, 3, 4]]), (1, .own (gC g 0)), (0, wB g), (3, .own [.sl 5 0 (mx v g.n) (some (mx v g.n))]), (2, .own (ints (wL v))), (5, .own (tvC (LV v g.n)))]
theorem Barrier_any {g : Gm} (hg : g.game) : FSpec Tryd.prog 27 [.g (gC g 0)] [(0, wB g)] 1 fun r hq k' => ∃ x, BI g x ∧ r = barR g x ∧ hq = barH g x ∧ k' = 2 := by
  have hput := bput_spec hg.ok g.n 0 w0 (by omega) (fun j hj => absurd hj (by omega))
  refine FSpec.of_body tok true Tryd.func27 rfl (by kernel_rfl) (by decide) (by simp [tupA, hpLt, tmLt, AV.lt, AE.lt, AC.lt, LL_cons, LL_nil, idOk, ABlk.lt, ints_LL, GB, tab64_LL, gC, wB, giC, noneB, putB, prH, barH, barR, tvC_LL]) (by simp [tupA, hpLt, tmLt, AV.lt, AE.lt, AC.lt, LL_cons, LL_nil, idOk, ABlk.lt, ints_LL, GB, tab64_LL, gC, wB, giC, noneB, putB, prH, barH, barR, tvC_LL]) (by show 1 ≤ _; decide) ?_
  refine Wk.on ?_
  refine CallA.ro [0] (.c (.int .i64 0)) (check_ok hg) (by first | rfl | exact congrArg AV.g (ints_ren _ _) | (simp [ints_ren, AV.ren, ABlk.ren, AC.ren, AE.ren, tvC_ren, qq]; done)) rfl (by (repeat (first | exact trivial | refine ⟨⟨(by first | exact .inl (by decide) | exact .inr (by decide)), (by first | (refine Or.inl ?_; first | rfl | exact congrArg some (ints_ren _ _).symm | exact congrArg ABlk.own (ints_ren _ _).symm | exact congrArg some (tab64_ren _).symm) | rfl | exact congrArg some (ints_ren _ _).symm | exact congrArg ABlk.own (ints_ren _ _).symm | exact congrArg some (tab64_ren _).symm | exact Or.inr ⟨rfl, rfl⟩)⟩, ?_⟩))) (by first | rfl | exact congrArg AV.g (ints_ren _ _) | (simp [ints_ren, AV.ren, ABlk.ren, AC.ren, AE.ren, tvC_ren, qq]; done)) ?_
  refine Wk.on ?_
  refine CallA.any (X := Bool × (Nat → Nat)) (I := PI g w0 0) [0, 1, 2, 3, 4] (r := fun x => .c (.bool x.1)) (hp1 := prH g) (k1 := 14) (fun x => .c (.bool x.1)) (baS g) hput (by first | rfl | exact congrArg AV.g (ints_ren _ _) | (simp [ints_ren, AV.ren, ABlk.ren, AC.ren, AE.ren, tvC_ren, qq]; done)) rfl (by (repeat (first | exact trivial | refine ⟨⟨(by first | exact .inl (by decide) | exact .inr (by decide)), (by first | (refine Or.inl ?_; first | rfl | exact congrArg some (ints_ren _ _).symm | exact congrArg ABlk.own (ints_ren _ _).symm | exact congrArg some (tab64_ren _).symm) | rfl | exact congrArg some (ints_ren _ _).symm | exact congrArg ABlk.own (ints_ren _ _).symm | exact congrArg some (tab64_ren _).symm | exact Or.inr ⟨rfl, rfl⟩)⟩, ?_⟩))) (fun x => rfl) (fun x => by rcases x with ⟨_ | _, v⟩ <;> simp [behind, gone, lk, up, del, qq, ABlk.wr, GB, baS, prH, putB, wB, gC, ABlk.ren, AC.ren, ints_ren, tvC_ren] <;> rfl) ?_
  rintro ⟨b, v⟩ ⟨p1, p2, p3⟩
  dsimp only at p1 p2 p3 ⊢
  cases b
  · refine Wk.on ?_
    exact AH.Fin.new [5] _ _ ⟨(false, v), ⟨(fun h => by cases h), fun _ u hu => p3 rfl u (fun j hj => absurd hj (by omega)) hu⟩, rfl, rfl, rfl⟩ rfl trivial rfl (by simp [tupA, hpLt, tmLt, AV.lt, AE.lt, AC.lt, LL_cons, LL_nil, idOk, ABlk.lt, ints_LL, GB, tab64_LL, gC, wB, giC, noneB, putB, prH, barH, barR, tvC_LL]) (by simp [tupA, hpLt, tmLt, AV.lt, AE.lt, AC.lt, LL_cons, LL_nil, idOk, ABlk.lt, ints_LL, GB, tab64_LL, gC, wB, giC, noneB, putB, prH, barH, barR, tvC_LL])
  · refine Wk.on ?_
    obtain ⟨s1, s2⟩ := p2 rfl
    exact AH.Fin.new [5] (.t [.c (.sl 1 0 (mx v g.n) (some (mx v g.n))), .c (.bool true), .c (.int .i64 0)]) [(1, .own (tvC (LV v g.n)))] ⟨(true, v), ⟨fun _ => ⟨s1, s2⟩, (fun h => by cases h)⟩, rfl, rfl, rfl⟩ rfl ⟨congrArg (fun x => some (ABlk.own x)) (tvC_ren _ _).symm, trivial⟩ rfl (by simp [tupA, hpLt, tmLt, AV.lt, AE.lt, AC.lt, LL_cons, LL_nil, idOk, ABlk.lt, ints_LL, GB, tab64_LL, gC, wB, giC, noneB, putB, prH, barH, barR, tvC_LL]) (by simp [tupA, hpLt, tmLt, AV.lt, AE.lt, AC.lt, LL_cons, LL_nil, idOk, ABlk.lt, ints_LL, GB, tab64_LL, gC, wB, giC, noneB, putB, prH, barH, barR, tvC_LL])
end Go.Proofs.YtfphkpdobbffeaaDoor

/-
  Contract: IsBarrier.
-/
namespace Go.Proofs.YtfphkpdobbffeaaDoor
open Go Go.AH
set_option maxRecDepth 100000
set_option maxHeartbeats 4000000

def runE (n i : Nat) : List Int → Nat → (Nat → Nat) → Int → Option (Nat × (Nat → Nat))
  | [], s, w, _ => some (s, w)
  | v :: r, s, w, l => if v ≤ l ∨ (n : Int) ≤ v ∨ s.testBit v.toNat = true then none else runE n i r (s ||| 2 ^ v.toNat) (updW w v.toNat i) v
def runP (n : Nat) : List (List Int) → Nat → Option (List Int) → Nat → (Nat → Nat) → Option (Nat × (Nat → Nat))
  | [], _, _, s, w => some (s, w)
  | p :: r, i, q, s, w => if p = [] ∨ (∃ x, q = some x ∧ 0 ≤ cmpL x p) then none else match runE n i p s w (-1) with
    | none => none
    | some (s, w) => runP n r (i + 1) (some p) s w
def isBar (g : Gm) (V : List (List Int)) : Bool := match runP g.n V 0 none 0 w0 with
  | none => false
  | some (s, w) => decide (s = 2 ^ g.n - 1) && decide (2 ≤ V.length) && decide ((crN w g.ws : Int) < 2 * ((V.length : Int) - 1))
theorem tvC_get {V : List (List Int)} {i : Nat} (h : i < V.length) : (tvC V).getD (0 + i * 1) .nils = .tv (.leaf 1 (V.getD i []).length (V.getD i [])) := by
  rw [Nat.zero_add, Nat.mul_one]
  simp [tvC, List.getD_eq_getElem?_getD, h]
def prevO (V : List (List Int)) (i : Nat) : Option (List Int) := if i = 0 then none else some (V.getD (i - 1) [])
end Go.Proofs.YtfphkpdobbffeaaDoor

/-
  Contract: the reference's HasBarrier.
-/
namespace Go.Proofs.YtfphkpdobbffeaaDoor
open Go Go.AH
set_option maxRecDepth 100000
set_option maxHeartbeats 4000000

def nL (w : Nat → Nat) (n : Nat) : List Int := (List.range n).map fun i => (w i : Int)
theorem nL_len (w : Nat → Nat) (n : Nat) : (nL w n).length = n := by simp [nL]
theorem nL_get (w : Nat → Nat) {n i : Nat} (h : i < n) : (ints (nL w n)).getD (0 + i * 1) (.int .i64 0) = .int .i64 (w i : Nat) := by
  rw [Nat.zero_add, Nat.mul_one, ints_getD]; simp [nL, h, List.getElem?_range]
theorem nL_set (w : Nat → Nat) {n i : Nat} (k : Nat) (h : i < n) : (ints (nL w n)).set i (.int .i64 (k : Nat)) = ints (nL (updW w i k) n) := by
  apply List.ext_getElem?
  intro j
  rw [List.getElem?_set]
  by_cases hj : j < n
  · by_cases e : i = j
    · subst e; simp [ints, nL, updW, h]
    · have e2 : ¬ j = i := fun x => e x.symm
      simp [ints, nL, updW, hj, e, e2]
  · simp [ints, nL, hj]; omega
theorem betweenR_spec {g : Gm} (hg : g.ok) (w : Nat → Nat) : FDet Tryd.prog 72 [.g (gC g 0), .c (.rs 1 0 g.n)] [(0, wB g), (1, .ro (ints (nL w g.n)))] 2 (.c (.int .i64 (crN w g.ws : Nat))) [] 2 := by
  have h8 := hg.n8
  have hl := hg.len
  have hW8 : (ints (nL w g.n)).length = g.n := by rw [ints_len, nL_len]
  refine FSpec.of_body tok true Tryd.func72 rfl (by kernel_rfl) (by decide) (by simp [tupA, hpLt, tmLt, AV.lt, AE.lt, AC.lt, LL_cons, LL_nil, idOk, ABlk.lt, ints_LL, GB, tab64_LL, gC, wB, giC, noneB]) (by simp [tupA, hpLt, tmLt, AV.lt, AE.lt, AC.lt, LL_cons, LL_nil, idOk, ABlk.lt, ints_LL, GB, tab64_LL, gC, wB, giC, noneB]) (by show 2 ≤ _; decide) ?_
  refine Wk.on ?_
  refine Tr.loop (md := true) (X := Nat) (st := fun i => ⟨[(1, .c (.rs 1 0 g.n)), (2, .c (.ptr 2 0)), (5, .c (.int .i64 (crN w (g.ws.take i) : Nat))), (6, .c (.int .i64 i))], [(2, .own (gC g 0)), (0, wB g), (1, .ro (ints (nL w g.n)))], 3, 36, 2⟩) (inv := fun i => i ≤ g.ws.length) (μ := fun i => g.ws.length - i) (x0 := 0) (l := []) tok (by omega) ?_ ?_
  · exact Sub.nil ⟨rfl, rfl, (by simp [tab64_LL, gC, wB, giC, noneB]), rfl, (by simp [tupA, hpLt, tmLt, AV.lt, AE.lt, AC.lt, LL_cons, LL_nil, idOk, ABlk.lt, ints_LL, GB, tab64_LL, gC, wB, giC, noneB]), (by simp [tupA, hpLt, tmLt, AV.lt, AE.lt, AC.lt, LL_cons, LL_nil, idOk, ABlk.lt, ints_LL, GB, tab64_LL, gC, wB, giC, noneB])⟩ (by (repeat (first | exact trivial | refine ⟨trivial, ?_⟩ | refine ⟨rfl, ?_⟩))) ⟨rfl, rfl, rfl, trivial⟩
  · intro i hi
    have hcl : crN w (g.ws.take i) ≤ 10 := Nat.le_trans List.countP_le_length (by rw [List.length_take]; omega)
    by_cases hlt : i < g.ws.length
    · have hs := crN_succ w g.ws hlt
      have he := hg.ends i hlt
      obtain ⟨a, ha⟩ : ∃ a, a = (g.ws.getD i (0, 0)).1 := ⟨_, rfl⟩
      obtain ⟨b, hb⟩ : ∃ b, b = (g.ws.getD i (0, 0)).2 := ⟨_, rfl⟩
      rw [← ha, ← hb] at he hs
      have hlen : 0 + i * 2 + Int.toNat 0 * 1 + 1 ≤ (ints (fl g.ws)).length ∧ 0 + i * 2 + Int.toNat 1 * 1 + 1 ≤ (ints (fl g.ws)).length := by
        rw [ints_len, fl_len]; simp; omega
      have q0 := wget0 g.ws i
      have q1 := wget1 g.ws i
      rw [← ha] at q0
      rw [← hb] at q1
      refine Wk.on ?_
      rw [decide_eq_true (show ((i : Nat) : Int) < ((g.ws.length : Nat) : Int) by omega)]
      refine Wk.on ?_
      refine Tr.draw (md := true) [⟨[], [15, 16, 17, 18, 19, 20, 23, 24, 25, 26, 27, 28, 29, 30, 31], [], [], []⟩, ⟨[], [14, 17, 23, 24, 25, 26, 27, 28, 29, 30, 31], [0], [], []⟩, ⟨[1], [14, 17, 23, 24, 25, 26, 27, 28, 29, 30, 31], [0], [], []⟩, ⟨[], [14, 15, 16, 23, 24, 25, 26, 27, 28, 29, 30, 31], [0, 1, 2], [], []⟩, ⟨[1, 2, 3], [14, 23, 24, 25, 26, 27, 28, 29, 30, 31], [0], [], []⟩, ⟨[1, 2, 3, 4], [14, 23, 24, 25, 26, 27, 28, 29, 30, 31], [0], [], []⟩, ⟨[1, 2, 3, 4, 5], [14, 23, 24, 25, 26, 27, 28, 29, 30, 31], [0], [], []⟩, ⟨[0, 1, 2, 3, 4, 5, 6], [23, 24, 25, 26, 27, 28, 29, 30, 31], [], [], []⟩, ⟨[0, 1, 2, 3, 4, 5, 6, 7], [23, 24, 25, 26, 27, 28, 29, 30, 31], [], [], []⟩, ⟨[], [14, 15, 16, 17, 18, 19, 20, 21, 22, 24, 25, 26, 27, 28, 29], [0, 1, 2, 3, 4, 5, 6, 7, 8], [], []⟩, ⟨[], [14, 15, 16, 17, 18, 19, 20, 21, 22, 23, 26], [0, 1, 2, 3, 4, 5, 6, 7, 8, 9], [], []⟩, ⟨[10], [14, 15, 16, 17, 18, 19, 20, 21, 22, 23, 26], [0, 1, 2, 3, 4, 5, 6, 7, 8, 9], [], []⟩, ⟨[], [14, 15, 16, 17, 18, 19, 20, 21, 22, 23, 24, 25], [0, 1, 2, 3, 4, 5, 6, 7, 8, 9, 10, 11], [], []⟩, ⟨[10, 11, 12], [14, 15, 16, 17, 18, 19, 20, 21, 22, 23], [0, 1, 2, 3, 4, 5, 6, 7, 8, 9], [], []⟩, ⟨[10, 11, 12, 13], [14, 15, 16, 17, 18, 19, 20, 21, 22, 23], [0, 1, 2, 3, 4, 5, 6, 7, 8, 9], [], []⟩, ⟨[10, 11, 12, 13, 14], [14, 15, 16, 17, 18, 19, 20, 21, 22, 23], [0, 1, 2, 3, 4, 5, 6, 7, 8, 9], [], []⟩, ⟨[9, 10, 11, 12, 13, 14, 15], [14, 15, 16, 17, 18, 19, 20, 21, 22], [0, 1, 2, 3, 4, 5, 6, 7, 8], [], []⟩, ⟨[9, 10, 11, 12, 13, 14, 15, 16], [14, 15, 16, 17, 18, 19, 20, 21, 22], [0, 1, 2, 3, 4, 5, 6, 7, 8], [], []⟩] tok (by kernel_rfl) (by kernel_rfl) ?_
      refine Wk.on ?_
      rw [Int.toNat_natCast, q0]
      refine Wk.on ?_
      rw [Int.toNat_natCast, q1]
      refine Wk.on ?_
      rw [Int.toNat_natCast, Int.toNat_natCast, nL_get w (show a < g.n by omega), nL_get w (show b < g.n by omega)]
      refine Wk.on ?_
      refine ⟨fun hc => ?_, fun hc => ?_⟩ <;> (try simp only [decide_eq_true_eq, decide_eq_false_iff_not, Decidable.not_not, Bool.not_true, Bool.not_false, ne_eq, cond_true, cond_false, Bool.not_eq_true', Bool.not_eq_false'] at hc)
      · rw [if_pos (show w a ≠ w b by omega)] at hs
        refine Wk.on ?_
        refine Again.mk (i + 1) (Sub.nil ⟨rfl, rfl, (by simp [tab64_LL, gC, wB, giC, noneB]), rfl, (by simp [tupA, hpLt, tmLt, AV.lt, AE.lt, AC.lt, LL_cons, LL_nil, idOk, ABlk.lt, ints_LL, GB, tab64_LL, gC, wB, giC, noneB]), (by simp [tupA, hpLt, tmLt, AV.lt, AE.lt, AC.lt, LL_cons, LL_nil, idOk, ABlk.lt, ints_LL, GB, tab64_LL, gC, wB, giC, noneB])⟩ ⟨rfl, rfl, by rw [hs]; rfl, rfl, trivial⟩ (by (repeat (first | exact trivial | refine ⟨trivial, ?_⟩ | refine ⟨rfl, ?_⟩)))) (by omega) (by omega)
      · rw [if_neg (show ¬ (w a ≠ w b) by omega)] at hs
        refine Wk.on ?_
        refine Again.mk (i + 1) (Sub.nil ⟨rfl, rfl, (by simp [tab64_LL, gC, wB, giC, noneB]), rfl, (by simp [tupA, hpLt, tmLt, AV.lt, AE.lt, AC.lt, LL_cons, LL_nil, idOk, ABlk.lt, ints_LL, GB, tab64_LL, gC, wB, giC, noneB]), (by simp [tupA, hpLt, tmLt, AV.lt, AE.lt, AC.lt, LL_cons, LL_nil, idOk, ABlk.lt, ints_LL, GB, tab64_LL, gC, wB, giC, noneB])⟩ ⟨rfl, rfl, by rw [hs]; rfl, rfl, trivial⟩ (by (repeat (first | exact trivial | refine ⟨trivial, ?_⟩ | refine ⟨rfl, ?_⟩)))) (by omega) (by omega)
    · have e : i = g.ws.length := by omega
      subst e
      refine Wk.on ?_
      rw [decide_eq_false (show ¬ (((g.ws.length : Nat) : Int) < ((g.ws.length : Nat) : Int)) by omega)]
      refine Wk.on ?_
      intro _
      refine Wk.on ?_
      rw [List.take_length]
      exact AH.Fin.nil2 ⟨rfl, rfl, rfl⟩
def hasB (g : Gm) : Nat → Nat → (Nat → Nat) → Nat → Bool
  | 0, _, w, m => decide (2 ≤ m) && decide ((crN w g.ws : Int) < 2 * ((m : Int) - 1))
  | d + 1, i, w, m => (List.range (m + 1)).any fun k => hasB g d (i + 1) (updW w i k) (max m (k + 1))
def DvSp (g : Gm) (d i : Nat) (w : Nat → Nat) (m : Nat) : Prop := FDet Tryd.prog 70 [.g (gC g 0), .c (.rs 1 0 g.n), .c (.int .i64 i), .c (.int .i64 m)] [(0, wB g), (1, .ro (ints (nL w g.n)))] 2 (.c (.bool (hasB g d i w m))) [] 2
theorem div_spec {g : Gm} (hg : g.ok) : ∀ (d i : Nat) (w : Nat → Nat) (m : Nat), i + d = g.n → m ≤ i → DvSp g d i w m := by
  intro d
  induction d with
  | zero =>
    intro i w m hi hm
    have h8 := hg.n8
    have e : i = g.n := by omega
    subst e
    unfold DvSp
    rw [hasB]
    have hcr : crN w g.ws ≤ 10 := Nat.le_trans List.countP_le_length hg.len
    refine FSpec.of_body tok true Tryd.func70 rfl (by kernel_rfl) (by decide) (by simp [tupA, hpLt, tmLt, AV.lt, AE.lt, AC.lt, LL_cons, LL_nil, idOk, ABlk.lt, ints_LL, GB, tab64_LL, gC, wB, giC, noneB]) (by simp [tupA, hpLt, tmLt, AV.lt, AE.lt, AC.lt, LL_cons, LL_nil, idOk, ABlk.lt, ints_LL, GB, tab64_LL, gC, wB, giC, noneB]) (by show 4 ≤ _; decide) ?_
    refine Wk.on ?_
    rw [decide_eq_true (show ((g.n : Nat) : Int) = ((g.n : Nat) : Int) from rfl)]
    refine Wk.on ?_
    by_cases c : 2 ≤ m
    · rw [decide_eq_true (show (2 : Int) ≤ ((m : Nat) : Int) by omega)]
      refine Wk.on ?_
      refine CallA.ro2 [0, 1] (.c (.int .i64 (crN w g.ws : Nat))) (betweenR_spec hg w) ?_
      refine Wk.on ?_
      exact AH.Fin.nil2 ⟨by rw [decide_eq_true c]; rfl, rfl, rfl⟩
    · rw [decide_eq_false (show ¬ (2 : Int) ≤ ((m : Nat) : Int) by omega)]
      refine Wk.on ?_
      exact AH.Fin.nil2 ⟨by rw [decide_eq_false c]; rfl, rfl, rfl⟩
  | succ d ih =>
    intro i w m hi hm
    have h8 := hg.n8
    unfold DvSp
    obtain ⟨B, hB⟩ : ∃ B, B = hasB g (d + 1) i w m := ⟨_, rfl⟩
    rw [← hB]
    rw [hasB] at hB
    refine FSpec.of_body tok true Tryd.func70 rfl (by kernel_rfl) (by decide) (by simp [tupA, hpLt, tmLt, AV.lt, AE.lt, AC.lt, LL_cons, LL_nil, idOk, ABlk.lt, ints_LL, GB, tab64_LL, gC, wB, giC, noneB]) (by simp [tupA, hpLt, tmLt, AV.lt, AE.lt, AC.lt, LL_cons, LL_nil, idOk, ABlk.lt, ints_LL, GB, tab64_LL, gC, wB, giC, noneB]) (by show 4 ≤ _; decide) ?_
    refine Wk.on ?_
    rw [decide_eq_false (show ¬ ((i : Nat) : Int) = ((g.n : Nat) : Int) by omega)]
    refine Wk.on ?_
    refine Tr.loop (md := true) (X := Nat) (st := fun k => ⟨[(1, .c (.rs 1 0 g.n)), (2, .c (.int .i64 i)), (3, .c (.int .i64 m)), (4, .c (.ptr 2 0)), (9, .c (.int .i64 k))], [(2, .own (gC g 0)), (0, wB g), (1, .ro (ints (nL w g.n)))], 3, 47, 2⟩) (inv := fun k => k ≤ m + 1 ∧ ∀ x, x < k → hasB g d (i + 1) (updW w i x) (max m (x + 1)) = false) (μ := fun k => m + 1 - k) (x0 := 0) (l := []) tok ⟨by omega, fun x hx => absurd hx (by omega)⟩ ?_ ?_
    · exact Sub.nil ⟨rfl, rfl, (by simp [tab64_LL, gC, wB, giC, noneB]), rfl, (by simp [tupA, hpLt, tmLt, AV.lt, AE.lt, AC.lt, LL_cons, LL_nil, idOk, ABlk.lt, ints_LL, GB, tab64_LL, gC, wB, giC, noneB]), (by simp [tupA, hpLt, tmLt, AV.lt, AE.lt, AC.lt, LL_cons, LL_nil, idOk, ABlk.lt, ints_LL, GB, tab64_LL, gC, wB, giC, noneB])⟩ (by (repeat (first | exact trivial | refine ⟨trivial, ?_⟩ | refine ⟨rfl, ?_⟩))) (by (repeat (first | exact trivial | refine ⟨trivial, ?_⟩ | refine ⟨rfl, ?_⟩)))
    · rintro k ⟨h1, h2⟩
      by_cases hk : k < m + 1
      · have hN := nL_len w g.n
        refine Wk.on ?_
        rw [decide_eq_true (show ((k : Nat) : Int) ≤ ((m : Nat) : Int) by omega)]
        refine Wk.on ?_
        have htk : ∀ z, z = 1 → List.take (g.n * z) (List.drop 0 (ints (nL w g.n))) = ints (nL w g.n) := fun z hz => by rw [hz, Nat.mul_one, List.drop_zero, List.take_of_length_le (by rw [ints_len, hN]; omega)]
        refine ⟨by rw [ints_len, nL_len]; show 0 + g.n * 1 ≤ g.n; omega, ?_⟩
        refine Wk.on ?_
        refine ⟨⟨Nat.le_of_ble_eq_true rfl, by show ((g.n : Nat) : Int) * 8 ≤ _; omega, by omega⟩, fun h0 => absurd h0 (by have := hg.n2; omega), fun _ => ?_⟩
        rw [htk _ rfl]
        refine Wk.on ?_
        refine ⟨⟨rfl, by rw [Int.toNat_natCast, ints_len, nL_len]; omega⟩, ?_⟩
        refine Wk.on ?_
        have hset : (ints (nL w g.n)).set (((i : Nat) : Int).toNat * 1) (.int .i64 (k : Nat)) = ints (nL (updW w i k) g.n) := by rw [Int.toNat_natCast, Nat.mul_one]; exact nL_set w k (by omega)
        have hmx : max ((m : Nat) : Int) ((k : Nat) + 1) = ((max m (k + 1) : Nat) : Int) := by omega
        have hih := ih (i + 1) (updW w i k) (max m (k + 1)) (by omega) (by omega)
        have hwk : FDet Tryd.prog 70 [.g (gC g 0), .c (.row 1 g.n), .c (.int .i64 (i + 1 : Nat)), .c (.int .i64 (max m (k + 1) : Nat))] [(0, wB g), (1, .row 3 1 (ints (nL (updW w i k) g.n)))] 2 (.c (.bool (hasB g d (i + 1) (updW w i k) (max m (k + 1))))) [] 2 :=
          FDet.wk hih ⟨Or.inl rfl, ⟨⟨rfl, rfl, rfl⟩, trivial⟩, rfl, rfl, trivial⟩ ⟨Or.inl rfl, Or.inl rfl, trivial⟩
        rw [hset, hmx]
        refine CallA.det2 [0, 3] (.c (.bool (hasB g d (i + 1) (updW w i k) (max m (k + 1))))) ([(2, .own (gC g 0)), (0, wB g), (1, .ro (ints (nL w g.n)))]) (hwk) ?_
        refine Wk.on ?_
        cases hc : hasB g d (i + 1) (updW w i k) (max m (k + 1)) with
        | true =>
          refine Wk.on ?_
          have hBt : B = true := by rw [hB, List.any_eq_true]; exact ⟨k, List.mem_range.2 hk, hc⟩
          exact AH.Fin.nil2 ⟨by rw [hBt]; rfl, rfl, rfl⟩
        | false =>
          have hnext : ∀ x, x < k + 1 → hasB g d (i + 1) (updW w i x) (max m (x + 1)) = false := fun x hx => by
            by_cases e : x < k
            · exact h2 x e
            · obtain rfl : x = k := by omega
              exact hc
          refine Wk.on ?_
          refine Again.mk (k + 1) (Sub.nil ⟨rfl, rfl, (by simp [tab64_LL, gC, wB, giC, noneB]), rfl, (by simp [tupA, hpLt, tmLt, AV.lt, AE.lt, AC.lt, LL_cons, LL_nil, idOk, ABlk.lt, ints_LL, GB, tab64_LL, gC, wB, giC, noneB]), (by simp [tupA, hpLt, tmLt, AV.lt, AE.lt, AC.lt, LL_cons, LL_nil, idOk, ABlk.lt, ints_LL, GB, tab64_LL, gC, wB, giC, noneB])⟩ (by (repeat (first | exact trivial | refine ⟨trivial, ?_⟩ | refine ⟨rfl, ?_⟩))) (by (repeat (first | exact trivial | refine ⟨trivial, ?_⟩ | refine ⟨rfl, ?_⟩)))) (⟨by omega, hnext⟩) (by omega)
      · obtain rfl : k = m + 1 := by omega
        have hBf : B = false := by
          rw [hB, List.any_eq_false]
          intro x hx
          rw [h2 x (List.mem_range.1 hx)]; decide
        refine Wk.on ?_
        rw [decide_eq_false (show ¬ ((m + 1 : Nat) : Int) ≤ ((m : Nat) : Int) by omega)]
        refine Wk.on ?_
        exact AH.Fin.nil2 ⟨by rw [hBf]; rfl, rfl, rfl⟩
theorem rep_zero : ∀ M : Nat, rep M [AC.int .i64 0] = List.replicate M (.int .i64 0)
  | 0 => rfl
  | M + 1 => by rw [List.replicate_succ, ← rep_zero M]; rfl
theorem nL_w0 (n : Nat) : ints (nL w0 n) = List.replicate n (.int .i64 0) := by
  apply List.ext_getElem?
  intro j
  by_cases h : j < n
  · simp [ints, nL, w0, h, List.getElem?_replicate]
  · simp [ints, nL, h, List.getElem?_replicate]
theorem HasBarrier_spec {g : Gm} (hg : g.ok) : FDet Tryd.prog 29 [.g (gC g 0)] [(0, wB g)] 1 (.c (.bool (hasB g g.n 0 w0 0))) [] 1 := by
  have h8 := hg.n8
  have hd := div_spec hg g.n 0 w0 0 (by omega) (by omega)
  have hwk : FDet Tryd.prog 70 [.g (gC g 0), .c (.sl 1 0 g.n (some g.n)), .c (.int .i64 0), .c (.int .i64 0)] [(0, wB g), (1, .own (ints (nL w0 g.n)))] 2 (.c (.bool (hasB g g.n 0 w0 0))) [] 2 :=
    FDet.wk hd ⟨Or.inl rfl, ⟨rfl, rfl, rfl⟩, rfl, rfl, trivial⟩ ⟨Or.inl rfl, Or.inl rfl, trivial⟩
  refine FSpec.of_body tok true Tryd.func29 rfl (by kernel_rfl) (by decide) (by simp [tupA, hpLt, tmLt, AV.lt, AE.lt, AC.lt, LL_cons, LL_nil, idOk, ABlk.lt, ints_LL, GB, tab64_LL, gC, wB, giC, noneB]) (by simp [tupA, hpLt, tmLt, AV.lt, AE.lt, AC.lt, LL_cons, LL_nil, idOk, ABlk.lt, ints_LL, GB, tab64_LL, gC, wB, giC, noneB]) (by show 1 ≤ _; decide) ?_
  refine Wk.on ?_
  refine Tr.draw (md := true) [⟨[], [4, 5, 6], [], [], []⟩, ⟨[], [3], [0], [], []⟩, ⟨[1], [3], [0], [], []⟩, ⟨[1, 2], [3], [0], [], []⟩] tok (by kernel_rfl) (by kernel_rfl) ?_
  refine Wk.on ?_
  have hrep : ∀ z, z = [AC.int .i64 0] → rep ((g.n : Nat) : Int).toNat z = ints (nL w0 g.n) := fun z hz => by rw [hz, Int.toNat_natCast, rep_zero, nL_w0]
  refine ⟨⟨Nat.le_of_ble_eq_true rfl, Nat.le_of_ble_eq_true rfl, rfl, by omega, rfl, by show (8 : Int) * (g.n : Int) ≤ _; omega, by omega⟩, ?_⟩
  refine Wk.on ?_
  rw [hrep _ rfl]
  refine Wk.on ?_
  refine CallA.det2 [0, 2] (.c (.bool (hasB g g.n 0 w0 0))) ([(1, .own (gC g 0)), (0, wB g)]) (hwk) ?_
  refine Wk.on ?_
  exact AH.Fin.nil2 ⟨rfl, rfl, rfl⟩
end Go.Proofs.YtfphkpdobbffeaaDoor
