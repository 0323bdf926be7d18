/-
  The law SwitchSmaller, as a contract.
-/
import Derived.Test.YtfphkpdobbffeaaDoorSw6
set_option linter.unusedSimpArgs false
set_option linter.unusedVariables false
namespace Go.Proofs.YtfphkpdobbffeaaDoor
open Go Go.AH Go.Wire
set_option maxRecDepth 100000
set_option maxHeartbeats 1000000

def zeroG : List AC := [.int .i64 0, .int .i64 0, .int .i64 0, .nils]
theorem zero_all (p : Nat → Prop) : zeroT.all p := by
  intro e he
  simp only [List.mem_cons, List.not_mem_nil, or_false] at he
  rcases he with rfl | rfl
  · intro x hx
    simp only [List.mem_cons, List.not_mem_nil, or_false] at hx
    rcases hx with rfl | rfl | rfl | rfl <;> trivial
  · trivial
theorem int1 (n : Int) (p : Nat → Prop) : ∀ v ∈ [AV.c (.int .i64 n)], v.all p := by
  intro v hv; simp at hv; subst hv; trivial
theorem withoutN {g : Gm} (hg : g.game) (h : g.ws = []) (n : Int) : FDet Tryd.prog 37 [.g (gN g), .c (.int .i64 n)] [(100002, .ro tab64)] 1 zeroT [] 1 :=
  nilR h (without_bad hg (by rw [h]; show n < 0 ∨ ((0 : Nat) : Int) ≤ n; omega)) ⟨rfl, trivial⟩ ⟨rfl, trivial⟩ (int1 _ _) (zero_all _)
theorem shorterN {g : Gm} (hg : g.game) (h : g.ws = []) (n : Int) : FDet Tryd.prog 52 [.g (gN g), .c (.int .i64 n)] [(100002, .ro tab64)] 1 zeroT [] 1 :=
  nilR h (shorter_bad hg (by rw [h]; show n < 0 ∨ ((0 : Nat) : Int) ≤ n; omega)) ⟨rfl, trivial⟩ ⟨rfl, trivial⟩ (int1 _ _) (zero_all _)
theorem same_00 : FDet Tryd.prog 38 [.g zeroG, .g zeroG] [] 0 (.c (.bool true)) [] 0 := same_NN ⟨0, 0, 0, []⟩
theorem as_nil {g h : Gm} {fn : FuncId} {args : List AV} {hp : List (Nat × ABlk)} (hn : h.ws = []) (hd : FDet Tryd.prog fn args hp 1 (tameR h) (tameH h) (tameK h)) : FDet Tryd.prog fn args hp 1 (.g (gN h)) [] 1 := by
  rw [show tameR h = .g (gN h) by rw [tameR, hn], show tameH h = [] by rw [tameH, hn], show tameK h = 1 by rw [tameK, hn]] at hd
  exact hd
theorem as_rs {h : Gm} {fn : FuncId} {args : List AV} {hp : List (Nat × ABlk)} (hn : ¬ h.ws = []) (hd : FDet Tryd.prog fn args hp 1 (tameR h) (tameH h) (tameK h)) : FDet Tryd.prog fn args hp 1 (.g (gC h 1)) [(1, .row 60 2 (ints (fl h.ws)))] 2 := by
  obtain ⟨w, l, hw⟩ : ∃ w l, h.ws = w :: l := by
    cases hq : h.ws with
    | nil => exact absurd hq hn
    | cons w l => exact ⟨w, l, rfl⟩
  rw [show tameR h = .g (gR h 1) by rw [tameR, hw], show tameH h = [(1, .row 60 2 (ints (fl h.ws)))] by rw [tameH, hw], show tameK h = 2 by rw [tameK, hw]] at hd
  exact FDet.post hd _ _ (.inr ⟨rfl, rfl, rfl, ⟨⟨rfl, rfl, rfl⟩, trivial⟩, trivial⟩) ⟨⟨⟨rfl, rfl⟩, .inl rfl⟩, trivial⟩ (gC_LL (.inl (by decide))) (by simp [tupA, hpLt, tmLt, AV.lt, AE.lt, AC.lt, LL_cons, LL_nil, idOk, ABlk.lt, ints_LL, GB, tab64_LL, gC, wB, giC, noneB, gst, tC, pC, gN, gR, rC, rB, zeroT, zeroG]) rfl
theorem smaller_nil (x : Rw) (n : Int) (h4 : x.ws.length ≤ 9223372036854775807) (hws : (tame x 8 10).ws = []) : FDet Tryd.prog 15 [.g (rC x 0), .c (.int .i64 n)] [(0, rB x), (100002, .ro tab64), (100000, noneB)] 1 (.c (.bool true)) [] 1 := by
  have hgm := tame_game x (pl := 8) (most := 10) (by omega) (by omega) (by omega)
  have ht := tame_nil (x := x) (pl := 8) (most := 10) (by omega) (by omega) (by omega) h4 hws
  generalize tame x 8 10 = g at *
  have hw := fun n => withoutN hgm hws n
  have hs := fun n => shorterN hgm hws n
  refine FSpec.of_body tok true Tryd.func15 rfl (by kernel_rfl) (by decide) (by simp [tupA, hpLt, tmLt, AV.lt, AE.lt, AC.lt, LL_cons, LL_nil, idOk, ABlk.lt, ints_LL, GB, tab64_LL, gC, wB, giC, noneB, gst, tC, pC, gN, gR, rC, rB, zeroT, zeroG]) (by simp [tupA, hpLt, tmLt, AV.lt, AE.lt, AC.lt, LL_cons, LL_nil, idOk, ABlk.lt, ints_LL, GB, tab64_LL, gC, wB, giC, noneB, gst, tC, pC, gN, gR, rC, rB, zeroT, zeroG]) (by show 2 ≤ _; decide) ?_
  refine Wk.on ?_
  refine CallA.ro [0] (.g (gN g)) (ht) (by first | rfl | exact congrArg AV.g (ints_ren _ _) | (simp [ints_ren, AV.ren, ABlk.ren, AC.ren, AE.ren, qq]; done)) rfl (by (repeat (first | exact trivial | refine ⟨⟨(by first | exact .inl (by decide) | exact .inr (by decide)), (by first | (refine Or.inl ?_; first | rfl | exact congrArg some (ints_ren _ _).symm | exact congrArg ABlk.own (ints_ren _ _).symm | exact congrArg some (tab64_ren _).symm | exact congrArg (ABlk.row _ _) (ints_ren _ _).symm) | rfl | exact congrArg some (ints_ren _ _).symm | exact congrArg ABlk.own (ints_ren _ _).symm | exact congrArg some (tab64_ren _).symm | exact congrArg (ABlk.row _ _) (ints_ren _ _).symm | exact Or.inr ⟨rfl, rfl⟩)⟩, ?_⟩))) (by first | rfl | exact congrArg AV.g (ints_ren _ _) | (simp [ints_ren, AV.ren, ABlk.ren, AC.ren, AE.ren, qq]; done)) ?_
  refine Wk.on ?_
  refine CallA.ro [0] (.g (gN g)) (given_nil) (by first | rfl | exact congrArg AV.g (ints_ren _ _) | (simp [ints_ren, AV.ren, ABlk.ren, AC.ren, AE.ren, qq]; done)) rfl (by (repeat (first | exact trivial | refine ⟨⟨(by first | exact .inl (by decide) | exact .inr (by decide)), (by first | (refine Or.inl ?_; first | rfl | exact congrArg some (ints_ren _ _).symm | exact congrArg ABlk.own (ints_ren _ _).symm | exact congrArg some (tab64_ren _).symm | exact congrArg (ABlk.row _ _) (ints_ren _ _).symm) | rfl | exact congrArg some (ints_ren _ _).symm | exact congrArg ABlk.own (ints_ren _ _).symm | exact congrArg some (tab64_ren _).symm | exact congrArg (ABlk.row _ _) (ints_ren _ _).symm | exact Or.inr ⟨rfl, rfl⟩)⟩, ?_⟩))) (by first | rfl | exact congrArg AV.g (ints_ren _ _) | (simp [ints_ren, AV.ren, ABlk.ren, AC.ren, AE.ren, qq]; done)) ?_
  refine Wk.on ?_
  refine Tr.loop (md := true) (X := Nat × Int) (st := fun q => ⟨[(1, .c (.int .i64 q.2)), (5, .c (.ptr 2 0)), (6, .c (.ptr 3 0)), (7, .c (.int .i64 q.1))], [(3, .own (gN g)), (2, .own (gN g)), (1, .own (rC x 0)), (0, rB x), (100002, .ro tab64), (100000, noneB)], 4, 116, 1⟩) (inv := fun q => q.1 ≤ 2) (μ := fun q => 2 - q.1) (x0 := (0, n)) (l := []) tok (by show 0 ≤ 2; omega) ?_ ?_
  · exact Sub.nil ⟨rfl, rfl, (by simp [tab64_LL, gC, wB, giC, noneB, gst, tC, pC, gN, gR, rC, rB, zeroT, zeroG]), rfl, (by simp [tupA, hpLt, tmLt, AV.lt, AE.lt, AC.lt, LL_cons, LL_nil, idOk, ABlk.lt, ints_LL, GB, tab64_LL, gC, wB, giC, noneB, gst, tC, pC, gN, gR, rC, rB, zeroT, zeroG]), (by simp [tupA, hpLt, tmLt, AV.lt, AE.lt, AC.lt, LL_cons, LL_nil, idOk, ABlk.lt, ints_LL, GB, tab64_LL, gC, wB, giC, noneB, gst, tC, pC, gN, gR, rC, rB, zeroT, zeroG])⟩ (by (repeat (first | exact trivial | refine ⟨trivial, ?_⟩ | refine ⟨rfl, ?_⟩))) (by (repeat (first | exact trivial | refine ⟨trivial, ?_⟩ | refine ⟨rfl, ?_⟩)))
  · rintro ⟨i, n⟩ hi
    dsimp only at hi ⊢
    by_cases hi2 : i < 2
    · have hwn := hw n
      have hsn := hs n
      refine Wk.on ?_
      rw [decide_eq_true (show ((i : Nat) : Int) < 2 by omega)]
      refine Wk.on ?_
      refine CallA.ro [0] (zeroT) (hwn) (by first | rfl | exact congrArg AV.g (ints_ren _ _) | (simp [ints_ren, AV.ren, ABlk.ren, AC.ren, AE.ren, qq]; done)) rfl (by (repeat (first | exact trivial | refine ⟨⟨(by first | exact .inl (by decide) | exact .inr (by decide)), (by first | (refine Or.inl ?_; first | rfl | exact congrArg some (ints_ren _ _).symm | exact congrArg ABlk.own (ints_ren _ _).symm | exact congrArg some (tab64_ren _).symm | exact congrArg (ABlk.row _ _) (ints_ren _ _).symm) | rfl | exact congrArg some (ints_ren _ _).symm | exact congrArg ABlk.own (ints_ren _ _).symm | exact congrArg some (tab64_ren _).symm | exact congrArg (ABlk.row _ _) (ints_ren _ _).symm | exact Or.inr ⟨rfl, rfl⟩)⟩, ?_⟩))) (by first | rfl | exact congrArg AV.g (ints_ren _ _) | (simp [ints_ren, AV.ren, ABlk.ren, AC.ren, AE.ren, qq]; done)) ?_
      refine Wk.on ?_
      refine CallA.ro [0] (zeroT) (hsn) (by first | rfl | exact congrArg AV.g (ints_ren _ _) | (simp [ints_ren, AV.ren, ABlk.ren, AC.ren, AE.ren, qq]; done)) rfl (by (repeat (first | exact trivial | refine ⟨⟨(by first | exact .inl (by decide) | exact .inr (by decide)), (by first | (refine Or.inl ?_; first | rfl | exact congrArg some (ints_ren _ _).symm | exact congrArg ABlk.own (ints_ren _ _).symm | exact congrArg some (tab64_ren _).symm | exact congrArg (ABlk.row _ _) (ints_ren _ _).symm) | rfl | exact congrArg some (ints_ren _ _).symm | exact congrArg ABlk.own (ints_ren _ _).symm | exact congrArg some (tab64_ren _).symm | exact congrArg (ABlk.row _ _) (ints_ren _ _).symm | exact Or.inr ⟨rfl, rfl⟩)⟩, ?_⟩))) (by first | rfl | exact congrArg AV.g (ints_ren _ _) | (simp [ints_ren, AV.ren, ABlk.ren, AC.ren, AE.ren, qq]; done)) ?_
      refine Wk.on ?_
      by_cases hn : n < 0
      · rw [decide_eq_true hn]
        refine Wk.on ?_
        refine CallA.ro [] (.c (.bool true)) (same_00) (by first | rfl | exact congrArg AV.g (ints_ren _ _) | (simp [ints_ren, AV.ren, ABlk.ren, AC.ren, AE.ren, qq]; done)) rfl (by (repeat (first | exact trivial | refine ⟨⟨(by first | exact .inl (by decide) | exact .inr (by decide)), (by first | (refine Or.inl ?_; first | rfl | exact congrArg some (ints_ren _ _).symm | exact congrArg ABlk.own (ints_ren _ _).symm | exact congrArg some (tab64_ren _).symm | exact congrArg (ABlk.row _ _) (ints_ren _ _).symm) | rfl | exact congrArg some (ints_ren _ _).symm | exact congrArg ABlk.own (ints_ren _ _).symm | exact congrArg some (tab64_ren _).symm | exact congrArg (ABlk.row _ _) (ints_ren _ _).symm | exact Or.inr ⟨rfl, rfl⟩)⟩, ?_⟩))) (by first | rfl | exact congrArg AV.g (ints_ren _ _) | (simp [ints_ren, AV.ren, ABlk.ren, AC.ren, AE.ren, qq]; done)) ?_
        refine Wk.on ?_
        refine CallA.ro [] (.c (.bool true)) (same_00) (by first | rfl | exact congrArg AV.g (ints_ren _ _) | (simp [ints_ren, AV.ren, ABlk.ren, AC.ren, AE.ren, qq]; done)) rfl (by (repeat (first | exact trivial | refine ⟨⟨(by first | exact .inl (by decide) | exact .inr (by decide)), (by first | (refine Or.inl ?_; first | rfl | exact congrArg some (ints_ren _ _).symm | exact congrArg ABlk.own (ints_ren _ _).symm | exact congrArg some (tab64_ren _).symm | exact congrArg (ABlk.row _ _) (ints_ren _ _).symm) | rfl | exact congrArg some (ints_ren _ _).symm | exact congrArg ABlk.own (ints_ren _ _).symm | exact congrArg some (tab64_ren _).symm | exact congrArg (ABlk.row _ _) (ints_ren _ _).symm | exact Or.inr ⟨rfl, rfl⟩)⟩, ?_⟩))) (by first | rfl | exact congrArg AV.g (ints_ren _ _) | (simp [ints_ren, AV.ren, ABlk.ren, AC.ren, AE.ren, qq]; done)) ?_
        refine Wk.on ?_
        refine ⟨⟨wrap_nn _, by decide⟩, ?_⟩
        refine Wk.on ?_
        refine Again.mk ((i + 1, _)) (Sub.nil ⟨rfl, rfl, (by simp [tab64_LL, gC, wB, giC, noneB, gst, tC, pC, gN, gR, rC, rB, zeroT, zeroG]), rfl, (by simp [tupA, hpLt, tmLt, AV.lt, AE.lt, AC.lt, LL_cons, LL_nil, idOk, ABlk.lt, ints_LL, GB, tab64_LL, gC, wB, giC, noneB, gst, tC, pC, gN, gR, rC, rB, zeroT, zeroG]), (by simp [tupA, hpLt, tmLt, AV.lt, AE.lt, AC.lt, LL_cons, LL_nil, idOk, ABlk.lt, ints_LL, GB, tab64_LL, gC, wB, giC, noneB, gst, tC, pC, gN, gR, rC, rB, zeroT, zeroG])⟩ (by (repeat (first | exact trivial | refine ⟨trivial, ?_⟩ | refine ⟨rfl, ?_⟩))) (by (repeat (first | exact trivial | refine ⟨trivial, ?_⟩ | refine ⟨rfl, ?_⟩)))) (by show i + 1 ≤ 2; omega) (by omega)
      · rw [decide_eq_false hn]
        refine Wk.on ?_
        rw [decide_eq_true (show (0 : Int) ≤ n by omega)]
        refine Wk.on ?_
        refine CallA.ro [] (.c (.bool true)) (same_00) (by first | rfl | exact congrArg AV.g (ints_ren _ _) | (simp [ints_ren, AV.ren, ABlk.ren, AC.ren, AE.ren, qq]; done)) rfl (by (repeat (first | exact trivial | refine ⟨⟨(by first | exact .inl (by decide) | exact .inr (by decide)), (by first | (refine Or.inl ?_; first | rfl | exact congrArg some (ints_ren _ _).symm | exact congrArg ABlk.own (ints_ren _ _).symm | exact congrArg some (tab64_ren _).symm | exact congrArg (ABlk.row _ _) (ints_ren _ _).symm) | rfl | exact congrArg some (ints_ren _ _).symm | exact congrArg ABlk.own (ints_ren _ _).symm | exact congrArg some (tab64_ren _).symm | exact congrArg (ABlk.row _ _) (ints_ren _ _).symm | exact Or.inr ⟨rfl, rfl⟩)⟩, ?_⟩))) (by first | rfl | exact congrArg AV.g (ints_ren _ _) | (simp [ints_ren, AV.ren, ABlk.ren, AC.ren, AE.ren, qq]; done)) ?_
        refine Wk.on ?_
        refine CallA.ro [] (.c (.bool true)) (same_00) (by first | rfl | exact congrArg AV.g (ints_ren _ _) | (simp [ints_ren, AV.ren, ABlk.ren, AC.ren, AE.ren, qq]; done)) rfl (by (repeat (first | exact trivial | refine ⟨⟨(by first | exact .inl (by decide) | exact .inr (by decide)), (by first | (refine Or.inl ?_; first | rfl | exact congrArg some (ints_ren _ _).symm | exact congrArg ABlk.own (ints_ren _ _).symm | exact congrArg some (tab64_ren _).symm | exact congrArg (ABlk.row _ _) (ints_ren _ _).symm) | rfl | exact congrArg some (ints_ren _ _).symm | exact congrArg ABlk.own (ints_ren _ _).symm | exact congrArg some (tab64_ren _).symm | exact congrArg (ABlk.row _ _) (ints_ren _ _).symm | exact Or.inr ⟨rfl, rfl⟩)⟩, ?_⟩))) (by first | rfl | exact congrArg AV.g (ints_ren _ _) | (simp [ints_ren, AV.ren, ABlk.ren, AC.ren, AE.ren, qq]; done)) ?_
        refine Wk.on ?_
        refine ⟨⟨wrap_nn _, by decide⟩, ?_⟩
        refine Wk.on ?_
        refine Again.mk ((i + 1, _)) (Sub.nil ⟨rfl, rfl, (by simp [tab64_LL, gC, wB, giC, noneB, gst, tC, pC, gN, gR, rC, rB, zeroT, zeroG]), rfl, (by simp [tupA, hpLt, tmLt, AV.lt, AE.lt, AC.lt, LL_cons, LL_nil, idOk, ABlk.lt, ints_LL, GB, tab64_LL, gC, wB, giC, noneB, gst, tC, pC, gN, gR, rC, rB, zeroT, zeroG]), (by simp [tupA, hpLt, tmLt, AV.lt, AE.lt, AC.lt, LL_cons, LL_nil, idOk, ABlk.lt, ints_LL, GB, tab64_LL, gC, wB, giC, noneB, gst, tC, pC, gN, gR, rC, rB, zeroT, zeroG])⟩ (by (repeat (first | exact trivial | refine ⟨trivial, ?_⟩ | refine ⟨rfl, ?_⟩))) (by (repeat (first | exact trivial | refine ⟨trivial, ?_⟩ | refine ⟨rfl, ?_⟩)))) (by show i + 1 ≤ 2; omega) (by omega)
    · obtain rfl : i = 2 := by omega
      refine Wk.on ?_
      refine CallA.ro [] (.c (.bool true)) (awake_spec) (by first | rfl | exact congrArg AV.g (ints_ren _ _) | (simp [ints_ren, AV.ren, ABlk.ren, AC.ren, AE.ren, qq]; done)) rfl (by (repeat (first | exact trivial | refine ⟨⟨(by first | exact .inl (by decide) | exact .inr (by decide)), (by first | (refine Or.inl ?_; first | rfl | exact congrArg some (ints_ren _ _).symm | exact congrArg ABlk.own (ints_ren _ _).symm | exact congrArg some (tab64_ren _).symm | exact congrArg (ABlk.row _ _) (ints_ren _ _).symm) | rfl | exact congrArg some (ints_ren _ _).symm | exact congrArg ABlk.own (ints_ren _ _).symm | exact congrArg some (tab64_ren _).symm | exact congrArg (ABlk.row _ _) (ints_ren _ _).symm | exact Or.inr ⟨rfl, rfl⟩)⟩, ?_⟩))) (by first | rfl | exact congrArg AV.g (ints_ren _ _) | (simp [ints_ren, AV.ren, ABlk.ren, AC.ren, AE.ren, qq]; done)) ?_
      refine Wk.on ?_
      exact AH.Fin.nil [] ⟨rfl, rfl, rfl⟩ (by first | exact trivial | (simp [tupA, hpLt, tmLt, AV.lt, AE.lt, AC.lt, LL_cons, LL_nil, idOk, ABlk.lt, ints_LL, GB, tab64_LL, gC, wB, giC, noneB, gst, tC, pC, gN, gR, rC, rB, zeroT, zeroG]; done) | (simp [tupA, hpLt, tmLt, AV.lt, AE.lt, AC.lt, LL_cons, LL_nil, idOk, ABlk.lt, ints_LL, GB, tab64_LL, gC, wB, giC, noneB, gst, tC, pC, gN, gR, rC, rB, zeroT, zeroG, rdn, wrn]; done)) trivial trivial rfl (by simp [GB])
theorem smaller_row (x : Rw) (n : Int) (h4 : x.ws.length ≤ 9223372036854775807) (hws : ¬ (tame x 8 10).ws = []) : FDet Tryd.prog 15 [.g (rC x 0), .c (.int .i64 n)] [(0, rB x), (100002, .ro tab64), (100000, noneB)] 1 (.c (.bool true)) [] 1 := by
  have hgm := tame_game x (pl := 8) (most := 10) (by omega) (by omega) (by omega)
  have hTm := tame_Tm x (pl := 8) (most := 10) (by omega)
  have hgl := hgm.ok.len
  have hpos := List.length_pos_iff.2 hws
  have ht := tame_rs (x := x) (pl := 8) (most := 10) (by omega) (by omega) (by omega) h4 hpos
  generalize tame x 8 10 = g at *
  have hgv := given_rs hpos hgl
  have hfl : (ints (fl g.ws)).length = g.ws.length * 2 := by rw [ints_len, fl_len]
  have hn8 := hgm.ok.n8
  have hs8 := hgm.ok.s
  have ht8 := hgm.ok.t
  refine FSpec.of_body tok true Tryd.func15 rfl (by kernel_rfl) (by decide) (by simp [tupA, hpLt, tmLt, AV.lt, AE.lt, AC.lt, LL_cons, LL_nil, idOk, ABlk.lt, ints_LL, GB, tab64_LL, gC, wB, giC, noneB, gst, tC, pC, gN, gR, rC, rB, zeroT, zeroG]) (by simp [tupA, hpLt, tmLt, AV.lt, AE.lt, AC.lt, LL_cons, LL_nil, idOk, ABlk.lt, ints_LL, GB, tab64_LL, gC, wB, giC, noneB, gst, tC, pC, gN, gR, rC, rB, zeroT, zeroG]) (by show 2 ≤ _; decide) ?_
  refine Wk.on ?_
  refine CallA.det [0] (.g (gC g 2)) ([(1, .own (rC x 0)), (0, rB x), (100002, .ro tab64), (100000, noneB), (2, .row 60 2 (ints (fl g.ws)))]) (ht) (by first | rfl | exact congrArg AV.g (ints_ren _ _) | (simp [ints_ren, AV.ren, ABlk.ren, AC.ren, AE.ren, qq]; done)) rfl (by (repeat (first | exact trivial | refine ⟨⟨(by first | exact .inl (by decide) | exact .inr (by decide)), (by first | (refine Or.inl ?_; first | rfl | exact congrArg some (ints_ren _ _).symm | exact congrArg ABlk.own (ints_ren _ _).symm | exact congrArg some (tab64_ren _).symm | exact congrArg (ABlk.row _ _) (ints_ren _ _).symm) | rfl | exact congrArg some (ints_ren _ _).symm | exact congrArg ABlk.own (ints_ren _ _).symm | exact congrArg some (tab64_ren _).symm | exact congrArg (ABlk.row _ _) (ints_ren _ _).symm | exact Or.inr ⟨rfl, rfl⟩)⟩, ?_⟩))) (by first | rfl | exact congrArg AV.g (ints_ren _ _) | (simp [ints_ren, AV.ren, ABlk.ren, AC.ren, AE.ren, qq]; done)) (by first | rfl | (simp [behind, gone, lk, up, del, qq, ABlk.wr, GB, ints_ren, AV.ren, ABlk.ren, AC.ren, AE.ren]; done) | (simp [behind, gone, lk, up, del, qq, ABlk.wr, GB, ints_ren, AV.ren, ABlk.ren, AC.ren, AE.ren]; rfl)) ?_
  refine Wk.on ?_
  refine CallA.det [2] (.g (gC g 4)) ([(3, .own (gC g 2)), (1, .own (rC x 0)), (0, rB x), (100002, .ro tab64), (100000, noneB), (2, .row 60 2 (ints (fl g.ws))), (4, .row 60 2 (ints (fl g.ws)))]) (hgv) (by first | rfl | exact congrArg AV.g (ints_ren _ _) | (simp [ints_ren, AV.ren, ABlk.ren, AC.ren, AE.ren, qq]; done)) rfl (by (repeat (first | exact trivial | refine ⟨⟨(by first | exact .inl (by decide) | exact .inr (by decide)), (by first | (refine Or.inl ?_; first | rfl | exact congrArg some (ints_ren _ _).symm | exact congrArg ABlk.own (ints_ren _ _).symm | exact congrArg some (tab64_ren _).symm | exact congrArg (ABlk.row _ _) (ints_ren _ _).symm) | rfl | exact congrArg some (ints_ren _ _).symm | exact congrArg ABlk.own (ints_ren _ _).symm | exact congrArg some (tab64_ren _).symm | exact congrArg (ABlk.row _ _) (ints_ren _ _).symm | exact Or.inr ⟨rfl, rfl⟩)⟩, ?_⟩))) (by first | rfl | exact congrArg AV.g (ints_ren _ _) | (simp [ints_ren, AV.ren, ABlk.ren, AC.ren, AE.ren, qq]; done)) (by first | rfl | (simp [behind, gone, lk, up, del, qq, ABlk.wr, GB, ints_ren, AV.ren, ABlk.ren, AC.ren, AE.ren]; done) | (simp [behind, gone, lk, up, del, qq, ABlk.wr, GB, ints_ren, AV.ren, ABlk.ren, AC.ren, AE.ren]; rfl)) ?_
  refine Wk.on ?_
  refine Tr.loop (md := true) (X := Nat × Int) (st := fun q => ⟨[(1, .c (.int .i64 q.2)), (5, .c (.ptr 3 0)), (6, .c (.ptr 5 0)), (7, .c (.int .i64 q.1))], [(5, .own (gC g 4)), (3, .own (gC g 2)), (1, .own (rC x 0)), (0, rB x), (100002, .ro tab64), (100000, noneB), (2, .row 60 2 (ints (fl g.ws))), (4, .row 60 2 (ints (fl g.ws)))], 6, 116, 1⟩) (inv := fun q => q.1 ≤ 2) (μ := fun q => 2 - q.1) (x0 := (0, n)) (l := []) tok (by show 0 ≤ 2; omega) ?_ ?_
  · exact Sub.nil ⟨rfl, rfl, (by simp [tab64_LL, gC, wB, giC, noneB, gst, tC, pC, gN, gR, rC, rB, zeroT, zeroG]), rfl, (by simp [tupA, hpLt, tmLt, AV.lt, AE.lt, AC.lt, LL_cons, LL_nil, idOk, ABlk.lt, ints_LL, GB, tab64_LL, gC, wB, giC, noneB, gst, tC, pC, gN, gR, rC, rB, zeroT, zeroG]), (by simp [tupA, hpLt, tmLt, AV.lt, AE.lt, AC.lt, LL_cons, LL_nil, idOk, ABlk.lt, ints_LL, GB, tab64_LL, gC, wB, giC, noneB, gst, tC, pC, gN, gR, rC, rB, zeroT, zeroG])⟩ (by (repeat (first | exact trivial | refine ⟨trivial, ?_⟩ | refine ⟨rfl, ?_⟩))) (by (repeat (first | exact trivial | refine ⟨trivial, ?_⟩ | refine ⟨rfl, ?_⟩)))
  · rintro ⟨r, n⟩ hr
    dsimp only at hr ⊢
    by_cases hr2 : r < 2
    · by_cases hin : n < 0 ∨ (g.ws.length : Int) ≤ n
      · have hwn := without_bad hgm hin
        have hsn := shorter_bad hgm hin
        refine Wk.on ?_
        rw [decide_eq_true (show ((r : Nat) : Int) < 2 by omega)]
        refine Wk.on ?_
        refine CallA.ro [4] (zeroT) (hwn) (by first | rfl | exact congrArg AV.g (ints_ren _ _) | (simp [ints_ren, AV.ren, ABlk.ren, AC.ren, AE.ren, qq]; done)) rfl (by (repeat (first | exact trivial | refine ⟨⟨(by first | exact .inl (by decide) | exact .inr (by decide)), (by first | (refine Or.inl ?_; first | rfl | exact congrArg some (ints_ren _ _).symm | exact congrArg ABlk.own (ints_ren _ _).symm | exact congrArg some (tab64_ren _).symm | exact congrArg (ABlk.row _ _) (ints_ren _ _).symm) | rfl | exact congrArg some (ints_ren _ _).symm | exact congrArg ABlk.own (ints_ren _ _).symm | exact congrArg some (tab64_ren _).symm | exact congrArg (ABlk.row _ _) (ints_ren _ _).symm | exact Or.inr ⟨rfl, rfl⟩)⟩, ?_⟩))) (by first | rfl | exact congrArg AV.g (ints_ren _ _) | (simp [ints_ren, AV.ren, ABlk.ren, AC.ren, AE.ren, qq]; done)) ?_
        refine Wk.on ?_
        refine CallA.ro [4] (zeroT) (hsn) (by first | rfl | exact congrArg AV.g (ints_ren _ _) | (simp [ints_ren, AV.ren, ABlk.ren, AC.ren, AE.ren, qq]; done)) rfl (by (repeat (first | exact trivial | refine ⟨⟨(by first | exact .inl (by decide) | exact .inr (by decide)), (by first | (refine Or.inl ?_; first | rfl | exact congrArg some (ints_ren _ _).symm | exact congrArg ABlk.own (ints_ren _ _).symm | exact congrArg some (tab64_ren _).symm | exact congrArg (ABlk.row _ _) (ints_ren _ _).symm) | rfl | exact congrArg some (ints_ren _ _).symm | exact congrArg ABlk.own (ints_ren _ _).symm | exact congrArg some (tab64_ren _).symm | exact congrArg (ABlk.row _ _) (ints_ren _ _).symm | exact Or.inr ⟨rfl, rfl⟩)⟩, ?_⟩))) (by first | rfl | exact congrArg AV.g (ints_ren _ _) | (simp [ints_ren, AV.ren, ABlk.ren, AC.ren, AE.ren, qq]; done)) ?_
        refine Wk.on ?_
        by_cases hn : n < 0
        · rw [decide_eq_true hn]
          refine Wk.on ?_
          refine CallA.ro [] (.c (.bool true)) (same_00) (by first | rfl | exact congrArg AV.g (ints_ren _ _) | (simp [ints_ren, AV.ren, ABlk.ren, AC.ren, AE.ren, qq]; done)) rfl (by (repeat (first | exact trivial | refine ⟨⟨(by first | exact .inl (by decide) | exact .inr (by decide)), (by first | (refine Or.inl ?_; first | rfl | exact congrArg some (ints_ren _ _).symm | exact congrArg ABlk.own (ints_ren _ _).symm | exact congrArg some (tab64_ren _).symm | exact congrArg (ABlk.row _ _) (ints_ren _ _).symm) | rfl | exact congrArg some (ints_ren _ _).symm | exact congrArg ABlk.own (ints_ren _ _).symm | exact congrArg some (tab64_ren _).symm | exact congrArg (ABlk.row _ _) (ints_ren _ _).symm | exact Or.inr ⟨rfl, rfl⟩)⟩, ?_⟩))) (by first | rfl | exact congrArg AV.g (ints_ren _ _) | (simp [ints_ren, AV.ren, ABlk.ren, AC.ren, AE.ren, qq]; done)) ?_
          refine Wk.on ?_
          refine CallA.ro [] (.c (.bool true)) (same_00) (by first | rfl | exact congrArg AV.g (ints_ren _ _) | (simp [ints_ren, AV.ren, ABlk.ren, AC.ren, AE.ren, qq]; done)) rfl (by (repeat (first | exact trivial | refine ⟨⟨(by first | exact .inl (by decide) | exact .inr (by decide)), (by first | (refine Or.inl ?_; first | rfl | exact congrArg some (ints_ren _ _).symm | exact congrArg ABlk.own (ints_ren _ _).symm | exact congrArg some (tab64_ren _).symm | exact congrArg (ABlk.row _ _) (ints_ren _ _).symm) | rfl | exact congrArg some (ints_ren _ _).symm | exact congrArg ABlk.own (ints_ren _ _).symm | exact congrArg some (tab64_ren _).symm | exact congrArg (ABlk.row _ _) (ints_ren _ _).symm | exact Or.inr ⟨rfl, rfl⟩)⟩, ?_⟩))) (by first | rfl | exact congrArg AV.g (ints_ren _ _) | (simp [ints_ren, AV.ren, ABlk.ren, AC.ren, AE.ren, qq]; done)) ?_
          refine Wk.on ?_
          rw [show max ((g.ws.length : Nat) : Int) 1 = ((g.ws.length : Nat) : Int) by omega]
          refine Wk.on ?_
          rw [wrapU (by omega)]
          refine ⟨⟨wrap_nn _, by omega⟩, ?_⟩
          refine Wk.on ?_
          refine Again.mk ((r + 1, _)) (Sub.nil ⟨rfl, rfl, (by simp [tab64_LL, gC, wB, giC, noneB, gst, tC, pC, gN, gR, rC, rB, zeroT, zeroG]), rfl, (by simp [tupA, hpLt, tmLt, AV.lt, AE.lt, AC.lt, LL_cons, LL_nil, idOk, ABlk.lt, ints_LL, GB, tab64_LL, gC, wB, giC, noneB, gst, tC, pC, gN, gR, rC, rB, zeroT, zeroG]), (by simp [tupA, hpLt, tmLt, AV.lt, AE.lt, AC.lt, LL_cons, LL_nil, idOk, ABlk.lt, ints_LL, GB, tab64_LL, gC, wB, giC, noneB, gst, tC, pC, gN, gR, rC, rB, zeroT, zeroG])⟩ (by (repeat (first | exact trivial | refine ⟨trivial, ?_⟩ | refine ⟨rfl, ?_⟩))) (by (repeat (first | exact trivial | refine ⟨trivial, ?_⟩ | refine ⟨rfl, ?_⟩)))) (by show r + 1 ≤ 2; omega) (by omega)
        · rw [decide_eq_false hn]
          refine Wk.on ?_
          rw [decide_eq_true (show ((g.ws.length : Nat) : Int) ≤ n by omega)]
          refine Wk.on ?_
          refine CallA.ro [] (.c (.bool true)) (same_00) (by first | rfl | exact congrArg AV.g (ints_ren _ _) | (simp [ints_ren, AV.ren, ABlk.ren, AC.ren, AE.ren, qq]; done)) rfl (by (repeat (first | exact trivial | refine ⟨⟨(by first | exact .inl (by decide) | exact .inr (by decide)), (by first | (refine Or.inl ?_; first | rfl | exact congrArg some (ints_ren _ _).symm | exact congrArg ABlk.own (ints_ren _ _).symm | exact congrArg some (tab64_ren _).symm | exact congrArg (ABlk.row _ _) (ints_ren _ _).symm) | rfl | exact congrArg some (ints_ren _ _).symm | exact congrArg ABlk.own (ints_ren _ _).symm | exact congrArg some (tab64_ren _).symm | exact congrArg (ABlk.row _ _) (ints_ren _ _).symm | exact Or.inr ⟨rfl, rfl⟩)⟩, ?_⟩))) (by first | rfl | exact congrArg AV.g (ints_ren _ _) | (simp [ints_ren, AV.ren, ABlk.ren, AC.ren, AE.ren, qq]; done)) ?_
          refine Wk.on ?_
          refine CallA.ro [] (.c (.bool true)) (same_00) (by first | rfl | exact congrArg AV.g (ints_ren _ _) | (simp [ints_ren, AV.ren, ABlk.ren, AC.ren, AE.ren, qq]; done)) rfl (by (repeat (first | exact trivial | refine ⟨⟨(by first | exact .inl (by decide) | exact .inr (by decide)), (by first | (refine Or.inl ?_; first | rfl | exact congrArg some (ints_ren _ _).symm | exact congrArg ABlk.own (ints_ren _ _).symm | exact congrArg some (tab64_ren _).symm | exact congrArg (ABlk.row _ _) (ints_ren _ _).symm) | rfl | exact congrArg some (ints_ren _ _).symm | exact congrArg ABlk.own (ints_ren _ _).symm | exact congrArg some (tab64_ren _).symm | exact congrArg (ABlk.row _ _) (ints_ren _ _).symm | exact Or.inr ⟨rfl, rfl⟩)⟩, ?_⟩))) (by first | rfl | exact congrArg AV.g (ints_ren _ _) | (simp [ints_ren, AV.ren, ABlk.ren, AC.ren, AE.ren, qq]; done)) ?_
          refine Wk.on ?_
          rw [show max ((g.ws.length : Nat) : Int) 1 = ((g.ws.length : Nat) : Int) by omega]
          refine Wk.on ?_
          rw [wrapU (by omega)]
          refine ⟨⟨wrap_nn _, by omega⟩, ?_⟩
          refine Wk.on ?_
          refine Again.mk ((r + 1, _)) (Sub.nil ⟨rfl, rfl, (by simp [tab64_LL, gC, wB, giC, noneB, gst, tC, pC, gN, gR, rC, rB, zeroT, zeroG]), rfl, (by simp [tupA, hpLt, tmLt, AV.lt, AE.lt, AC.lt, LL_cons, LL_nil, idOk, ABlk.lt, ints_LL, GB, tab64_LL, gC, wB, giC, noneB, gst, tC, pC, gN, gR, rC, rB, zeroT, zeroG]), (by simp [tupA, hpLt, tmLt, AV.lt, AE.lt, AC.lt, LL_cons, LL_nil, idOk, ABlk.lt, ints_LL, GB, tab64_LL, gC, wB, giC, noneB, gst, tC, pC, gN, gR, rC, rB, zeroT, zeroG])⟩ (by (repeat (first | exact trivial | refine ⟨trivial, ?_⟩ | refine ⟨rfl, ?_⟩))) (by (repeat (first | exact trivial | refine ⟨trivial, ?_⟩ | refine ⟨rfl, ?_⟩)))) (by show r + 1 ≤ 2; omega) (by omega)
      · obtain ⟨i, rfl⟩ : ∃ i : Nat, n = i := ⟨n.toNat, by omega⟩
        have hi : i < g.ws.length := by omega
        have hwo := without_rs hgm hi
        have hRw := withoutR_spec hgl hi
        have hRs := shorterR_spec hgm.ok hi
        have hlg := lessG_game hgm hTm i
        have hrd := rdn_fl2 g.ws i
        have hen := hgm.ok.ends i hi
        by_cases hj : joinsE g i
        · have hsh := shorter_joins hgm hi hj
          unfold joinsE shE at hj
          generalize lessG g i = h1 at *
          by_cases hL : h1.ws = []
          · have hRw := as_nil (g := g) hL hRw
            refine Wk.on ?_
            rw [decide_eq_true (show ((r : Nat) : Int) < 2 by omega)]
            refine Wk.on ?_
            refine CallA.det [4] (.t [.g (gC h1 6), .c (.int .i64 0)]) ([(5, .own (gC g 4)), (3, .own (gC g 2)), (1, .own (rC x 0)), (0, rB x), (100002, .ro tab64), (100000, noneB), (2, .row 60 2 (ints (fl g.ws))), (4, .row 60 2 (ints (fl g.ws))), (6, .row 60 2 (ints (fl h1.ws)))]) (hwo) (by first | rfl | exact congrArg AV.g (ints_ren _ _) | (simp [ints_ren, AV.ren, ABlk.ren, AC.ren, AE.ren, qq]; done)) rfl (by (repeat (first | exact trivial | refine ⟨⟨(by first | exact .inl (by decide) | exact .inr (by decide)), (by first | (refine Or.inl ?_; first | rfl | exact congrArg some (ints_ren _ _).symm | exact congrArg ABlk.own (ints_ren _ _).symm | exact congrArg some (tab64_ren _).symm | exact congrArg (ABlk.row _ _) (ints_ren _ _).symm) | rfl | exact congrArg some (ints_ren _ _).symm | exact congrArg ABlk.own (ints_ren _ _).symm | exact congrArg some (tab64_ren _).symm | exact congrArg (ABlk.row _ _) (ints_ren _ _).symm | exact Or.inr ⟨rfl, rfl⟩)⟩, ?_⟩))) (by first | rfl | exact congrArg AV.g (ints_ren _ _) | (simp [ints_ren, AV.ren, ABlk.ren, AC.ren, AE.ren, qq]; done)) (by first | rfl | (simp [behind, gone, lk, up, del, qq, ABlk.wr, GB, ints_ren, AV.ren, ABlk.ren, AC.ren, AE.ren]; done) | (simp [behind, gone, lk, up, del, qq, ABlk.wr, GB, ints_ren, AV.ren, ABlk.ren, AC.ren, AE.ren]; rfl)) ?_
            refine Wk.on ?_
            refine CallA.ro [4] (zeroT) (hsh) (by first | rfl | exact congrArg AV.g (ints_ren _ _) | (simp [ints_ren, AV.ren, ABlk.ren, AC.ren, AE.ren, qq]; done)) rfl (by (repeat (first | exact trivial | refine ⟨⟨(by first | exact .inl (by decide) | exact .inr (by decide)), (by first | (refine Or.inl ?_; first | rfl | exact congrArg some (ints_ren _ _).symm | exact congrArg ABlk.own (ints_ren _ _).symm | exact congrArg some (tab64_ren _).symm | exact congrArg (ABlk.row _ _) (ints_ren _ _).symm) | rfl | exact congrArg some (ints_ren _ _).symm | exact congrArg ABlk.own (ints_ren _ _).symm | exact congrArg some (tab64_ren _).symm | exact congrArg (ABlk.row _ _) (ints_ren _ _).symm | exact Or.inr ⟨rfl, rfl⟩)⟩, ?_⟩))) (by first | rfl | exact congrArg AV.g (ints_ren _ _) | (simp [ints_ren, AV.ren, ABlk.ren, AC.ren, AE.ren, qq]; done)) ?_
            refine Wk.on ?_
            rw [decide_eq_false (show ¬ (i : Int) < 0 by omega)]
            refine Wk.on ?_
            rw [decide_eq_false (show ¬ ((g.ws.length : Nat) : Int) ≤ (i : Int) by omega)]
            refine Wk.on ?_
            refine Tr.draw (md := true) [⟨[], [], [], [], []⟩, ⟨[0], [], [], [], []⟩, ⟨[0, 1], [], [], [], []⟩, ⟨[0, 1, 2], [64, 65, 66], [], [], []⟩, ⟨[0, 1, 2], [63, 65], [3], [], []⟩, ⟨[0, 1, 2], [63, 64], [3, 4], [], []⟩, ⟨[0, 1, 2, 4, 5], [63], [3], [], []⟩] tok (by kernel_rfl) (by kernel_rfl) ?_
            refine Wk.on ?_
            refine CallQ.ro [2] (.g (gN h1)) (hRw) (by first | rfl | exact congrArg AV.g (ints_ren _ _) | (simp [ints_ren, AV.ren, ABlk.ren, AC.ren, AE.ren, qq]; done)) rfl (by (repeat (first | exact trivial | refine ⟨⟨(by first | exact .inl (by decide) | exact .inr (by decide)), (by first | (refine Or.inl ?_; first | rfl | exact congrArg some (ints_ren _ _).symm | exact congrArg ABlk.own (ints_ren _ _).symm | exact congrArg some (tab64_ren _).symm | exact congrArg (ABlk.row _ _) (ints_ren _ _).symm) | rfl | exact congrArg some (ints_ren _ _).symm | exact congrArg ABlk.own (ints_ren _ _).symm | exact congrArg some (tab64_ren _).symm | exact congrArg (ABlk.row _ _) (ints_ren _ _).symm | exact Or.inr ⟨rfl, rfl⟩)⟩, ?_⟩))) (by first | rfl | exact congrArg AV.g (ints_ren _ _) | (simp [ints_ren, AV.ren, ABlk.ren, AC.ren, AE.ren, qq]; done)) ?_
            refine Wk.on ?_
            refine CallA.ro [6] (.c (.bool true)) (same_nil hL) (by first | rfl | exact congrArg AV.g (ints_ren _ _) | (simp [ints_ren, AV.ren, ABlk.ren, AC.ren, AE.ren, qq]; done)) rfl (by (repeat (first | exact trivial | refine ⟨⟨(by first | exact .inl (by decide) | exact .inr (by decide)), (by first | (refine Or.inl ?_; first | rfl | exact congrArg some (ints_ren _ _).symm | exact congrArg ABlk.own (ints_ren _ _).symm | exact congrArg some (tab64_ren _).symm | exact congrArg (ABlk.row _ _) (ints_ren _ _).symm) | rfl | exact congrArg some (ints_ren _ _).symm | exact congrArg ABlk.own (ints_ren _ _).symm | exact congrArg some (tab64_ren _).symm | exact congrArg (ABlk.row _ _) (ints_ren _ _).symm | exact Or.inr ⟨rfl, rfl⟩)⟩, ?_⟩))) (by first | rfl | exact congrArg AV.g (ints_ren _ _) | (simp [ints_ren, AV.ren, ABlk.ren, AC.ren, AE.ren, qq]; done)) ?_
            refine Wk.on ?_
            refine ⟨⟨by rw [hfl, Int.toNat_natCast]; show 0 + i * 2 + 2 ≤ _; omega, rfl⟩, ?_⟩
            rw [Int.toNat_natCast, Nat.zero_add]
            rw [show rdn (ints (fl g.ws)) (i * 2) [.int .i64 0, .int .i64 0] = _ from hrd]
            refine Wk.on ?_
            refine ⟨⟨⟨ok1 (by omega) (by omega), ok1 (by omega) (by omega), trivial⟩, ⟨ok1 (by omega) (by omega), ok1 (by omega) (by omega), trivial⟩⟩, ?_⟩
            rw [show eqL (rdn (wrn [AC.int .i64 0, AC.int .i64 0] 0 [AC.int .i64 ((g.ws.getD i (0, 0)).1 : Nat), .int .i64 ((g.ws.getD i (0, 0)).2 : Nat)]) 0 [AC.int .i64 0, AC.int .i64 0]) ((([AC.int .i64 0, AC.int .i64 0] : List AC).set (0 * 1) (.int .i64 (min (g.s : Int) (g.t : Int)))).set (1 * 1) (.int .i64 (max (g.s : Int) (g.t : Int)))) = some true by
              show some (decide _ && (decide _ && true)) = some true
              rw [decide_eq_true (show ((g.ws.getD i (0, 0)).1 : Int) = min (g.s : Int) (g.t : Int) by omega), decide_eq_true (show ((g.ws.getD i (0, 0)).2 : Int) = max (g.s : Int) (g.t : Int) by omega)]; rfl]
            refine Wk.on ?_
            refine CallA.ro [] (.c (.bool true)) (same_00) (by first | rfl | exact congrArg AV.g (ints_ren _ _) | (simp [ints_ren, AV.ren, ABlk.ren, AC.ren, AE.ren, qq]; done)) rfl (by (repeat (first | exact trivial | refine ⟨⟨(by first | exact .inl (by decide) | exact .inr (by decide)), (by first | (refine Or.inl ?_; first | rfl | exact congrArg some (ints_ren _ _).symm | exact congrArg ABlk.own (ints_ren _ _).symm | exact congrArg some (tab64_ren _).symm | exact congrArg (ABlk.row _ _) (ints_ren _ _).symm) | rfl | exact congrArg some (ints_ren _ _).symm | exact congrArg ABlk.own (ints_ren _ _).symm | exact congrArg some (tab64_ren _).symm | exact congrArg (ABlk.row _ _) (ints_ren _ _).symm | exact Or.inr ⟨rfl, rfl⟩)⟩, ?_⟩))) (by first | rfl | exact congrArg AV.g (ints_ren _ _) | (simp [ints_ren, AV.ren, ABlk.ren, AC.ren, AE.ren, qq]; done)) ?_
            refine Wk.on ?_
            rw [show max ((g.ws.length : Nat) : Int) 1 = ((g.ws.length : Nat) : Int) by omega]
            refine Wk.on ?_
            rw [wrapU (n := i) (by omega), wrapU (n := g.ws.length) (by omega)]
            refine ⟨⟨by omega, by omega⟩, ?_⟩
            refine Wk.on ?_
            refine Again.mk ((r + 1, _)) (Sub.nil ⟨rfl, rfl, (by simp [tab64_LL, gC, wB, giC, noneB, gst, tC, pC, gN, gR, rC, rB, zeroT, zeroG]), rfl, (by simp [tupA, hpLt, tmLt, AV.lt, AE.lt, AC.lt, LL_cons, LL_nil, idOk, ABlk.lt, ints_LL, GB, tab64_LL, gC, wB, giC, noneB, gst, tC, pC, gN, gR, rC, rB, zeroT, zeroG]), (by simp [tupA, hpLt, tmLt, AV.lt, AE.lt, AC.lt, LL_cons, LL_nil, idOk, ABlk.lt, ints_LL, GB, tab64_LL, gC, wB, giC, noneB, gst, tC, pC, gN, gR, rC, rB, zeroT, zeroG])⟩ (by (repeat (first | exact trivial | refine ⟨trivial, ?_⟩ | refine ⟨rfl, ?_⟩))) (by (repeat (first | exact trivial | refine ⟨trivial, ?_⟩ | refine ⟨rfl, ?_⟩)))) (by show r + 1 ≤ 2; omega) (by omega)
          · have hRw := as_rs hL hRw
            have hLp := List.length_pos_iff.2 hL
            refine Wk.on ?_
            rw [decide_eq_true (show ((r : Nat) : Int) < 2 by omega)]
            refine Wk.on ?_
            refine CallA.det [4] (.t [.g (gC h1 6), .c (.int .i64 0)]) ([(5, .own (gC g 4)), (3, .own (gC g 2)), (1, .own (rC x 0)), (0, rB x), (100002, .ro tab64), (100000, noneB), (2, .row 60 2 (ints (fl g.ws))), (4, .row 60 2 (ints (fl g.ws))), (6, .row 60 2 (ints (fl h1.ws)))]) (hwo) (by first | rfl | exact congrArg AV.g (ints_ren _ _) | (simp [ints_ren, AV.ren, ABlk.ren, AC.ren, AE.ren, qq]; done)) rfl (by (repeat (first | exact trivial | refine ⟨⟨(by first | exact .inl (by decide) | exact .inr (by decide)), (by first | (refine Or.inl ?_; first | rfl | exact congrArg some (ints_ren _ _).symm | exact congrArg ABlk.own (ints_ren _ _).symm | exact congrArg some (tab64_ren _).symm | exact congrArg (ABlk.row _ _) (ints_ren _ _).symm) | rfl | exact congrArg some (ints_ren _ _).symm | exact congrArg ABlk.own (ints_ren _ _).symm | exact congrArg some (tab64_ren _).symm | exact congrArg (ABlk.row _ _) (ints_ren _ _).symm | exact Or.inr ⟨rfl, rfl⟩)⟩, ?_⟩))) (by first | rfl | exact congrArg AV.g (ints_ren _ _) | (simp [ints_ren, AV.ren, ABlk.ren, AC.ren, AE.ren, qq]; done)) (by first | rfl | (simp [behind, gone, lk, up, del, qq, ABlk.wr, GB, ints_ren, AV.ren, ABlk.ren, AC.ren, AE.ren]; done) | (simp [behind, gone, lk, up, del, qq, ABlk.wr, GB, ints_ren, AV.ren, ABlk.ren, AC.ren, AE.ren]; rfl)) ?_
            refine Wk.on ?_
            refine CallA.ro [4] (zeroT) (hsh) (by first | rfl | exact congrArg AV.g (ints_ren _ _) | (simp [ints_ren, AV.ren, ABlk.ren, AC.ren, AE.ren, qq]; done)) rfl (by (repeat (first | exact trivial | refine ⟨⟨(by first | exact .inl (by decide) | exact .inr (by decide)), (by first | (refine Or.inl ?_; first | rfl | exact congrArg some (ints_ren _ _).symm | exact congrArg ABlk.own (ints_ren _ _).symm | exact congrArg some (tab64_ren _).symm | exact congrArg (ABlk.row _ _) (ints_ren _ _).symm) | rfl | exact congrArg some (ints_ren _ _).symm | exact congrArg ABlk.own (ints_ren _ _).symm | exact congrArg some (tab64_ren _).symm | exact congrArg (ABlk.row _ _) (ints_ren _ _).symm | exact Or.inr ⟨rfl, rfl⟩)⟩, ?_⟩))) (by first | rfl | exact congrArg AV.g (ints_ren _ _) | (simp [ints_ren, AV.ren, ABlk.ren, AC.ren, AE.ren, qq]; done)) ?_
            refine Wk.on ?_
            rw [decide_eq_false (show ¬ (i : Int) < 0 by omega)]
            refine Wk.on ?_
            rw [decide_eq_false (show ¬ ((g.ws.length : Nat) : Int) ≤ (i : Int) by omega)]
            refine Wk.on ?_
            refine Tr.draw (md := true) [⟨[], [], [], [], []⟩, ⟨[0], [], [], [], []⟩, ⟨[0, 1], [], [], [], []⟩, ⟨[0, 1, 2], [64, 65, 66], [], [], []⟩, ⟨[0, 1, 2], [63, 65], [3], [], []⟩, ⟨[0, 1, 2], [63, 64], [3, 4], [], []⟩, ⟨[0, 1, 2, 4, 5], [63], [3], [], []⟩] tok (by kernel_rfl) (by kernel_rfl) ?_
            refine Wk.on ?_
            refine CallQ.new [2] (.g (gC h1 9)) ([(9, .row 60 2 (ints (fl h1.ws)))]) (hRw) (by first | rfl | exact congrArg AV.g (ints_ren _ _) | (simp [ints_ren, AV.ren, ABlk.ren, AC.ren, AE.ren, qq]; done)) rfl (by (repeat (first | exact trivial | refine ⟨⟨(by first | exact .inl (by decide) | exact .inr (by decide)), (by first | (refine Or.inl ?_; first | rfl | exact congrArg some (ints_ren _ _).symm | exact congrArg ABlk.own (ints_ren _ _).symm | exact congrArg some (tab64_ren _).symm | exact congrArg (ABlk.row _ _) (ints_ren _ _).symm) | rfl | exact congrArg some (ints_ren _ _).symm | exact congrArg ABlk.own (ints_ren _ _).symm | exact congrArg some (tab64_ren _).symm | exact congrArg (ABlk.row _ _) (ints_ren _ _).symm | exact Or.inr ⟨rfl, rfl⟩)⟩, ?_⟩))) (by first | rfl | exact congrArg AV.g (ints_ren _ _) | (simp [ints_ren, AV.ren, ABlk.ren, AC.ren, AE.ren, qq]; done)) (by first | rfl | (simp [behind, gone, lk, up, del, qq, ABlk.wr, GB, ints_ren, AV.ren, ABlk.ren, AC.ren, AE.ren]; done) | (simp [behind, gone, lk, up, del, qq, ABlk.wr, GB, ints_ren, AV.ren, ABlk.ren, AC.ren, AE.ren]; rfl)) ?_
            refine Wk.on ?_
            refine CallA.ro [6, 9] (.c (.bool true)) (same_rs hlg.ok hLp) (by first | rfl | exact congrArg AV.g (ints_ren _ _) | (simp [ints_ren, AV.ren, ABlk.ren, AC.ren, AE.ren, qq]; done)) rfl (by (repeat (first | exact trivial | refine ⟨⟨(by first | exact .inl (by decide) | exact .inr (by decide)), (by first | (refine Or.inl ?_; first | rfl | exact congrArg some (ints_ren _ _).symm | exact congrArg ABlk.own (ints_ren _ _).symm | exact congrArg some (tab64_ren _).symm | exact congrArg (ABlk.row _ _) (ints_ren _ _).symm) | rfl | exact congrArg some (ints_ren _ _).symm | exact congrArg ABlk.own (ints_ren _ _).symm | exact congrArg some (tab64_ren _).symm | exact congrArg (ABlk.row _ _) (ints_ren _ _).symm | exact Or.inr ⟨rfl, rfl⟩)⟩, ?_⟩))) (by first | rfl | exact congrArg AV.g (ints_ren _ _) | (simp [ints_ren, AV.ren, ABlk.ren, AC.ren, AE.ren, qq]; done)) ?_
            refine Wk.on ?_
            refine ⟨⟨by rw [hfl, Int.toNat_natCast]; show 0 + i * 2 + 2 ≤ _; omega, rfl⟩, ?_⟩
            rw [Int.toNat_natCast, Nat.zero_add]
            rw [show rdn (ints (fl g.ws)) (i * 2) [.int .i64 0, .int .i64 0] = _ from hrd]
            refine Wk.on ?_
            refine ⟨⟨⟨ok1 (by omega) (by omega), ok1 (by omega) (by omega), trivial⟩, ⟨ok1 (by omega) (by omega), ok1 (by omega) (by omega), trivial⟩⟩, ?_⟩
            rw [show eqL (rdn (wrn [AC.int .i64 0, AC.int .i64 0] 0 [AC.int .i64 ((g.ws.getD i (0, 0)).1 : Nat), .int .i64 ((g.ws.getD i (0, 0)).2 : Nat)]) 0 [AC.int .i64 0, AC.int .i64 0]) ((([AC.int .i64 0, AC.int .i64 0] : List AC).set (0 * 1) (.int .i64 (min (g.s : Int) (g.t : Int)))).set (1 * 1) (.int .i64 (max (g.s : Int) (g.t : Int)))) = some true by
              show some (decide _ && (decide _ && true)) = some true
              rw [decide_eq_true (show ((g.ws.getD i (0, 0)).1 : Int) = min (g.s : Int) (g.t : Int) by omega), decide_eq_true (show ((g.ws.getD i (0, 0)).2 : Int) = max (g.s : Int) (g.t : Int) by omega)]; rfl]
            refine Wk.on ?_
            refine CallA.ro [] (.c (.bool true)) (same_00) (by first | rfl | exact congrArg AV.g (ints_ren _ _) | (simp [ints_ren, AV.ren, ABlk.ren, AC.ren, AE.ren, qq]; done)) rfl (by (repeat (first | exact trivial | refine ⟨⟨(by first | exact .inl (by decide) | exact .inr (by decide)), (by first | (refine Or.inl ?_; first | rfl | exact congrArg some (ints_ren _ _).symm | exact congrArg ABlk.own (ints_ren _ _).symm | exact congrArg some (tab64_ren _).symm | exact congrArg (ABlk.row _ _) (ints_ren _ _).symm) | rfl | exact congrArg some (ints_ren _ _).symm | exact congrArg ABlk.own (ints_ren _ _).symm | exact congrArg some (tab64_ren _).symm | exact congrArg (ABlk.row _ _) (ints_ren _ _).symm | exact Or.inr ⟨rfl, rfl⟩)⟩, ?_⟩))) (by first | rfl | exact congrArg AV.g (ints_ren _ _) | (simp [ints_ren, AV.ren, ABlk.ren, AC.ren, AE.ren, qq]; done)) ?_
            refine Wk.on ?_
            rw [show max ((g.ws.length : Nat) : Int) 1 = ((g.ws.length : Nat) : Int) by omega]
            refine Wk.on ?_
            rw [wrapU (n := i) (by omega), wrapU (n := g.ws.length) (by omega)]
            refine ⟨⟨by omega, by omega⟩, ?_⟩
            refine Wk.on ?_
            refine Again.mk ((r + 1, _)) (Sub.nil ⟨rfl, rfl, (by simp [tab64_LL, gC, wB, giC, noneB, gst, tC, pC, gN, gR, rC, rB, zeroT, zeroG]), rfl, (by simp [tupA, hpLt, tmLt, AV.lt, AE.lt, AC.lt, LL_cons, LL_nil, idOk, ABlk.lt, ints_LL, GB, tab64_LL, gC, wB, giC, noneB, gst, tC, pC, gN, gR, rC, rB, zeroT, zeroG]), (by simp [tupA, hpLt, tmLt, AV.lt, AE.lt, AC.lt, LL_cons, LL_nil, idOk, ABlk.lt, ints_LL, GB, tab64_LL, gC, wB, giC, noneB, gst, tC, pC, gN, gR, rC, rB, zeroT, zeroG])⟩ (by (repeat (first | exact trivial | refine ⟨trivial, ?_⟩ | refine ⟨rfl, ?_⟩))) (by (repeat (first | exact trivial | refine ⟨trivial, ?_⟩ | refine ⟨rfl, ?_⟩)))) (by show r + 1 ≤ 2; omega) (by omega)
        · have hsg := shortG_game hgm hTm hi hj
          by_cases hS : (shortG g i).ws = []
          · have hsh := shorter_nil hgm hi hj hS
            have hRs := as_nil (g := g) hS hRs
            unfold joinsE shE at hj
            generalize lessG g i = h1 at *
            generalize shortG g i = h2 at *
            by_cases hL : h1.ws = []
            · have hRw := as_nil (g := g) hL hRw
              refine Wk.on ?_
              rw [decide_eq_true (show ((r : Nat) : Int) < 2 by omega)]
              refine Wk.on ?_
              refine CallA.det [4] (.t [.g (gC h1 6), .c (.int .i64 0)]) ([(5, .own (gC g 4)), (3, .own (gC g 2)), (1, .own (rC x 0)), (0, rB x), (100002, .ro tab64), (100000, noneB), (2, .row 60 2 (ints (fl g.ws))), (4, .row 60 2 (ints (fl g.ws))), (6, .row 60 2 (ints (fl h1.ws)))]) (hwo) (by first | rfl | exact congrArg AV.g (ints_ren _ _) | (simp [ints_ren, AV.ren, ABlk.ren, AC.ren, AE.ren, qq]; done)) rfl (by (repeat (first | exact trivial | refine ⟨⟨(by first | exact .inl (by decide) | exact .inr (by decide)), (by first | (refine Or.inl ?_; first | rfl | exact congrArg some (ints_ren _ _).symm | exact congrArg ABlk.own (ints_ren _ _).symm | exact congrArg some (tab64_ren _).symm | exact congrArg (ABlk.row _ _) (ints_ren _ _).symm) | rfl | exact congrArg some (ints_ren _ _).symm | exact congrArg ABlk.own (ints_ren _ _).symm | exact congrArg some (tab64_ren _).symm | exact congrArg (ABlk.row _ _) (ints_ren _ _).symm | exact Or.inr ⟨rfl, rfl⟩)⟩, ?_⟩))) (by first | rfl | exact congrArg AV.g (ints_ren _ _) | (simp [ints_ren, AV.ren, ABlk.ren, AC.ren, AE.ren, qq]; done)) (by first | rfl | (simp [behind, gone, lk, up, del, qq, ABlk.wr, GB, ints_ren, AV.ren, ABlk.ren, AC.ren, AE.ren]; done) | (simp [behind, gone, lk, up, del, qq, ABlk.wr, GB, ints_ren, AV.ren, ABlk.ren, AC.ren, AE.ren]; rfl)) ?_
              refine Wk.on ?_
              refine CallA.ro [4] (.t [.g (gN h2), .c (.int .i64 0)]) (hsh) (by first | rfl | exact congrArg AV.g (ints_ren _ _) | (simp [ints_ren, AV.ren, ABlk.ren, AC.ren, AE.ren, qq]; done)) rfl (by (repeat (first | exact trivial | refine ⟨⟨(by first | exact .inl (by decide) | exact .inr (by decide)), (by first | (refine Or.inl ?_; first | rfl | exact congrArg some (ints_ren _ _).symm | exact congrArg ABlk.own (ints_ren _ _).symm | exact congrArg some (tab64_ren _).symm | exact congrArg (ABlk.row _ _) (ints_ren _ _).symm) | rfl | exact congrArg some (ints_ren _ _).symm | exact congrArg ABlk.own (ints_ren _ _).symm | exact congrArg some (tab64_ren _).symm | exact congrArg (ABlk.row _ _) (ints_ren _ _).symm | exact Or.inr ⟨rfl, rfl⟩)⟩, ?_⟩))) (by first | rfl | exact congrArg AV.g (ints_ren _ _) | (simp [ints_ren, AV.ren, ABlk.ren, AC.ren, AE.ren, qq]; done)) ?_
              refine Wk.on ?_
              rw [decide_eq_false (show ¬ (i : Int) < 0 by omega)]
              refine Wk.on ?_
              rw [decide_eq_false (show ¬ ((g.ws.length : Nat) : Int) ≤ (i : Int) by omega)]
              refine Wk.on ?_
              refine Tr.draw (md := true) [⟨[], [], [], [], []⟩, ⟨[0], [], [], [], []⟩, ⟨[0, 1], [], [], [], []⟩, ⟨[0, 1, 2], [64, 65, 66], [], [], []⟩, ⟨[0, 1, 2], [63, 65], [3], [], []⟩, ⟨[0, 1, 2], [63, 64], [3, 4], [], []⟩, ⟨[0, 1, 2, 4, 5], [63], [3], [], []⟩] tok (by kernel_rfl) (by kernel_rfl) ?_
              refine Wk.on ?_
              refine CallQ.ro [2] (.g (gN h1)) (hRw) (by first | rfl | exact congrArg AV.g (ints_ren _ _) | (simp [ints_ren, AV.ren, ABlk.ren, AC.ren, AE.ren, qq]; done)) rfl (by (repeat (first | exact trivial | refine ⟨⟨(by first | exact .inl (by decide) | exact .inr (by decide)), (by first | (refine Or.inl ?_; first | rfl | exact congrArg some (ints_ren _ _).symm | exact congrArg ABlk.own (ints_ren _ _).symm | exact congrArg some (tab64_ren _).symm | exact congrArg (ABlk.row _ _) (ints_ren _ _).symm) | rfl | exact congrArg some (ints_ren _ _).symm | exact congrArg ABlk.own (ints_ren _ _).symm | exact congrArg some (tab64_ren _).symm | exact congrArg (ABlk.row _ _) (ints_ren _ _).symm | exact Or.inr ⟨rfl, rfl⟩)⟩, ?_⟩))) (by first | rfl | exact congrArg AV.g (ints_ren _ _) | (simp [ints_ren, AV.ren, ABlk.ren, AC.ren, AE.ren, qq]; done)) ?_
              refine Wk.on ?_
              refine CallA.ro [6] (.c (.bool true)) (same_nil hL) (by first | rfl | exact congrArg AV.g (ints_ren _ _) | (simp [ints_ren, AV.ren, ABlk.ren, AC.ren, AE.ren, qq]; done)) rfl (by (repeat (first | exact trivial | refine ⟨⟨(by first | exact .inl (by decide) | exact .inr (by decide)), (by first | (refine Or.inl ?_; first | rfl | exact congrArg some (ints_ren _ _).symm | exact congrArg ABlk.own (ints_ren _ _).symm | exact congrArg some (tab64_ren _).symm | exact congrArg (ABlk.row _ _) (ints_ren _ _).symm) | rfl | exact congrArg some (ints_ren _ _).symm | exact congrArg ABlk.own (ints_ren _ _).symm | exact congrArg some (tab64_ren _).symm | exact congrArg (ABlk.row _ _) (ints_ren _ _).symm | exact Or.inr ⟨rfl, rfl⟩)⟩, ?_⟩))) (by first | rfl | exact congrArg AV.g (ints_ren _ _) | (simp [ints_ren, AV.ren, ABlk.ren, AC.ren, AE.ren, qq]; done)) ?_
              refine Wk.on ?_
              refine ⟨⟨by rw [hfl, Int.toNat_natCast]; show 0 + i * 2 + 2 ≤ _; omega, rfl⟩, ?_⟩
              rw [Int.toNat_natCast, Nat.zero_add]
              rw [show rdn (ints (fl g.ws)) (i * 2) [.int .i64 0, .int .i64 0] = _ from hrd]
              refine Wk.on ?_
              refine ⟨⟨⟨ok1 (by omega) (by omega), ok1 (by omega) (by omega), trivial⟩, ⟨ok1 (by omega) (by omega), ok1 (by omega) (by omega), trivial⟩⟩, ?_⟩
              rw [show eqL (rdn (wrn [AC.int .i64 0, AC.int .i64 0] 0 [AC.int .i64 ((g.ws.getD i (0, 0)).1 : Nat), .int .i64 ((g.ws.getD i (0, 0)).2 : Nat)]) 0 [AC.int .i64 0, AC.int .i64 0]) ((([AC.int .i64 0, AC.int .i64 0] : List AC).set (0 * 1) (.int .i64 (min (g.s : Int) (g.t : Int)))).set (1 * 1) (.int .i64 (max (g.s : Int) (g.t : Int)))) = some false by
                show some (decide _ && (decide _ && true)) = some false
                by_cases hmn : ((g.ws.getD i (0, 0)).1 : Int) = min (g.s : Int) (g.t : Int)
                · rw [decide_eq_true hmn, decide_eq_false (show ¬ ((g.ws.getD i (0, 0)).2 : Int) = max (g.s : Int) (g.t : Int) by omega)]; rfl
                · rw [decide_eq_false hmn]; rfl]
              refine Wk.on ?_
              refine Tr.draw (md := true) [⟨[], [], [], [], []⟩, ⟨[0], [], [], [], []⟩, ⟨[0, 1], [], [], [], []⟩, ⟨[0, 1, 2], [100, 101, 102], [], [], []⟩, ⟨[0, 1, 2], [99, 101], [3], [], []⟩, ⟨[0, 1, 2], [99, 100], [3, 4], [], []⟩, ⟨[0, 1, 2, 4, 5], [99], [3], [], []⟩] tok (by kernel_rfl) (by kernel_rfl) ?_
              refine Wk.on ?_
              refine CallQ.ro [2] (.g (gN h2)) (hRs) (by first | rfl | exact congrArg AV.g (ints_ren _ _) | (simp [ints_ren, AV.ren, ABlk.ren, AC.ren, AE.ren, qq]; done)) rfl (by (repeat (first | exact trivial | refine ⟨⟨(by first | exact .inl (by decide) | exact .inr (by decide)), (by first | (refine Or.inl ?_; first | rfl | exact congrArg some (ints_ren _ _).symm | exact congrArg ABlk.own (ints_ren _ _).symm | exact congrArg some (tab64_ren _).symm | exact congrArg (ABlk.row _ _) (ints_ren _ _).symm) | rfl | exact congrArg some (ints_ren _ _).symm | exact congrArg ABlk.own (ints_ren _ _).symm | exact congrArg some (tab64_ren _).symm | exact congrArg (ABlk.row _ _) (ints_ren _ _).symm | exact Or.inr ⟨rfl, rfl⟩)⟩, ?_⟩))) (by first | rfl | exact congrArg AV.g (ints_ren _ _) | (simp [ints_ren, AV.ren, ABlk.ren, AC.ren, AE.ren, qq]; done)) ?_
              refine Wk.on ?_
              refine CallA.ro [] (.c (.bool true)) (same_NN h2) (by first | rfl | exact congrArg AV.g (ints_ren _ _) | (simp [ints_ren, AV.ren, ABlk.ren, AC.ren, AE.ren, qq]; done)) rfl (by (repeat (first | exact trivial | refine ⟨⟨(by first | exact .inl (by decide) | exact .inr (by decide)), (by first | (refine Or.inl ?_; first | rfl | exact congrArg some (ints_ren _ _).symm | exact congrArg ABlk.own (ints_ren _ _).symm | exact congrArg some (tab64_ren _).symm | exact congrArg (ABlk.row _ _) (ints_ren _ _).symm) | rfl | exact congrArg some (ints_ren _ _).symm | exact congrArg ABlk.own (ints_ren _ _).symm | exact congrArg some (tab64_ren _).symm | exact congrArg (ABlk.row _ _) (ints_ren _ _).symm | exact Or.inr ⟨rfl, rfl⟩)⟩, ?_⟩))) (by first | rfl | exact congrArg AV.g (ints_ren _ _) | (simp [ints_ren, AV.ren, ABlk.ren, AC.ren, AE.ren, qq]; done)) ?_
              refine Wk.on ?_
              rw [show max ((g.ws.length : Nat) : Int) 1 = ((g.ws.length : Nat) : Int) by omega]
              refine Wk.on ?_
              rw [wrapU (n := i) (by omega), wrapU (n := g.ws.length) (by omega)]
              refine ⟨⟨by omega, by omega⟩, ?_⟩
              refine Wk.on ?_
              refine Again.mk ((r + 1, _)) (Sub.nil ⟨rfl, rfl, (by simp [tab64_LL, gC, wB, giC, noneB, gst, tC, pC, gN, gR, rC, rB, zeroT, zeroG]), rfl, (by simp [tupA, hpLt, tmLt, AV.lt, AE.lt, AC.lt, LL_cons, LL_nil, idOk, ABlk.lt, ints_LL, GB, tab64_LL, gC, wB, giC, noneB, gst, tC, pC, gN, gR, rC, rB, zeroT, zeroG]), (by simp [tupA, hpLt, tmLt, AV.lt, AE.lt, AC.lt, LL_cons, LL_nil, idOk, ABlk.lt, ints_LL, GB, tab64_LL, gC, wB, giC, noneB, gst, tC, pC, gN, gR, rC, rB, zeroT, zeroG])⟩ (by (repeat (first | exact trivial | refine ⟨trivial, ?_⟩ | refine ⟨rfl, ?_⟩))) (by (repeat (first | exact trivial | refine ⟨trivial, ?_⟩ | refine ⟨rfl, ?_⟩)))) (by show r + 1 ≤ 2; omega) (by omega)
            · have hRw := as_rs hL hRw
              have hLp := List.length_pos_iff.2 hL
              refine Wk.on ?_
              rw [decide_eq_true (show ((r : Nat) : Int) < 2 by omega)]
              refine Wk.on ?_
              refine CallA.det [4] (.t [.g (gC h1 6), .c (.int .i64 0)]) ([(5, .own (gC g 4)), (3, .own (gC g 2)), (1, .own (rC x 0)), (0, rB x), (100002, .ro tab64), (100000, noneB), (2, .row 60 2 (ints (fl g.ws))), (4, .row 60 2 (ints (fl g.ws))), (6, .row 60 2 (ints (fl h1.ws)))]) (hwo) (by first | rfl | exact congrArg AV.g (ints_ren _ _) | (simp [ints_ren, AV.ren, ABlk.ren, AC.ren, AE.ren, qq]; done)) rfl (by (repeat (first | exact trivial | refine ⟨⟨(by first | exact .inl (by decide) | exact .inr (by decide)), (by first | (refine Or.inl ?_; first | rfl | exact congrArg some (ints_ren _ _).symm | exact congrArg ABlk.own (ints_ren _ _).symm | exact congrArg some (tab64_ren _).symm | exact congrArg (ABlk.row _ _) (ints_ren _ _).symm) | rfl | exact congrArg some (ints_ren _ _).symm | exact congrArg ABlk.own (ints_ren _ _).symm | exact congrArg some (tab64_ren _).symm | exact congrArg (ABlk.row _ _) (ints_ren _ _).symm | exact Or.inr ⟨rfl, rfl⟩)⟩, ?_⟩))) (by first | rfl | exact congrArg AV.g (ints_ren _ _) | (simp [ints_ren, AV.ren, ABlk.ren, AC.ren, AE.ren, qq]; done)) (by first | rfl | (simp [behind, gone, lk, up, del, qq, ABlk.wr, GB, ints_ren, AV.ren, ABlk.ren, AC.ren, AE.ren]; done) | (simp [behind, gone, lk, up, del, qq, ABlk.wr, GB, ints_ren, AV.ren, ABlk.ren, AC.ren, AE.ren]; rfl)) ?_
              refine Wk.on ?_
              refine CallA.ro [4] (.t [.g (gN h2), .c (.int .i64 0)]) (hsh) (by first | rfl | exact congrArg AV.g (ints_ren _ _) | (simp [ints_ren, AV.ren, ABlk.ren, AC.ren, AE.ren, qq]; done)) rfl (by (repeat (first | exact trivial | refine ⟨⟨(by first | exact .inl (by decide) | exact .inr (by decide)), (by first | (refine Or.inl ?_; first | rfl | exact congrArg some (ints_ren _ _).symm | exact congrArg ABlk.own (ints_ren _ _).symm | exact congrArg some (tab64_ren _).symm | exact congrArg (ABlk.row _ _) (ints_ren _ _).symm) | rfl | exact congrArg some (ints_ren _ _).symm | exact congrArg ABlk.own (ints_ren _ _).symm | exact congrArg some (tab64_ren _).symm | exact congrArg (ABlk.row _ _) (ints_ren _ _).symm | exact Or.inr ⟨rfl, rfl⟩)⟩, ?_⟩))) (by first | rfl | exact congrArg AV.g (ints_ren _ _) | (simp [ints_ren, AV.ren, ABlk.ren, AC.ren, AE.ren, qq]; done)) ?_
              refine Wk.on ?_
              rw [decide_eq_false (show ¬ (i : Int) < 0 by omega)]
              refine Wk.on ?_
              rw [decide_eq_false (show ¬ ((g.ws.length : Nat) : Int) ≤ (i : Int) by omega)]
              refine Wk.on ?_
              refine Tr.draw (md := true) [⟨[], [], [], [], []⟩, ⟨[0], [], [], [], []⟩, ⟨[0, 1], [], [], [], []⟩, ⟨[0, 1, 2], [64, 65, 66], [], [], []⟩, ⟨[0, 1, 2], [63, 65], [3], [], []⟩, ⟨[0, 1, 2], [63, 64], [3, 4], [], []⟩, ⟨[0, 1, 2, 4, 5], [63], [3], [], []⟩] tok (by kernel_rfl) (by kernel_rfl) ?_
              refine Wk.on ?_
              refine CallQ.new [2] (.g (gC h1 9)) ([(9, .row 60 2 (ints (fl h1.ws)))]) (hRw) (by first | rfl | exact congrArg AV.g (ints_ren _ _) | (simp [ints_ren, AV.ren, ABlk.ren, AC.ren, AE.ren, qq]; done)) rfl (by (repeat (first | exact trivial | refine ⟨⟨(by first | exact .inl (by decide) | exact .inr (by decide)), (by first | (refine Or.inl ?_; first | rfl | exact congrArg some (ints_ren _ _).symm | exact congrArg ABlk.own (ints_ren _ _).symm | exact congrArg some (tab64_ren _).symm | exact congrArg (ABlk.row _ _) (ints_ren _ _).symm) | rfl | exact congrArg some (ints_ren _ _).symm | exact congrArg ABlk.own (ints_ren _ _).symm | exact congrArg some (tab64_ren _).symm | exact congrArg (ABlk.row _ _) (ints_ren _ _).symm | exact Or.inr ⟨rfl, rfl⟩)⟩, ?_⟩))) (by first | rfl | exact congrArg AV.g (ints_ren _ _) | (simp [ints_ren, AV.ren, ABlk.ren, AC.ren, AE.ren, qq]; done)) (by first | rfl | (simp [behind, gone, lk, up, del, qq, ABlk.wr, GB, ints_ren, AV.ren, ABlk.ren, AC.ren, AE.ren]; done) | (simp [behind, gone, lk, up, del, qq, ABlk.wr, GB, ints_ren, AV.ren, ABlk.ren, AC.ren, AE.ren]; rfl)) ?_
              refine Wk.on ?_
              refine CallA.ro [6, 9] (.c (.bool true)) (same_rs hlg.ok hLp) (by first | rfl | exact congrArg AV.g (ints_ren _ _) | (simp [ints_ren, AV.ren, ABlk.ren, AC.ren, AE.ren, qq]; done)) rfl (by (repeat (first | exact trivial | refine ⟨⟨(by first | exact .inl (by decide) | exact .inr (by decide)), (by first | (refine Or.inl ?_; first | rfl | exact congrArg some (ints_ren _ _).symm | exact congrArg ABlk.own (ints_ren _ _).symm | exact congrArg some (tab64_ren _).symm | exact congrArg (ABlk.row _ _) (ints_ren _ _).symm) | rfl | exact congrArg some (ints_ren _ _).symm | exact congrArg ABlk.own (ints_ren _ _).symm | exact congrArg some (tab64_ren _).symm | exact congrArg (ABlk.row _ _) (ints_ren _ _).symm | exact Or.inr ⟨rfl, rfl⟩)⟩, ?_⟩))) (by first | rfl | exact congrArg AV.g (ints_ren _ _) | (simp [ints_ren, AV.ren, ABlk.ren, AC.ren, AE.ren, qq]; done)) ?_
              refine Wk.on ?_
              refine ⟨⟨by rw [hfl, Int.toNat_natCast]; show 0 + i * 2 + 2 ≤ _; omega, rfl⟩, ?_⟩
              rw [Int.toNat_natCast, Nat.zero_add]
              rw [show rdn (ints (fl g.ws)) (i * 2) [.int .i64 0, .int .i64 0] = _ from hrd]
              refine Wk.on ?_
              refine ⟨⟨⟨ok1 (by omega) (by omega), ok1 (by omega) (by omega), trivial⟩, ⟨ok1 (by omega) (by omega), ok1 (by omega) (by omega), trivial⟩⟩, ?_⟩
              rw [show eqL (rdn (wrn [AC.int .i64 0, AC.int .i64 0] 0 [AC.int .i64 ((g.ws.getD i (0, 0)).1 : Nat), .int .i64 ((g.ws.getD i (0, 0)).2 : Nat)]) 0 [AC.int .i64 0, AC.int .i64 0]) ((([AC.int .i64 0, AC.int .i64 0] : List AC).set (0 * 1) (.int .i64 (min (g.s : Int) (g.t : Int)))).set (1 * 1) (.int .i64 (max (g.s : Int) (g.t : Int)))) = some false by
                show some (decide _ && (decide _ && true)) = some false
                by_cases hmn : ((g.ws.getD i (0, 0)).1 : Int) = min (g.s : Int) (g.t : Int)
                · rw [decide_eq_true hmn, decide_eq_false (show ¬ ((g.ws.getD i (0, 0)).2 : Int) = max (g.s : Int) (g.t : Int) by omega)]; rfl
                · rw [decide_eq_false hmn]; rfl]
              refine Wk.on ?_
              refine Tr.draw (md := true) [⟨[], [], [], [], []⟩, ⟨[0], [], [], [], []⟩, ⟨[0, 1], [], [], [], []⟩, ⟨[0, 1, 2], [100, 101, 102], [], [], []⟩, ⟨[0, 1, 2], [99, 101], [3], [], []⟩, ⟨[0, 1, 2], [99, 100], [3, 4], [], []⟩, ⟨[0, 1, 2, 4, 5], [99], [3], [], []⟩] tok (by kernel_rfl) (by kernel_rfl) ?_
              refine Wk.on ?_
              refine CallQ.ro [2] (.g (gN h2)) (hRs) (by first | rfl | exact congrArg AV.g (ints_ren _ _) | (simp [ints_ren, AV.ren, ABlk.ren, AC.ren, AE.ren, qq]; done)) rfl (by (repeat (first | exact trivial | refine ⟨⟨(by first | exact .inl (by decide) | exact .inr (by decide)), (by first | (refine Or.inl ?_; first | rfl | exact congrArg some (ints_ren _ _).symm | exact congrArg ABlk.own (ints_ren _ _).symm | exact congrArg some (tab64_ren _).symm | exact congrArg (ABlk.row _ _) (ints_ren _ _).symm) | rfl | exact congrArg some (ints_ren _ _).symm | exact congrArg ABlk.own (ints_ren _ _).symm | exact congrArg some (tab64_ren _).symm | exact congrArg (ABlk.row _ _) (ints_ren _ _).symm | exact Or.inr ⟨rfl, rfl⟩)⟩, ?_⟩))) (by first | rfl | exact congrArg AV.g (ints_ren _ _) | (simp [ints_ren, AV.ren, ABlk.ren, AC.ren, AE.ren, qq]; done)) ?_
              refine Wk.on ?_
              refine CallA.ro [] (.c (.bool true)) (same_NN h2) (by first | rfl | exact congrArg AV.g (ints_ren _ _) | (simp [ints_ren, AV.ren, ABlk.ren, AC.ren, AE.ren, qq]; done)) rfl (by (repeat (first | exact trivial | refine ⟨⟨(by first | exact .inl (by decide) | exact .inr (by decide)), (by first | (refine Or.inl ?_; first | rfl | exact congrArg some (ints_ren _ _).symm | exact congrArg ABlk.own (ints_ren _ _).symm | exact congrArg some (tab64_ren _).symm | exact congrArg (ABlk.row _ _) (ints_ren _ _).symm) | rfl | exact congrArg some (ints_ren _ _).symm | exact congrArg ABlk.own (ints_ren _ _).symm | exact congrArg some (tab64_ren _).symm | exact congrArg (ABlk.row _ _) (ints_ren _ _).symm | exact Or.inr ⟨rfl, rfl⟩)⟩, ?_⟩))) (by first | rfl | exact congrArg AV.g (ints_ren _ _) | (simp [ints_ren, AV.ren, ABlk.ren, AC.ren, AE.ren, qq]; done)) ?_
              refine Wk.on ?_
              rw [show max ((g.ws.length : Nat) : Int) 1 = ((g.ws.length : Nat) : Int) by omega]
              refine Wk.on ?_
              rw [wrapU (n := i) (by omega), wrapU (n := g.ws.length) (by omega)]
              refine ⟨⟨by omega, by omega⟩, ?_⟩
              refine Wk.on ?_
              refine Again.mk ((r + 1, _)) (Sub.nil ⟨rfl, rfl, (by simp [tab64_LL, gC, wB, giC, noneB, gst, tC, pC, gN, gR, rC, rB, zeroT, zeroG]), rfl, (by simp [tupA, hpLt, tmLt, AV.lt, AE.lt, AC.lt, LL_cons, LL_nil, idOk, ABlk.lt, ints_LL, GB, tab64_LL, gC, wB, giC, noneB, gst, tC, pC, gN, gR, rC, rB, zeroT, zeroG]), (by simp [tupA, hpLt, tmLt, AV.lt, AE.lt, AC.lt, LL_cons, LL_nil, idOk, ABlk.lt, ints_LL, GB, tab64_LL, gC, wB, giC, noneB, gst, tC, pC, gN, gR, rC, rB, zeroT, zeroG])⟩ (by (repeat (first | exact trivial | refine ⟨trivial, ?_⟩ | refine ⟨rfl, ?_⟩))) (by (repeat (first | exact trivial | refine ⟨trivial, ?_⟩ | refine ⟨rfl, ?_⟩)))) (by show r + 1 ≤ 2; omega) (by omega)
          · have hsh := shorter_rs hgm hi hj hS
            have hRs := as_rs hS hRs
            have hSp := List.length_pos_iff.2 hS
            unfold joinsE shE at hj
            generalize lessG g i = h1 at *
            generalize shortG g i = h2 at *
            by_cases hL : h1.ws = []
            · have hRw := as_nil (g := g) hL hRw
              refine Wk.on ?_
              rw [decide_eq_true (show ((r : Nat) : Int) < 2 by omega)]
              refine Wk.on ?_
              refine CallA.det [4] (.t [.g (gC h1 6), .c (.int .i64 0)]) ([(5, .own (gC g 4)), (3, .own (gC g 2)), (1, .own (rC x 0)), (0, rB x), (100002, .ro tab64), (100000, noneB), (2, .row 60 2 (ints (fl g.ws))), (4, .row 60 2 (ints (fl g.ws))), (6, .row 60 2 (ints (fl h1.ws)))]) (hwo) (by first | rfl | exact congrArg AV.g (ints_ren _ _) | (simp [ints_ren, AV.ren, ABlk.ren, AC.ren, AE.ren, qq]; done)) rfl (by (repeat (first | exact trivial | refine ⟨⟨(by first | exact .inl (by decide) | exact .inr (by decide)), (by first | (refine Or.inl ?_; first | rfl | exact congrArg some (ints_ren _ _).symm | exact congrArg ABlk.own (ints_ren _ _).symm | exact congrArg some (tab64_ren _).symm | exact congrArg (ABlk.row _ _) (ints_ren _ _).symm) | rfl | exact congrArg some (ints_ren _ _).symm | exact congrArg ABlk.own (ints_ren _ _).symm | exact congrArg some (tab64_ren _).symm | exact congrArg (ABlk.row _ _) (ints_ren _ _).symm | exact Or.inr ⟨rfl, rfl⟩)⟩, ?_⟩))) (by first | rfl | exact congrArg AV.g (ints_ren _ _) | (simp [ints_ren, AV.ren, ABlk.ren, AC.ren, AE.ren, qq]; done)) (by first | rfl | (simp [behind, gone, lk, up, del, qq, ABlk.wr, GB, ints_ren, AV.ren, ABlk.ren, AC.ren, AE.ren]; done) | (simp [behind, gone, lk, up, del, qq, ABlk.wr, GB, ints_ren, AV.ren, ABlk.ren, AC.ren, AE.ren]; rfl)) ?_
              refine Wk.on ?_
              refine CallA.det [4] (.t [.g (gC h2 8), .c (.int .i64 0)]) ([(7, .own (gC h1 6)), (5, .own (gC g 4)), (3, .own (gC g 2)), (1, .own (rC x 0)), (0, rB x), (100002, .ro tab64), (100000, noneB), (2, .row 60 2 (ints (fl g.ws))), (4, .row 60 2 (ints (fl g.ws))), (6, .row 60 2 (ints (fl h1.ws))), (8, .row 60 2 (ints (fl h2.ws)))]) (hsh) (by first | rfl | exact congrArg AV.g (ints_ren _ _) | (simp [ints_ren, AV.ren, ABlk.ren, AC.ren, AE.ren, qq]; done)) rfl (by (repeat (first | exact trivial | refine ⟨⟨(by first | exact .inl (by decide) | exact .inr (by decide)), (by first | (refine Or.inl ?_; first | rfl | exact congrArg some (ints_ren _ _).symm | exact congrArg ABlk.own (ints_ren _ _).symm | exact congrArg some (tab64_ren _).symm | exact congrArg (ABlk.row _ _) (ints_ren _ _).symm) | rfl | exact congrArg some (ints_ren _ _).symm | exact congrArg ABlk.own (ints_ren _ _).symm | exact congrArg some (tab64_ren _).symm | exact congrArg (ABlk.row _ _) (ints_ren _ _).symm | exact Or.inr ⟨rfl, rfl⟩)⟩, ?_⟩))) (by first | rfl | exact congrArg AV.g (ints_ren _ _) | (simp [ints_ren, AV.ren, ABlk.ren, AC.ren, AE.ren, qq]; done)) (by first | rfl | (simp [behind, gone, lk, up, del, qq, ABlk.wr, GB, ints_ren, AV.ren, ABlk.ren, AC.ren, AE.ren]; done) | (simp [behind, gone, lk, up, del, qq, ABlk.wr, GB, ints_ren, AV.ren, ABlk.ren, AC.ren, AE.ren]; rfl)) ?_
              refine Wk.on ?_
              rw [decide_eq_false (show ¬ (i : Int) < 0 by omega)]
              refine Wk.on ?_
              rw [decide_eq_false (show ¬ ((g.ws.length : Nat) : Int) ≤ (i : Int) by omega)]
              refine Wk.on ?_
              refine Tr.draw (md := true) [⟨[], [], [], [], []⟩, ⟨[0], [], [], [], []⟩, ⟨[0, 1], [], [], [], []⟩, ⟨[0, 1, 2], [64, 65, 66], [], [], []⟩, ⟨[0, 1, 2], [63, 65], [3], [], []⟩, ⟨[0, 1, 2], [63, 64], [3, 4], [], []⟩, ⟨[0, 1, 2, 4, 5], [63], [3], [], []⟩] tok (by kernel_rfl) (by kernel_rfl) ?_
              refine Wk.on ?_
              refine CallQ.ro [2] (.g (gN h1)) (hRw) (by first | rfl | exact congrArg AV.g (ints_ren _ _) | (simp [ints_ren, AV.ren, ABlk.ren, AC.ren, AE.ren, qq]; done)) rfl (by (repeat (first | exact trivial | refine ⟨⟨(by first | exact .inl (by decide) | exact .inr (by decide)), (by first | (refine Or.inl ?_; first | rfl | exact congrArg some (ints_ren _ _).symm | exact congrArg ABlk.own (ints_ren _ _).symm | exact congrArg some (tab64_ren _).symm | exact congrArg (ABlk.row _ _) (ints_ren _ _).symm) | rfl | exact congrArg some (ints_ren _ _).symm | exact congrArg ABlk.own (ints_ren _ _).symm | exact congrArg some (tab64_ren _).symm | exact congrArg (ABlk.row _ _) (ints_ren _ _).symm | exact Or.inr ⟨rfl, rfl⟩)⟩, ?_⟩))) (by first | rfl | exact congrArg AV.g (ints_ren _ _) | (simp [ints_ren, AV.ren, ABlk.ren, AC.ren, AE.ren, qq]; done)) ?_
              refine Wk.on ?_
              refine CallA.ro [6] (.c (.bool true)) (same_nil hL) (by first | rfl | exact congrArg AV.g (ints_ren _ _) | (simp [ints_ren, AV.ren, ABlk.ren, AC.ren, AE.ren, qq]; done)) rfl (by (repeat (first | exact trivial | refine ⟨⟨(by first | exact .inl (by decide) | exact .inr (by decide)), (by first | (refine Or.inl ?_; first | rfl | exact congrArg some (ints_ren _ _).symm | exact congrArg ABlk.own (ints_ren _ _).symm | exact congrArg some (tab64_ren _).symm | exact congrArg (ABlk.row _ _) (ints_ren _ _).symm) | rfl | exact congrArg some (ints_ren _ _).symm | exact congrArg ABlk.own (ints_ren _ _).symm | exact congrArg some (tab64_ren _).symm | exact congrArg (ABlk.row _ _) (ints_ren _ _).symm | exact Or.inr ⟨rfl, rfl⟩)⟩, ?_⟩))) (by first | rfl | exact congrArg AV.g (ints_ren _ _) | (simp [ints_ren, AV.ren, ABlk.ren, AC.ren, AE.ren, qq]; done)) ?_
              refine Wk.on ?_
              refine ⟨⟨by rw [hfl, Int.toNat_natCast]; show 0 + i * 2 + 2 ≤ _; omega, rfl⟩, ?_⟩
              rw [Int.toNat_natCast, Nat.zero_add]
              rw [show rdn (ints (fl g.ws)) (i * 2) [.int .i64 0, .int .i64 0] = _ from hrd]
              refine Wk.on ?_
              refine ⟨⟨⟨ok1 (by omega) (by omega), ok1 (by omega) (by omega), trivial⟩, ⟨ok1 (by omega) (by omega), ok1 (by omega) (by omega), trivial⟩⟩, ?_⟩
              rw [show eqL (rdn (wrn [AC.int .i64 0, AC.int .i64 0] 0 [AC.int .i64 ((g.ws.getD i (0, 0)).1 : Nat), .int .i64 ((g.ws.getD i (0, 0)).2 : Nat)]) 0 [AC.int .i64 0, AC.int .i64 0]) ((([AC.int .i64 0, AC.int .i64 0] : List AC).set (0 * 1) (.int .i64 (min (g.s : Int) (g.t : Int)))).set (1 * 1) (.int .i64 (max (g.s : Int) (g.t : Int)))) = some false by
                show some (decide _ && (decide _ && true)) = some false
                by_cases hmn : ((g.ws.getD i (0, 0)).1 : Int) = min (g.s : Int) (g.t : Int)
                · rw [decide_eq_true hmn, decide_eq_false (show ¬ ((g.ws.getD i (0, 0)).2 : Int) = max (g.s : Int) (g.t : Int) by omega)]; rfl
                · rw [decide_eq_false hmn]; rfl]
              refine Wk.on ?_
              refine Tr.draw (md := true) [⟨[], [], [], [], []⟩, ⟨[0], [], [], [], []⟩, ⟨[0, 1], [], [], [], []⟩, ⟨[0, 1, 2], [100, 101, 102], [], [], []⟩, ⟨[0, 1, 2], [99, 101], [3], [], []⟩, ⟨[0, 1, 2], [99, 100], [3, 4], [], []⟩, ⟨[0, 1, 2, 4, 5], [99], [3], [], []⟩] tok (by kernel_rfl) (by kernel_rfl) ?_
              refine Wk.on ?_
              refine CallQ.new [2] (.g (gC h2 11)) ([(11, .row 60 2 (ints (fl h2.ws)))]) (hRs) (by first | rfl | exact congrArg AV.g (ints_ren _ _) | (simp [ints_ren, AV.ren, ABlk.ren, AC.ren, AE.ren, qq]; done)) rfl (by (repeat (first | exact trivial | refine ⟨⟨(by first | exact .inl (by decide) | exact .inr (by decide)), (by first | (refine Or.inl ?_; first | rfl | exact congrArg some (ints_ren _ _).symm | exact congrArg ABlk.own (ints_ren _ _).symm | exact congrArg some (tab64_ren _).symm | exact congrArg (ABlk.row _ _) (ints_ren _ _).symm) | rfl | exact congrArg some (ints_ren _ _).symm | exact congrArg ABlk.own (ints_ren _ _).symm | exact congrArg some (tab64_ren _).symm | exact congrArg (ABlk.row _ _) (ints_ren _ _).symm | exact Or.inr ⟨rfl, rfl⟩)⟩, ?_⟩))) (by first | rfl | exact congrArg AV.g (ints_ren _ _) | (simp [ints_ren, AV.ren, ABlk.ren, AC.ren, AE.ren, qq]; done)) (by first | rfl | (simp [behind, gone, lk, up, del, qq, ABlk.wr, GB, ints_ren, AV.ren, ABlk.ren, AC.ren, AE.ren]; done) | (simp [behind, gone, lk, up, del, qq, ABlk.wr, GB, ints_ren, AV.ren, ABlk.ren, AC.ren, AE.ren]; rfl)) ?_
              refine Wk.on ?_
              refine CallA.ro [8, 11] (.c (.bool true)) (same_rs hsg.ok hSp) (by first | rfl | exact congrArg AV.g (ints_ren _ _) | (simp [ints_ren, AV.ren, ABlk.ren, AC.ren, AE.ren, qq]; done)) rfl (by (repeat (first | exact trivial | refine ⟨⟨(by first | exact .inl (by decide) | exact .inr (by decide)), (by first | (refine Or.inl ?_; first | rfl | exact congrArg some (ints_ren _ _).symm | exact congrArg ABlk.own (ints_ren _ _).symm | exact congrArg some (tab64_ren _).symm | exact congrArg (ABlk.row _ _) (ints_ren _ _).symm) | rfl | exact congrArg some (ints_ren _ _).symm | exact congrArg ABlk.own (ints_ren _ _).symm | exact congrArg some (tab64_ren _).symm | exact congrArg (ABlk.row _ _) (ints_ren _ _).symm | exact Or.inr ⟨rfl, rfl⟩)⟩, ?_⟩))) (by first | rfl | exact congrArg AV.g (ints_ren _ _) | (simp [ints_ren, AV.ren, ABlk.ren, AC.ren, AE.ren, qq]; done)) ?_
              refine Wk.on ?_
              rw [show max ((g.ws.length : Nat) : Int) 1 = ((g.ws.length : Nat) : Int) by omega]
              refine Wk.on ?_
              rw [wrapU (n := i) (by omega), wrapU (n := g.ws.length) (by omega)]
              refine ⟨⟨by omega, by omega⟩, ?_⟩
              refine Wk.on ?_
              refine Again.mk ((r + 1, _)) (Sub.nil ⟨rfl, rfl, (by simp [tab64_LL, gC, wB, giC, noneB, gst, tC, pC, gN, gR, rC, rB, zeroT, zeroG]), rfl, (by simp [tupA, hpLt, tmLt, AV.lt, AE.lt, AC.lt, LL_cons, LL_nil, idOk, ABlk.lt, ints_LL, GB, tab64_LL, gC, wB, giC, noneB, gst, tC, pC, gN, gR, rC, rB, zeroT, zeroG]), (by simp [tupA, hpLt, tmLt, AV.lt, AE.lt, AC.lt, LL_cons, LL_nil, idOk, ABlk.lt, ints_LL, GB, tab64_LL, gC, wB, giC, noneB, gst, tC, pC, gN, gR, rC, rB, zeroT, zeroG])⟩ (by (repeat (first | exact trivial | refine ⟨trivial, ?_⟩ | refine ⟨rfl, ?_⟩))) (by (repeat (first | exact trivial | refine ⟨trivial, ?_⟩ | refine ⟨rfl, ?_⟩)))) (by show r + 1 ≤ 2; omega) (by omega)
            · have hRw := as_rs hL hRw
              have hLp := List.length_pos_iff.2 hL
              refine Wk.on ?_
              rw [decide_eq_true (show ((r : Nat) : Int) < 2 by omega)]
              refine Wk.on ?_
              refine CallA.det [4] (.t [.g (gC h1 6), .c (.int .i64 0)]) ([(5, .own (gC g 4)), (3, .own (gC g 2)), (1, .own (rC x 0)), (0, rB x), (100002, .ro tab64), (100000, noneB), (2, .row 60 2 (ints (fl g.ws))), (4, .row 60 2 (ints (fl g.ws))), (6, .row 60 2 (ints (fl h1.ws)))]) (hwo) (by first | rfl | exact congrArg AV.g (ints_ren _ _) | (simp [ints_ren, AV.ren, ABlk.ren, AC.ren, AE.ren, qq]; done)) rfl (by (repeat (first | exact trivial | refine ⟨⟨(by first | exact .inl (by decide) | exact .inr (by decide)), (by first | (refine Or.inl ?_; first | rfl | exact congrArg some (ints_ren _ _).symm | exact congrArg ABlk.own (ints_ren _ _).symm | exact congrArg some (tab64_ren _).symm | exact congrArg (ABlk.row _ _) (ints_ren _ _).symm) | rfl | exact congrArg some (ints_ren _ _).symm | exact congrArg ABlk.own (ints_ren _ _).symm | exact congrArg some (tab64_ren _).symm | exact congrArg (ABlk.row _ _) (ints_ren _ _).symm | exact Or.inr ⟨rfl, rfl⟩)⟩, ?_⟩))) (by first | rfl | exact congrArg AV.g (ints_ren _ _) | (simp [ints_ren, AV.ren, ABlk.ren, AC.ren, AE.ren, qq]; done)) (by first | rfl | (simp [behind, gone, lk, up, del, qq, ABlk.wr, GB, ints_ren, AV.ren, ABlk.ren, AC.ren, AE.ren]; done) | (simp [behind, gone, lk, up, del, qq, ABlk.wr, GB, ints_ren, AV.ren, ABlk.ren, AC.ren, AE.ren]; rfl)) ?_
              refine Wk.on ?_
              refine CallA.det [4] (.t [.g (gC h2 8), .c (.int .i64 0)]) ([(7, .own (gC h1 6)), (5, .own (gC g 4)), (3, .own (gC g 2)), (1, .own (rC x 0)), (0, rB x), (100002, .ro tab64), (100000, noneB), (2, .row 60 2 (ints (fl g.ws))), (4, .row 60 2 (ints (fl g.ws))), (6, .row 60 2 (ints (fl h1.ws))), (8, .row 60 2 (ints (fl h2.ws)))]) (hsh) (by first | rfl | exact congrArg AV.g (ints_ren _ _) | (simp [ints_ren, AV.ren, ABlk.ren, AC.ren, AE.ren, qq]; done)) rfl (by (repeat (first | exact trivial | refine ⟨⟨(by first | exact .inl (by decide) | exact .inr (by decide)), (by first | (refine Or.inl ?_; first | rfl | exact congrArg some (ints_ren _ _).symm | exact congrArg ABlk.own (ints_ren _ _).symm | exact congrArg some (tab64_ren _).symm | exact congrArg (ABlk.row _ _) (ints_ren _ _).symm) | rfl | exact congrArg some (ints_ren _ _).symm | exact congrArg ABlk.own (ints_ren _ _).symm | exact congrArg some (tab64_ren _).symm | exact congrArg (ABlk.row _ _) (ints_ren _ _).symm | exact Or.inr ⟨rfl, rfl⟩)⟩, ?_⟩))) (by first | rfl | exact congrArg AV.g (ints_ren _ _) | (simp [ints_ren, AV.ren, ABlk.ren, AC.ren, AE.ren, qq]; done)) (by first | rfl | (simp [behind, gone, lk, up, del, qq, ABlk.wr, GB, ints_ren, AV.ren, ABlk.ren, AC.ren, AE.ren]; done) | (simp [behind, gone, lk, up, del, qq, ABlk.wr, GB, ints_ren, AV.ren, ABlk.ren, AC.ren, AE.ren]; rfl)) ?_
              refine Wk.on ?_
              rw [decide_eq_false (show ¬ (i : Int) < 0 by omega)]
              refine Wk.on ?_
              rw [decide_eq_false (show ¬ ((g.ws.length : Nat) : Int) ≤ (i : Int) by omega)]
              refine Wk.on ?_
              refine Tr.draw (md := true) [⟨[], [], [], [], []⟩, ⟨[0], [], [], [], []⟩, ⟨[0, 1], [], [], [], []⟩, ⟨[0, 1, 2], [64, 65, 66], [], [], []⟩, ⟨[0, 1, 2], [63, 65], [3], [], []⟩, ⟨[0, 1, 2], [63, 64], [3, 4], [], []⟩, ⟨[0, 1, 2, 4, 5], [63], [3], [], []⟩] tok (by kernel_rfl) (by kernel_rfl) ?_
              refine Wk.on ?_
              refine CallQ.new [2] (.g (gC h1 10)) ([(10, .row 60 2 (ints (fl h1.ws)))]) (hRw) (by first | rfl | exact congrArg AV.g (ints_ren _ _) | (simp [ints_ren, AV.ren, ABlk.ren, AC.ren, AE.ren, qq]; done)) rfl (by (repeat (first | exact trivial | refine ⟨⟨(by first | exact .inl (by decide) | exact .inr (by decide)), (by first | (refine Or.inl ?_; first | rfl | exact congrArg some (ints_ren _ _).symm | exact congrArg ABlk.own (ints_ren _ _).symm | exact congrArg some (tab64_ren _).symm | exact congrArg (ABlk.row _ _) (ints_ren _ _).symm) | rfl | exact congrArg some (ints_ren _ _).symm | exact congrArg ABlk.own (ints_ren _ _).symm | exact congrArg some (tab64_ren _).symm | exact congrArg (ABlk.row _ _) (ints_ren _ _).symm | exact Or.inr ⟨rfl, rfl⟩)⟩, ?_⟩))) (by first | rfl | exact congrArg AV.g (ints_ren _ _) | (simp [ints_ren, AV.ren, ABlk.ren, AC.ren, AE.ren, qq]; done)) (by first | rfl | (simp [behind, gone, lk, up, del, qq, ABlk.wr, GB, ints_ren, AV.ren, ABlk.ren, AC.ren, AE.ren]; done) | (simp [behind, gone, lk, up, del, qq, ABlk.wr, GB, ints_ren, AV.ren, ABlk.ren, AC.ren, AE.ren]; rfl)) ?_
              refine Wk.on ?_
              refine CallA.ro [6, 10] (.c (.bool true)) (same_rs hlg.ok hLp) (by first | rfl | exact congrArg AV.g (ints_ren _ _) | (simp [ints_ren, AV.ren, ABlk.ren, AC.ren, AE.ren, qq]; done)) rfl (by (repeat (first | exact trivial | refine ⟨⟨(by first | exact .inl (by decide) | exact .inr (by decide)), (by first | (refine Or.inl ?_; first | rfl | exact congrArg some (ints_ren _ _).symm | exact congrArg ABlk.own (ints_ren _ _).symm | exact congrArg some (tab64_ren _).symm | exact congrArg (ABlk.row _ _) (ints_ren _ _).symm) | rfl | exact congrArg some (ints_ren _ _).symm | exact congrArg ABlk.own (ints_ren _ _).symm | exact congrArg some (tab64_ren _).symm | exact congrArg (ABlk.row _ _) (ints_ren _ _).symm | exact Or.inr ⟨rfl, rfl⟩)⟩, ?_⟩))) (by first | rfl | exact congrArg AV.g (ints_ren _ _) | (simp [ints_ren, AV.ren, ABlk.ren, AC.ren, AE.ren, qq]; done)) ?_
              refine Wk.on ?_
              refine ⟨⟨by rw [hfl, Int.toNat_natCast]; show 0 + i * 2 + 2 ≤ _; omega, rfl⟩, ?_⟩
              rw [Int.toNat_natCast, Nat.zero_add]
              rw [show rdn (ints (fl g.ws)) (i * 2) [.int .i64 0, .int .i64 0] = _ from hrd]
              refine Wk.on ?_
              refine ⟨⟨⟨ok1 (by omega) (by omega), ok1 (by omega) (by omega), trivial⟩, ⟨ok1 (by omega) (by omega), ok1 (by omega) (by omega), trivial⟩⟩, ?_⟩
              rw [show eqL (rdn (wrn [AC.int .i64 0, AC.int .i64 0] 0 [AC.int .i64 ((g.ws.getD i (0, 0)).1 : Nat), .int .i64 ((g.ws.getD i (0, 0)).2 : Nat)]) 0 [AC.int .i64 0, AC.int .i64 0]) ((([AC.int .i64 0, AC.int .i64 0] : List AC).set (0 * 1) (.int .i64 (min (g.s : Int) (g.t : Int)))).set (1 * 1) (.int .i64 (max (g.s : Int) (g.t : Int)))) = some false by
                show some (decide _ && (decide _ && true)) = some false
                by_cases hmn : ((g.ws.getD i (0, 0)).1 : Int) = min (g.s : Int) (g.t : Int)
                · rw [decide_eq_true hmn, decide_eq_false (show ¬ ((g.ws.getD i (0, 0)).2 : Int) = max (g.s : Int) (g.t : Int) by omega)]; rfl
                · rw [decide_eq_false hmn]; rfl]
              refine Wk.on ?_
              refine Tr.draw (md := true) [⟨[], [], [], [], []⟩, ⟨[0], [], [], [], []⟩, ⟨[0, 1], [], [], [], []⟩, ⟨[0, 1, 2], [100, 101, 102], [], [], []⟩, ⟨[0, 1, 2], [99, 101], [3], [], []⟩, ⟨[0, 1, 2], [99, 100], [3, 4], [], []⟩, ⟨[0, 1, 2, 4, 5], [99], [3], [], []⟩] tok (by kernel_rfl) (by kernel_rfl) ?_
              refine Wk.on ?_
              refine CallQ.new [2] (.g (gC h2 12)) ([(12, .row 60 2 (ints (fl h2.ws)))]) (hRs) (by first | rfl | exact congrArg AV.g (ints_ren _ _) | (simp [ints_ren, AV.ren, ABlk.ren, AC.ren, AE.ren, qq]; done)) rfl (by (repeat (first | exact trivial | refine ⟨⟨(by first | exact .inl (by decide) | exact .inr (by decide)), (by first | (refine Or.inl ?_; first | rfl | exact congrArg some (ints_ren _ _).symm | exact congrArg ABlk.own (ints_ren _ _).symm | exact congrArg some (tab64_ren _).symm | exact congrArg (ABlk.row _ _) (ints_ren _ _).symm) | rfl | exact congrArg some (ints_ren _ _).symm | exact congrArg ABlk.own (ints_ren _ _).symm | exact congrArg some (tab64_ren _).symm | exact congrArg (ABlk.row _ _) (ints_ren _ _).symm | exact Or.inr ⟨rfl, rfl⟩)⟩, ?_⟩))) (by first | rfl | exact congrArg AV.g (ints_ren _ _) | (simp [ints_ren, AV.ren, ABlk.ren, AC.ren, AE.ren, qq]; done)) (by first | rfl | (simp [behind, gone, lk, up, del, qq, ABlk.wr, GB, ints_ren, AV.ren, ABlk.ren, AC.ren, AE.ren]; done) | (simp [behind, gone, lk, up, del, qq, ABlk.wr, GB, ints_ren, AV.ren, ABlk.ren, AC.ren, AE.ren]; rfl)) ?_
              refine Wk.on ?_
              refine CallA.ro [8, 12] (.c (.bool true)) (same_rs hsg.ok hSp) (by first | rfl | exact congrArg AV.g (ints_ren _ _) | (simp [ints_ren, AV.ren, ABlk.ren, AC.ren, AE.ren, qq]; done)) rfl (by (repeat (first | exact trivial | refine ⟨⟨(by first | exact .inl (by decide) | exact .inr (by decide)), (by first | (refine Or.inl ?_; first | rfl | exact congrArg some (ints_ren _ _).symm | exact congrArg ABlk.own (ints_ren _ _).symm | exact congrArg some (tab64_ren _).symm | exact congrArg (ABlk.row _ _) (ints_ren _ _).symm) | rfl | exact congrArg some (ints_ren _ _).symm | exact congrArg ABlk.own (ints_ren _ _).symm | exact congrArg some (tab64_ren _).symm | exact congrArg (ABlk.row _ _) (ints_ren _ _).symm | exact Or.inr ⟨rfl, rfl⟩)⟩, ?_⟩))) (by first | rfl | exact congrArg AV.g (ints_ren _ _) | (simp [ints_ren, AV.ren, ABlk.ren, AC.ren, AE.ren, qq]; done)) ?_
              refine Wk.on ?_
              rw [show max ((g.ws.length : Nat) : Int) 1 = ((g.ws.length : Nat) : Int) by omega]
              refine Wk.on ?_
              rw [wrapU (n := i) (by omega), wrapU (n := g.ws.length) (by omega)]
              refine ⟨⟨by omega, by omega⟩, ?_⟩
              refine Wk.on ?_
              refine Again.mk ((r + 1, _)) (Sub.nil ⟨rfl, rfl, (by simp [tab64_LL, gC, wB, giC, noneB, gst, tC, pC, gN, gR, rC, rB, zeroT, zeroG]), rfl, (by simp [tupA, hpLt, tmLt, AV.lt, AE.lt, AC.lt, LL_cons, LL_nil, idOk, ABlk.lt, ints_LL, GB, tab64_LL, gC, wB, giC, noneB, gst, tC, pC, gN, gR, rC, rB, zeroT, zeroG]), (by simp [tupA, hpLt, tmLt, AV.lt, AE.lt, AC.lt, LL_cons, LL_nil, idOk, ABlk.lt, ints_LL, GB, tab64_LL, gC, wB, giC, noneB, gst, tC, pC, gN, gR, rC, rB, zeroT, zeroG])⟩ (by (repeat (first | exact trivial | refine ⟨trivial, ?_⟩ | refine ⟨rfl, ?_⟩))) (by (repeat (first | exact trivial | refine ⟨trivial, ?_⟩ | refine ⟨rfl, ?_⟩)))) (by show r + 1 ≤ 2; omega) (by omega)
    · obtain rfl : r = 2 := by omega
      refine Wk.on ?_
      refine CallA.ro [] (.c (.bool true)) (awake_spec) (by first | rfl | exact congrArg AV.g (ints_ren _ _) | (simp [ints_ren, AV.ren, ABlk.ren, AC.ren, AE.ren, qq]; done)) rfl (by (repeat (first | exact trivial | refine ⟨⟨(by first | exact .inl (by decide) | exact .inr (by decide)), (by first | (refine Or.inl ?_; first | rfl | exact congrArg some (ints_ren _ _).symm | exact congrArg ABlk.own (ints_ren _ _).symm | exact congrArg some (tab64_ren _).symm | exact congrArg (ABlk.row _ _) (ints_ren _ _).symm) | rfl | exact congrArg some (ints_ren _ _).symm | exact congrArg ABlk.own (ints_ren _ _).symm | exact congrArg some (tab64_ren _).symm | exact congrArg (ABlk.row _ _) (ints_ren _ _).symm | exact Or.inr ⟨rfl, rfl⟩)⟩, ?_⟩))) (by first | rfl | exact congrArg AV.g (ints_ren _ _) | (simp [ints_ren, AV.ren, ABlk.ren, AC.ren, AE.ren, qq]; done)) ?_
      refine Wk.on ?_
      exact AH.Fin.nil [] ⟨rfl, rfl, rfl⟩ (by first | exact trivial | (simp [tupA, hpLt, tmLt, AV.lt, AE.lt, AC.lt, LL_cons, LL_nil, idOk, ABlk.lt, ints_LL, GB, tab64_LL, gC, wB, giC, noneB, gst, tC, pC, gN, gR, rC, rB, zeroT, zeroG]; done) | (simp [tupA, hpLt, tmLt, AV.lt, AE.lt, AC.lt, LL_cons, LL_nil, idOk, ABlk.lt, ints_LL, GB, tab64_LL, gC, wB, giC, noneB, gst, tC, pC, gN, gR, rC, rB, zeroT, zeroG, rdn, wrn]; done)) trivial trivial rfl (by simp [GB])
theorem smaller_all (x : Rw) (n : Int) (h4 : x.ws.length ≤ 9223372036854775807) : FDet Tryd.prog 15 [.g (rC x 0), .c (.int .i64 n)] [(0, rB x), (100002, .ro tab64), (100000, noneB)] 1 (.c (.bool true)) [] 1 := by
  by_cases h : (tame x 8 10).ws = []
  · exact smaller_nil x n h4 h
  · exact smaller_row x n h4 h
end Go.Proofs.YtfphkpdobbffeaaDoor
