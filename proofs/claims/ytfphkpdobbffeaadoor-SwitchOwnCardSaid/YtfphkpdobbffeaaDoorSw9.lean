/-
  The law SwitchOwn, as a contract: no trees.
-/
import Derived.Test.YtfphkpdobbffeaaDoorSw8
import Derived.Test.YtfphkpdobbffeaaDoorSw7
set_option linter.unusedSimpArgs false
set_option linter.unusedVariables false
namespace Go.Proofs.YtfphkpdobbffeaaDoor
open Go Go.AH
set_option maxRecDepth 100000
set_option maxHeartbeats 1000000

theorem own_A (x : Rw) (n : Int) (h4 : x.ws.length ≤ 9223372036854775807) (hws : ¬ (tame x 8 8).ws = []) (hTe : treesF (tame x 8 8) (alT (tame x 8 8)) = none) (hS : treesF (tame x 8 8) (alS (tame x 8 8)) = none) : FDet Tryd.prog 8 [.g (rC x 0), .c (.int .i64 n)] [(0, rB x), (100002, .ro tab64), (100000, noneB)] 1 (.c (.bool true)) [] 1 := by
  have hgm := tame_game x (pl := 8) (most := 8) (by omega) (by omega) (by omega)
  have hgl := hgm.ok.len
  have hH1 := hasT_spec hgm.ok hgm.ends
  rw [hTe] at hH1
  have hpos := List.length_pos_iff.2 hws
  have ht := tame_rs (x := x) (pl := 8) (most := 8) (by omega) (by omega) (by omega) h4 hpos
  have hgv := given_rs hpos hgl
  have hsame := same_rs hgm.ok hpos
  generalize tame x 8 8 = g at *
  have hH1 : FDet Tryd.prog _ _ _ _ (.c (.bool false)) _ _ := hH1
  have hT := TreesL_none hgm hTe
  have hba := BarrierU_yes hgm hS
  have hw := um_lt n (n := g.ws.length) (by omega)
  have hwo := without_ok hgm hw
  have hlen : (lessG g (um n g.ws.length)).ws.length ≤ 10 := by simp only [lessG]; rw [List.length_append, List.length_take, List.length_drop]; omega
  generalize hlg : lessG g (um n g.ws.length) = h at *
  refine FSpec.of_body tok true Tryd.func8 rfl (by kernel_rfl) (by decide) (by simp [tupA, hpLt, tmLt, AV.lt, AE.lt, AC.lt, LL_cons, LL_nil, idOk, ABlk.lt, ints_LL, GB, tab64_LL, gC, wB, giC, noneB, gst, tC, pC, gN, gR, rC, rB]) (by simp [tupA, hpLt, tmLt, AV.lt, AE.lt, AC.lt, LL_cons, LL_nil, idOk, ABlk.lt, ints_LL, GB, tab64_LL, gC, wB, giC, noneB, gst, tC, pC, gN, gR, rC, rB]) (by show 2 ≤ _; decide) ?_
  refine Wk.on ?_
  refine CallA.det2 [0] (.g (gC g 2)) ([(1, .own (rC x 0)), (0, rB x), (100002, .ro tab64), (100000, noneB), (2, .row 60 2 (ints (fl g.ws)))]) (ht) ?_
  refine Wk.on ?_
  refine CallA.det2 [2] (.g (gC g 4)) ([(3, .own (gC g 2)), (1, .own (rC x 0)), (0, rB x), (100002, .ro tab64), (100000, noneB), (2, .row 60 2 (ints (fl g.ws))), (4, .row 60 2 (ints (fl g.ws)))]) (hgv) ?_
  refine Wk.on ?_
  refine CallA.ro2 [4] (.t [.g [.nils, .nils], .c (.bool false), .c (.int .i64 0)]) (hT) ?_
  refine Wk.on ?_
  have hbeh : ∀ V : V8, behind [4] 7 [(0, wB g)] (bwH V.1) (gone [4] 7 [(0, wB g)] [(6, .own [.nils, .nils]), (5, .own (gC g 4)), (3, .own (gC g 2)), (1, .own (rC x 0)), (0, rB x), (100002, .ro tab64), (100000, noneB), (2, .row 60 2 (ints (fl g.ws))), (4, .row 60 2 (ints (fl g.ws)))]) = [(6, .own [.nils, .nils]), (5, .own (gC g 4)), (3, .own (gC g 2)), (1, .own (rC x 0)), (0, rB x), (100002, .ro tab64), (100000, noneB), (2, .row 60 2 (ints (fl g.ws))), (4, .row 60 2 (ints (fl g.ws))), (7, .own (rgC 8 V.1))] ++ (rg 8 V.1).reverse := fun V => by
    have hq0 : ∀ i, i < 10 → 1 ≤ i → qq [4] 7 i = 6 + i := by decide
    have hqq : ∀ i, 1 ≤ i → i < 10 → qq [4] 7 i = 6 + i := fun i h1 h2 => hq0 i h2 h1
    have hr := rgC_ren (q := qq [4] 7) V.1 2 8 fun i h1 h2 => by rw [hqq i (by omega) (by have := V.2.2.1; omega)]; omega
    have hT : behind [4] 7 [(0, wB g)] [(1, .own (rgC 2 V.1))] (gone [4] 7 [(0, wB g)] [(6, .own [.nils, .nils]), (5, .own (gC g 4)), (3, .own (gC g 2)), (1, .own (rC x 0)), (0, rB x), (100002, .ro tab64), (100000, noneB), (2, .row 60 2 (ints (fl g.ws))), (4, .row 60 2 (ints (fl g.ws)))]) = [(6, .own [.nils, .nils]), (5, .own (gC g 4)), (3, .own (gC g 2)), (1, .own (rC x 0)), (0, rB x), (100002, .ro tab64), (100000, noneB), (2, .row 60 2 (ints (fl g.ws))), (4, .row 60 2 (ints (fl g.ws))), (7, .own (rgC 8 V.1))] := by
      rw [← hr]; rfl
    show behind [4] 7 [(0, wB g)] (rg 2 V.1 ++ [(1, .own (rgC 2 V.1))]) _ = _
    rw [behind_rg V.1 2 8 (fun i h1 h2 => ⟨by rw [hqq i (by omega) (by have := V.2.2.1; omega)]; omega, lk_none_of (by intro q hq e; simp only [List.mem_cons, List.not_mem_nil, or_false] at hq; subst hq; simp at e; omega)⟩) (by rw [hT]; have := V.2.2.1; intro q hq; simp only [List.mem_cons, List.not_mem_nil, or_false] at hq; rcases hq with rfl | rfl | rfl | rfl | rfl | rfl | rfl | rfl | rfl | rfl <;> simp <;> omega), hT]
  refine CallA.any (X := V8) (I := fun _ => True) [4] (r := fun V => .t [.c (.sl 1 0 V.1.length (some V.1.length)), .c (.bool true), .c (.int .i64 0)]) (hp1 := fun V => bwH V.1) (k1 := 10) (fun V => .t [.c (.sl 7 0 V.1.length (some V.1.length)), .c (.bool true), .c (.int .i64 0)]) (fun V => [(6, .own [.nils, .nils]), (5, .own (gC g 4)), (3, .own (gC g 2)), (1, .own (rC x 0)), (0, rB x), (100002, .ro tab64), (100000, noneB), (2, .row 60 2 (ints (fl g.ws))), (4, .row 60 2 (ints (fl g.ws))), (7, .own (rgC 8 V.1))] ++ (rg 8 V.1).reverse) hba (by first | rfl | exact congrArg AV.g (ints_ren _ _) | (simp [ints_ren, AV.ren, ABlk.ren, AC.ren, AE.ren, qq]; done)) rfl (by (repeat (first | exact trivial | refine ⟨⟨(by first | exact .inl (by decide) | exact .inr (by decide)), (by first | (refine Or.inl ?_; first | rfl | exact congrArg some (ints_ren _ _).symm | exact congrArg ABlk.own (ints_ren _ _).symm | exact congrArg some (tab64_ren _).symm | exact congrArg (ABlk.row _ _) (ints_ren _ _).symm) | rfl | exact congrArg some (ints_ren _ _).symm | exact congrArg ABlk.own (ints_ren _ _).symm | exact congrArg some (tab64_ren _).symm | exact congrArg (ABlk.row _ _) (ints_ren _ _).symm | exact Or.inr ⟨rfl, rfl⟩)⟩, ?_⟩))) (fun V => rfl) hbeh ?_
  rintro ⟨V, hV2, hV8, hVa⟩ _
  dsimp only
  refine Wk.on ?_
  rw [show max ((g.ws.length : Nat) : Int) 1 = ((g.ws.length : Nat) : Int) by omega, wrapU (by omega)]
  refine ⟨⟨wrap_nn _, by omega⟩, ?_⟩
  refine Wk.on ?_
  rw [um_wrap _ (by omega) (by omega)]
  refine Wk.on ?_
  have hup : up ([(6, .own [.nils, .nils]), (5, .own (gC g 4)), (3, .own (gC g 2)), (1, .own (rC x 0)), (0, rB x), (100002, .ro tab64), (100000, noneB), (2, .row 60 2 (ints (fl g.ws))), (4, .row 60 2 (ints (fl g.ws))), (7, .own (rgC 8 V))] ++ (rg 8 V).reverse) 16 (ABlk.row 60 2 ((ints (fl h.ws)).map (AC.ren (qq [4] 16)))) = ([(6, .own [.nils, .nils]), (5, .own (gC g 4)), (3, .own (gC g 2)), (1, .own (rC x 0)), (0, rB x), (100002, .ro tab64), (100000, noneB), (2, .row 60 2 (ints (fl g.ws))), (4, .row 60 2 (ints (fl g.ws))), (7, .own (rgC 8 V))] ++ (rg 8 V).reverse) ++ [(16, ABlk.row 60 2 (ints (fl h.ws)))] := by
    rw [ints_ren]
    refine up_new fun p hp => ?_
    rcases List.mem_append.1 hp with hp | hp
    · simp only [List.mem_cons, List.not_mem_nil, or_false] at hp
      rcases hp with rfl | rfl | rfl | rfl | rfl | rfl | rfl | rfl | rfl | rfl <;> simp
    · have := rg_mem (List.mem_reverse.1 hp); omega
  refine CallA.det [4] (.t [.g (gR h 16), .c (.int .i64 0)]) (([(6, .own [.nils, .nils]), (5, .own (gC g 4)), (3, .own (gC g 2)), (1, .own (rC x 0)), (0, rB x), (100002, .ro tab64), (100000, noneB), (2, .row 60 2 (ints (fl g.ws))), (4, .row 60 2 (ints (fl g.ws))), (7, .own (rgC 8 V))] ++ (rg 8 V).reverse) ++ [(16, ABlk.row 60 2 (ints (fl h.ws)))]) hwo (by first | rfl | exact congrArg AV.g (ints_ren _ _) | (simp [ints_ren, AV.ren, ABlk.ren, AC.ren, AE.ren, qq]; done)) rfl (by (repeat (first | exact trivial | refine ⟨⟨(by first | exact .inl (by decide) | exact .inr (by decide)), (by first | (refine Or.inl ?_; first | rfl | exact congrArg some (ints_ren _ _).symm | exact congrArg ABlk.own (ints_ren _ _).symm | exact congrArg some (tab64_ren _).symm | exact congrArg (ABlk.row _ _) (ints_ren _ _).symm) | rfl | exact congrArg some (ints_ren _ _).symm | exact congrArg ABlk.own (ints_ren _ _).symm | exact congrArg some (tab64_ren _).symm | exact congrArg (ABlk.row _ _) (ints_ren _ _).symm | exact Or.inr ⟨rfl, rfl⟩)⟩, ?_⟩))) (by first | rfl | exact congrArg AV.g (ints_ren _ _) | (simp [ints_ren, AV.ren, ABlk.ren, AC.ren, AE.ren, qq]; done)) hup ?_
  refine Wk.on ?_
  have hf : Fx5 (rg 8 V ++ [(17, .own (gR h 16)), (5, .own (gC g 4)), (3, .own (gC g 2)), (1, .own (rC x 0)), (0, rB x), (100002, .ro tab64), (100000, noneB), (2, .row 60 2 (ints (fl g.ws))), (4, .row 60 2 (ints (fl g.ws))), (7, .own (rgC 8 V)), (16, .row 60 2 (ints (fl h.ws)))]) := Fx5_of (b := 8) (by omega) (nodB_sound rfl) (by intro p hp; simp only [List.mem_cons, List.not_mem_nil, or_false] at hp; rcases hp with rfl | rfl | rfl | rfl | rfl | rfl | rfl | rfl | rfl | rfl | rfl <;> simp <;> omega) (by intro p hp; simp only [List.mem_cons, List.not_mem_nil, or_false] at hp; rcases hp with rfl | rfl | rfl | rfl | rfl | rfl | rfl | rfl | rfl | rfl | rfl <;> simp [GB]) ⟨.inl (by omega), by simp [ABlk.lt, gR, gC, gN, rC, noneB, LL_cons, LL_nil, AC.lt, idOk, tab64_LL, GB], .inl (by omega), by simp [ABlk.lt, gR, gC, gN, rC, noneB, LL_cons, LL_nil, AC.lt, idOk, tab64_LL, GB], .inl (by omega), by simp [ABlk.lt, gR, gC, gN, rC, noneB, LL_cons, LL_nil, AC.lt, idOk, tab64_LL, GB], .inl (by omega), by simp [ABlk.lt, gR, gC, gN, rC, noneB, LL_cons, LL_nil, AC.lt, idOk, tab64_LL, GB], .inl (by omega), ints_LL _ _, .inr (by decide), by simp [ABlk.lt, gR, gC, gN, rC, noneB, LL_cons, LL_nil, AC.lt, idOk, tab64_LL, GB], .inr (by decide), by simp [ABlk.lt, gR, gC, gN, rC, noneB, LL_cons, LL_nil, AC.lt, idOk, tab64_LL, GB], .inl (by omega), ints_LL _ _, .inl (by omega), ints_LL _ _, .inl (by omega), rgC_LL V 8 (by omega), .inl (by omega), ints_LL _ _, trivial⟩
  refine Tr.under (t := ⟨[(7, .c (.ptr 50 0)), (16, .c (.int .i64 0)), (5, .c (.ptr 3 0)), (6, .c (.ptr 5 0)), (9, .c (.int .i64 0)), (10, .c (.sl 7 0 V.length (some V.length))), (12, .c (.int .i64 0)), (14, .c (.ptr 17 0)), (15, .c (.int .i64 0))], TPn (rg 8 V ++ [(17, .own (gR h 16)), (5, .own (gC g 4)), (3, .own (gC g 2)), (1, .own (rC x 0)), (0, rB x), (100002, .ro tab64), (100000, noneB), (2, .row 60 2 (ints (fl g.ws))), (4, .row 60 2 (ints (fl g.ws))), (7, .own (rgC 8 V)), (16, .row 60 2 (ints (fl h.ws)))]), 60, 150, 1⟩) (Under.wk [(50, 6)] ⟨rfl, rfl, Nat.le_of_ble_eq_true rfl, Nat.le_of_ble_eq_true rfl⟩ rfl (by repeat (first | exact trivial | refine ⟨Or.inl rfl, ?_⟩)) ?_ ?_ (by simp [tupA, hpLt, tmLt, AV.lt, AE.lt, AC.lt, LL_cons, LL_nil, idOk, ABlk.lt, ints_LL, GB, tab64_LL, gC, wB, giC, noneB, gst, tC, pC, gN, gR, rC, rB]) (TPn_l hf)) ?_
  · have hr0 : ∀ i, i < 50 → rn [(50, 6)] i = i := fun i hi => by unfold rn; rw [lk_none_of fun p hp e => by simp only [List.mem_cons, List.not_mem_nil, or_false] at hp; rcases hp with rfl <;> simp at e <;> omega]; rfl
    refine hpAll_wk ⟨rfl, hpAll_rg V 8 (fun p hp => ?_) ⟨rfl, rfl, rfl, rfl, congrArg (fun c => some (ABlk.ro c)) (ints_ren _ _).symm, congrArg (fun c => some (ABlk.ro c)) (tab64_ren _).symm, rfl, congrArg (fun c => some (ABlk.row 60 2 c)) (ints_ren _ _).symm, congrArg (fun c => some (ABlk.row 60 2 c)) (ints_ren _ _).symm, congrArg (fun c => some (ABlk.own c)) (rgC_ren V 8 8 fun i h1 h2 => by rw [hr0 i (by omega)]; omega).symm, ?_, trivial⟩⟩
    · have h1 := rg_mem hp
      rw [hr0 p.1 (by omega)]
      exact rg_look (F := [(17, .own (gR h 16)), (6, .own [.nils, .nils]), (5, .own (gC g 4)), (3, .own (gC g 2)), (1, .own (rC x 0)), (0, rB x), (100002, .ro tab64), (100000, noneB), (2, .row 60 2 (ints (fl g.ws))), (4, .row 60 2 (ints (fl g.ws))), (7, .own (rgC 8 V))]) (R := [(16, .row 60 2 (ints (fl h.ws)))]) (by intro p hp; simp only [List.mem_cons, List.not_mem_nil, or_false] at hp; rcases hp with rfl | rfl | rfl | rfl | rfl | rfl | rfl | rfl | rfl | rfl | rfl <;> simp <;> omega) hp
    · show lk ([(17, .own (gR h 16)), (6, .own [.nils, .nils]), (5, .own (gC g 4)), (3, .own (gC g 2)), (1, .own (rC x 0)), (0, rB x), (100002, .ro tab64), (100000, noneB), (2, .row 60 2 (ints (fl g.ws))), (4, .row 60 2 (ints (fl g.ws))), (7, .own (rgC 8 V))] ++ (rg 8 V).reverse ++ [(16, .row 60 2 (ints (fl h.ws)))]) 16 = _
      rw [rg_past rfl (by omega)]
      exact congrArg (fun c => some (ABlk.row 60 2 c)) (ints_ren _ _).symm
  · exact nodQ (A := [(50, ABlk.own [.nils, .nils])]) (b := 8) (c := 8) (V := V) (q := rn [(50, 6)]) (fun i h1 h2 => by unfold rn; rw [lk_none_of fun p hp e => by simp only [List.mem_cons, List.not_mem_nil, or_false] at hp; rcases hp with rfl <;> simp at e <;> omega]; show i = _; omega) rfl (by intro p hp; simp only [List.mem_cons, List.not_mem_nil, or_false, List.cons_append, List.nil_append] at hp; rcases hp with rfl | rfl | rfl | rfl | rfl | rfl | rfl | rfl | rfl | rfl | rfl | rfl <;> simp [rn, lk] <;> omega)
  refine own_l0n hf (.c (.ptr 3 0)) (.c (.ptr 5 0)) (.c (.int .i64 0)) (.c (.sl 7 0 V.length (some V.length))) (.c (.int .i64 0)) (.c (.ptr 17 0)) (.c (.int .i64 0)) (by simp [tupA, hpLt, tmLt, AV.lt, AE.lt, AC.lt, LL_cons, LL_nil, idOk, ABlk.lt, ints_LL, GB, tab64_LL, gC, wB, giC, noneB, gst, tC, pC, gN, gR, rC, rB]) ?_
  refine Wk.on ?_
  have hf2 : Fx [(17, .own (gR h 16)), (5, .own (gC g 4)), (3, .own (gC g 2)), (1, .own (rC x 0)), (0, rB x), (100002, .ro tab64), (100000, noneB), (2, .row 60 2 (ints (fl g.ws))), (4, .row 60 2 (ints (fl g.ws))), (16, .row 60 2 (ints (fl h.ws)))] := ⟨nodB_sound rfl, (by intro p hp; simp only [List.mem_cons, List.not_mem_nil, or_false] at hp; rcases hp with rfl | rfl | rfl | rfl | rfl | rfl | rfl | rfl | rfl | rfl <;> simp [GB]), ⟨.inl (by omega), by simp [ABlk.lt, gR, gC, gN, rC, noneB, LL_cons, LL_nil, AC.lt, idOk, tab64_LL, GB], .inl (by omega), by simp [ABlk.lt, gR, gC, gN, rC, noneB, LL_cons, LL_nil, AC.lt, idOk, tab64_LL, GB], .inl (by omega), by simp [ABlk.lt, gR, gC, gN, rC, noneB, LL_cons, LL_nil, AC.lt, idOk, tab64_LL, GB], .inl (by omega), by simp [ABlk.lt, gR, gC, gN, rC, noneB, LL_cons, LL_nil, AC.lt, idOk, tab64_LL, GB], .inl (by omega), ints_LL _ _, .inr (by decide), by simp [ABlk.lt, gR, gC, gN, rC, noneB, LL_cons, LL_nil, AC.lt, idOk, tab64_LL, GB], .inr (by decide), by simp [ABlk.lt, gR, gC, gN, rC, noneB, LL_cons, LL_nil, AC.lt, idOk, tab64_LL, GB], .inl (by omega), ints_LL _ _, .inl (by omega), ints_LL _ _, .inl (by omega), ints_LL _ _, trivial⟩⟩
  refine Tr.under (t := ⟨[(10, .c (.sl 40 0 V.length (some V.length))), (19, .c (.int .i64 0)), (5, .c (.ptr 3 0)), (6, .c (.ptr 5 0)), (9, .c (.int .i64 0)), (12, .c (.int .i64 0)), (14, .c (.ptr 17 0)), (15, .c (.int .i64 0))], HP V [(17, .own (gR h 16)), (5, .own (gC g 4)), (3, .own (gC g 2)), (1, .own (rC x 0)), (0, rB x), (100002, .ro tab64), (100000, noneB), (2, .row 60 2 (ints (fl g.ws))), (4, .row 60 2 (ints (fl g.ws))), (16, .row 60 2 (ints (fl h.ws)))], 50, 150, 1⟩) (Under.wk [(40, 7), (41, 8), (42, 9), (43, 10), (44, 11), (45, 12), (46, 13), (47, 14), (48, 15)] ⟨rfl, rfl, Nat.le_of_ble_eq_true rfl, Nat.le_of_ble_eq_true rfl⟩ rfl (by repeat (first | exact trivial | refine ⟨Or.inl rfl, ?_⟩)) ?_ ?_ (by simp [tupA, hpLt, tmLt, AV.lt, AE.lt, AC.lt, LL_cons, LL_nil, idOk, ABlk.lt, ints_LL, GB, tab64_LL, gC, wB, giC, noneB, gst, tC, pC, gN, gR, rC, rB]) (HP_l hV8 hf2)) ?_
  · have hr3 : ∀ i, i < 49 → 41 ≤ i → rn [(40, 7), (41, 8), (42, 9), (43, 10), (44, 11), (45, 12), (46, 13), (47, 14), (48, 15)] i = 8 + (i - 41) := by decide
    have hr2 : ∀ i, 41 ≤ i → i < 49 → rn [(40, 7), (41, 8), (42, 9), (43, 10), (44, 11), (45, 12), (46, 13), (47, 14), (48, 15)] i = 8 + (i - 41) := fun i h1 h2 => hr3 i h2 h1
    have hc : ∀ {T : List (Nat × ABlk)}, hpAll [(17, .own (gR h 16)), (5, .own (gC g 4)), (3, .own (gC g 2)), (1, .own (rC x 0)), (0, rB x), (100002, .ro tab64), (100000, noneB), (2, .row 60 2 (ints (fl g.ws))), (4, .row 60 2 (ints (fl g.ws))), (7, .own (rgC 8 V)), (16, .row 60 2 (ints (fl h.ws)))] (rn [(40, 7), (41, 8), (42, 9), (43, 10), (44, 11), (45, 12), (46, 13), (47, 14), (48, 15)]) T → (∀ p ∈ T, (rn [(40, 7), (41, 8), (42, 9), (43, 10), (44, 11), (45, 12), (46, 13), (47, 14), (48, 15)] p.1 < 8 ∨ 8 + V.length ≤ rn [(40, 7), (41, 8), (42, 9), (43, 10), (44, 11), (45, 12), (46, 13), (47, 14), (48, 15)] p.1) ∧ rn [(40, 7), (41, 8), (42, 9), (43, 10), (44, 11), (45, 12), (46, 13), (47, 14), (48, 15)] p.1 < 50 ∨ 100000 ≤ rn [(40, 7), (41, 8), (42, 9), (43, 10), (44, 11), (45, 12), (46, 13), (47, 14), (48, 15)] p.1) → hpAll (TPn (rg 8 V ++ [(17, .own (gR h 16)), (5, .own (gC g 4)), (3, .own (gC g 2)), (1, .own (rC x 0)), (0, rB x), (100002, .ro tab64), (100000, noneB), (2, .row 60 2 (ints (fl g.ws))), (4, .row 60 2 (ints (fl g.ws))), (7, .own (rgC 8 V)), (16, .row 60 2 (ints (fl h.ws)))])) (rn [(40, 7), (41, 8), (42, 9), (43, 10), (44, 11), (45, 12), (46, 13), (47, 14), (48, 15)]) T := fun hT hd => hpAll_past (hpAll_skip hT fun p hp => by have := hd p hp; omega) fun p hp e => by have := hd p hp; omega
    have hh := hc (T := (40, .own (rgC 41 V)) :: [(17, .own (gR h 16)), (5, .own (gC g 4)), (3, .own (gC g 2)), (1, .own (rC x 0)), (0, rB x), (100002, .ro tab64), (100000, noneB), (2, .row 60 2 (ints (fl g.ws))), (4, .row 60 2 (ints (fl g.ws))), (16, .row 60 2 (ints (fl h.ws)))]) ⟨congrArg (fun c => some (ABlk.own c)) (rgC_ren V 41 8 fun i h1 h2 => hr2 i h1 (by omega)).symm, rfl, rfl, rfl, rfl, congrArg (fun c => some (ABlk.ro c)) (ints_ren _ _).symm, congrArg (fun c => some (ABlk.ro c)) (tab64_ren _).symm, rfl, congrArg (fun c => some (ABlk.row 60 2 c)) (ints_ren _ _).symm, congrArg (fun c => some (ABlk.row 60 2 c)) (ints_ren _ _).symm, congrArg (fun c => some (ABlk.row 60 2 c)) (ints_ren _ _).symm, trivial⟩ (by intro p hp; simp only [List.mem_cons, List.not_mem_nil, or_false] at hp; rcases hp with rfl | rfl | rfl | rfl | rfl | rfl | rfl | rfl | rfl | rfl | rfl <;> simp [rn, lk] <;> omega)
    refine hpAll_wk ⟨hh.1, hpAll_rg V 41 (fun p hp => ?_) hh.2⟩
    have h1 := rg_mem hp
    rw [hr2 p.1 (by omega) (by omega)]
    have h3 := rg_front (R := [(17, .own (gR h 16)), (5, .own (gC g 4)), (3, .own (gC g 2)), (1, .own (rC x 0)), (0, rB x), (100002, .ro tab64), (100000, noneB), (2, .row 60 2 (ints (fl g.ws))), (4, .row 60 2 (ints (fl g.ws))), (7, .own (rgC 8 V)), (16, .row 60 2 (ints (fl h.ws)))]) (rg_at (c := 8) hp)
    show lk ((50, ABlk.own [.nils, .nils]) :: (rg 8 V ++ [(17, .own (gR h 16)), (5, .own (gC g 4)), (3, .own (gC g 2)), (1, .own (rC x 0)), (0, rB x), (100002, .ro tab64), (100000, noneB), (2, .row 60 2 (ints (fl g.ws))), (4, .row 60 2 (ints (fl g.ws))), (7, .own (rgC 8 V)), (16, .row 60 2 (ints (fl h.ws)))])) _ = _
    rw [lk, if_neg (by omega)]
    exact h3
  · have hr3 : ∀ i, i < 49 → 41 ≤ i → rn [(40, 7), (41, 8), (42, 9), (43, 10), (44, 11), (45, 12), (46, 13), (47, 14), (48, 15)] i = 8 + (i - 41) := by decide
    exact nodQ (A := [(40, .own (rgC 41 V))]) (B := [(17, .own (gR h 16)), (5, .own (gC g 4)), (3, .own (gC g 2)), (1, .own (rC x 0)), (0, rB x), (100002, .ro tab64), (100000, noneB), (2, .row 60 2 (ints (fl g.ws))), (4, .row 60 2 (ints (fl g.ws))), (16, .row 60 2 (ints (fl h.ws)))]) (b := 41) (c := 8) (V := V) (q := rn [(40, 7), (41, 8), (42, 9), (43, 10), (44, 11), (45, 12), (46, 13), (47, 14), (48, 15)]) (fun i h1 h2 => hr3 i (by omega) h1) rfl (by intro p hp; simp only [List.mem_cons, List.not_mem_nil, or_false, List.cons_append, List.nil_append] at hp; rcases hp with rfl | rfl | rfl | rfl | rfl | rfl | rfl | rfl | rfl | rfl | rfl <;> simp [rn, lk] <;> omega)
  refine own_l2 hV2 hV8 hVa hf2 (.c (.ptr 3 0)) (.c (.ptr 5 0)) (.c (.int .i64 0)) (.c (.int .i64 0)) (.c (.ptr 17 0)) (.c (.int .i64 0)) (by simp [tupA, hpLt, tmLt, AV.lt, AE.lt, AC.lt, LL_cons, LL_nil, idOk, ABlk.lt, ints_LL, GB, tab64_LL, gC, wB, giC, noneB, gst, tC, pC, gN, gR, rC, rB]) ?_
  intro V2 hV2l
  refine Wk.on ?_
  have hf3 : Fx6 [(5, .own (gC g 4)), (3, .own (gC g 2)), (1, .own (rC x 0)), (0, rB x), (100002, .ro tab64), (100000, noneB), (2, .row 60 2 (ints (fl g.ws))), (4, .row 60 2 (ints (fl g.ws)))] := ⟨nodB_sound rfl, (by intro p hp; simp only [List.mem_cons, List.not_mem_nil, or_false] at hp; rcases hp with rfl | rfl | rfl | rfl | rfl | rfl | rfl | rfl <;> simp [GB]), ⟨.inl (by omega), by simp [ABlk.lt, gR, gC, gN, rC, noneB, LL_cons, LL_nil, AC.lt, idOk, tab64_LL, GB], .inl (by omega), by simp [ABlk.lt, gR, gC, gN, rC, noneB, LL_cons, LL_nil, AC.lt, idOk, tab64_LL, GB], .inl (by omega), by simp [ABlk.lt, gR, gC, gN, rC, noneB, LL_cons, LL_nil, AC.lt, idOk, tab64_LL, GB], .inl (by omega), ints_LL _ _, .inr (by decide), by simp [ABlk.lt, gR, gC, gN, rC, noneB, LL_cons, LL_nil, AC.lt, idOk, tab64_LL, GB], .inr (by decide), by simp [ABlk.lt, gR, gC, gN, rC, noneB, LL_cons, LL_nil, AC.lt, idOk, tab64_LL, GB], .inl (by omega), ints_LL _ _, .inl (by omega), ints_LL _ _, trivial⟩⟩
  refine Tr.under (t := ⟨[(14, .c (.ptr 60 0)), (22, .c (.int .i64 0)), (5, .c (.ptr 3 0)), (6, .c (.ptr 5 0)), (9, .c (.int .i64 0)), (12, .c (.int .i64 0)), (15, .c (.int .i64 0))], LP h.n h.s h.t h.ws.length (fl h.ws) [(5, .own (gC g 4)), (3, .own (gC g 2)), (1, .own (rC x 0)), (0, rB x), (100002, .ro tab64), (100000, noneB), (2, .row 60 2 (ints (fl g.ws))), (4, .row 60 2 (ints (fl g.ws)))], 70, 150, 1⟩) (Under.wk [(60, 17), (61, 16)] ⟨rfl, rfl, Nat.le_of_ble_eq_true rfl, Nat.le_of_ble_eq_true rfl⟩ rfl (by repeat (first | exact trivial | refine ⟨Or.inl rfl, ?_⟩)) ?_ rfl (by simp [tupA, hpLt, tmLt, AV.lt, AE.lt, AC.lt, LL_cons, LL_nil, idOk, ABlk.lt, ints_LL, GB, tab64_LL, gC, wB, giC, noneB, gst, tC, pC, gN, gR, rC, rB]) (LP_l hf3)) ?_
  · exact hpAll_wk (hpAll_past (T := (61, .row 60 2 (ints (fl h.ws))) :: (60, .own [.int .i64 h.n, .int .i64 h.s, .int .i64 h.t, .row 61 h.ws.length]) :: [(5, .own (gC g 4)), (3, .own (gC g 2)), (1, .own (rC x 0)), (0, rB x), (100002, .ro tab64), (100000, noneB), (2, .row 60 2 (ints (fl g.ws))), (4, .row 60 2 (ints (fl g.ws)))]) (hpAll_skip ⟨congrArg (fun c => some (ABlk.row 60 2 c)) (ints_ren _ _).symm, rfl, rfl, rfl, rfl, congrArg (fun c => some (ABlk.ro c)) (ints_ren _ _).symm, congrArg (fun c => some (ABlk.ro c)) (tab64_ren _).symm, rfl, congrArg (fun c => some (ABlk.row 60 2 c)) (ints_ren _ _).symm, congrArg (fun c => some (ABlk.row 60 2 c)) (ints_ren _ _).symm, trivial⟩ (by intro p hp; simp only [List.mem_cons, List.not_mem_nil, or_false] at hp; rcases hp with rfl | rfl | rfl | rfl | rfl | rfl | rfl | rfl | rfl | rfl <;> simp [rn, lk] <;> omega)) (by intro p hp; simp only [List.mem_cons, List.not_mem_nil, or_false] at hp; rcases hp with rfl | rfl | rfl | rfl | rfl | rfl | rfl | rfl | rfl | rfl <;> simp [rn, lk]))
  refine own_l4 (fl_len _) hlen hf3 (.c (.ptr 3 0)) (.c (.ptr 5 0)) (.c (.int .i64 0)) (.c (.int .i64 0)) (.c (.int .i64 0)) (by simp [tupA, hpLt, tmLt, AV.lt, AE.lt, AC.lt, LL_cons, LL_nil, idOk, ABlk.lt, ints_LL, GB, tab64_LL, gC, wB, giC, noneB, gst, tC, pC, gN, gR, rC, rB]) ?_
  intro L
  refine Wk.on ?_
  refine CallA.ro2 [4] (.t [.g [.nils, .nils], .c (.bool false), .c (.int .i64 0)]) (hT) ?_
  refine Wk.on ?_
  rw [decide_eq_true (show (0 : Int) < ((g.ws.length : Nat) : Int) by omega)]
  refine Wk.on ?_
  refine CallA.ro2 [2] (.c (.bool false)) (hH1) ?_
  refine Wk.on ?_
  refine CallA.ro2 [4, 2] (.c (.bool true)) (hsame) ?_
  refine Wk.on ?_
  refine CallA.ro2 [] (.c (.bool true)) (awake_spec) ?_
  refine Wk.on ?_
  exact AH.Fin.nil2 ⟨rfl, rfl, rfl⟩
end Go.Proofs.YtfphkpdobbffeaaDoor

/-
  The law SwitchOwn, as a contract: trees and a barrier.
-/
namespace Go.Proofs.YtfphkpdobbffeaaDoor
open Go Go.AH
set_option maxRecDepth 100000
set_option maxHeartbeats 1000000

theorem own_B (x : Rw) (n : Int) (h4 : x.ws.length ≤ 9223372036854775807) (hws : ¬ (tame x 8 8).ws = []) {a b : Nat} (hTe : treesF (tame x 8 8) (alT (tame x 8 8)) = some (a, b)) (hS : treesF (tame x 8 8) (alS (tame x 8 8)) = none) : FDet Tryd.prog 8 [.g (rC x 0), .c (.int .i64 n)] [(0, rB x), (100002, .ro tab64), (100000, noneB)] 1 (.c (.bool true)) [] 1 := by
  have hgm := tame_game x (pl := 8) (most := 8) (by omega) (by omega) (by omega)
  have hgl := hgm.ok.len
  have hH1 := hasT_spec hgm.ok hgm.ends
  rw [hTe] at hH1
  have hpos := List.length_pos_iff.2 hws
  have ht := tame_rs (x := x) (pl := 8) (most := 8) (by omega) (by omega) (by omega) h4 hpos
  have hgv := given_rs hpos hgl
  have hsame := same_rs hgm.ok hpos
  generalize tame x 8 8 = g at *
  have hH1 : FDet Tryd.prog _ _ _ _ (.c (.bool true)) _ _ := hH1
  obtain ⟨k1, k2, k3, _⟩ := treesF_lt hgl hTe
  have hp10 := ws1024 hgm.ok
  have hT := TreesL_some hgm hTe
  have hTw := Trees_spec hgm
  rw [hTe] at hTw
  have hTw : FDet Tryd.prog _ _ _ _ (.t [.g [.row 1 (mem a).length, .row 2 (mem b).length], .c (.bool true), .c (.int .i64 0)]) [(1, .row 3 1 (ints (mem a))), (2, .row 3 1 (ints (mem b)))] 3 := hTw
  have hma : (mem a).length ≤ 10 := by have := mem_len (n := a) (by omega); omega
  have hmb : (mem b).length ≤ 10 := by have := mem_len (n := b) (by omega); omega
  have hba := BarrierU_yes hgm hS
  have hw := um_lt n (n := g.ws.length) (by omega)
  have hwo := without_ok hgm hw
  have hlen : (lessG g (um n g.ws.length)).ws.length ≤ 10 := by simp only [lessG]; rw [List.length_append, List.length_take, List.length_drop]; omega
  generalize hlg : lessG g (um n g.ws.length) = h at *
  refine FSpec.of_body tok true Tryd.func8 rfl (by kernel_rfl) (by decide) (by simp [tupA, hpLt, tmLt, AV.lt, AE.lt, AC.lt, LL_cons, LL_nil, idOk, ABlk.lt, ints_LL, GB, tab64_LL, gC, wB, giC, noneB, gst, tC, pC, gN, gR, rC, rB]) (by simp [tupA, hpLt, tmLt, AV.lt, AE.lt, AC.lt, LL_cons, LL_nil, idOk, ABlk.lt, ints_LL, GB, tab64_LL, gC, wB, giC, noneB, gst, tC, pC, gN, gR, rC, rB]) (by show 2 ≤ _; decide) ?_
  refine Wk.on ?_
  refine CallA.det2 [0] (.g (gC g 2)) ([(1, .own (rC x 0)), (0, rB x), (100002, .ro tab64), (100000, noneB), (2, .row 60 2 (ints (fl g.ws)))]) (ht) ?_
  refine Wk.on ?_
  refine CallA.det2 [2] (.g (gC g 4)) ([(3, .own (gC g 2)), (1, .own (rC x 0)), (0, rB x), (100002, .ro tab64), (100000, noneB), (2, .row 60 2 (ints (fl g.ws))), (4, .row 60 2 (ints (fl g.ws)))]) (hgv) ?_
  refine Wk.on ?_
  refine CallA.det2 [4] (.t [.g [.row 6 (mem a).length, .row 7 (mem b).length], .c (.bool true), .c (.int .i64 0)]) ([(5, .own (gC g 4)), (3, .own (gC g 2)), (1, .own (rC x 0)), (0, rB x), (100002, .ro tab64), (100000, noneB), (2, .row 60 2 (ints (fl g.ws))), (4, .row 60 2 (ints (fl g.ws))), (7, .row 3 1 (ints (mem b))), (6, .row 3 1 (ints (mem a)))]) (hTw) ?_
  refine Wk.on ?_
  have hbeh : ∀ V : V8, behind [4] 9 [(0, wB g)] (bwH V.1) (gone [4] 9 [(0, wB g)] [(8, .own [.row 6 (mem a).length, .row 7 (mem b).length]), (5, .own (gC g 4)), (3, .own (gC g 2)), (1, .own (rC x 0)), (0, rB x), (100002, .ro tab64), (100000, noneB), (2, .row 60 2 (ints (fl g.ws))), (4, .row 60 2 (ints (fl g.ws))), (7, .row 3 1 (ints (mem b))), (6, .row 3 1 (ints (mem a)))]) = [(8, .own [.row 6 (mem a).length, .row 7 (mem b).length]), (5, .own (gC g 4)), (3, .own (gC g 2)), (1, .own (rC x 0)), (0, rB x), (100002, .ro tab64), (100000, noneB), (2, .row 60 2 (ints (fl g.ws))), (4, .row 60 2 (ints (fl g.ws))), (7, .row 3 1 (ints (mem b))), (6, .row 3 1 (ints (mem a))), (9, .own (rgC 10 V.1))] ++ (rg 10 V.1).reverse := fun V => by
    have hq0 : ∀ i, i < 10 → 1 ≤ i → qq [4] 9 i = 8 + i := by decide
    have hqq : ∀ i, 1 ≤ i → i < 10 → qq [4] 9 i = 8 + i := fun i h1 h2 => hq0 i h2 h1
    have hr := rgC_ren (q := qq [4] 9) V.1 2 10 fun i h1 h2 => by rw [hqq i (by omega) (by have := V.2.2.1; omega)]; omega
    have hT : behind [4] 9 [(0, wB g)] [(1, .own (rgC 2 V.1))] (gone [4] 9 [(0, wB g)] [(8, .own [.row 6 (mem a).length, .row 7 (mem b).length]), (5, .own (gC g 4)), (3, .own (gC g 2)), (1, .own (rC x 0)), (0, rB x), (100002, .ro tab64), (100000, noneB), (2, .row 60 2 (ints (fl g.ws))), (4, .row 60 2 (ints (fl g.ws))), (7, .row 3 1 (ints (mem b))), (6, .row 3 1 (ints (mem a)))]) = [(8, .own [.row 6 (mem a).length, .row 7 (mem b).length]), (5, .own (gC g 4)), (3, .own (gC g 2)), (1, .own (rC x 0)), (0, rB x), (100002, .ro tab64), (100000, noneB), (2, .row 60 2 (ints (fl g.ws))), (4, .row 60 2 (ints (fl g.ws))), (7, .row 3 1 (ints (mem b))), (6, .row 3 1 (ints (mem a))), (9, .own (rgC 10 V.1))] := by
      rw [← hr]; rfl
    show behind [4] 9 [(0, wB g)] (rg 2 V.1 ++ [(1, .own (rgC 2 V.1))]) _ = _
    rw [behind_rg V.1 2 10 (fun i h1 h2 => ⟨by rw [hqq i (by omega) (by have := V.2.2.1; omega)]; omega, lk_none_of (by intro q hq e; simp only [List.mem_cons, List.not_mem_nil, or_false] at hq; subst hq; simp at e; omega)⟩) (by rw [hT]; have := V.2.2.1; intro q hq; simp only [List.mem_cons, List.not_mem_nil, or_false] at hq; rcases hq with rfl | rfl | rfl | rfl | rfl | rfl | rfl | rfl | rfl | rfl | rfl | rfl <;> simp <;> omega), hT]
  refine CallA.any (X := V8) (I := fun _ => True) [4] (r := fun V => .t [.c (.sl 1 0 V.1.length (some V.1.length)), .c (.bool true), .c (.int .i64 0)]) (hp1 := fun V => bwH V.1) (k1 := 10) (fun V => .t [.c (.sl 9 0 V.1.length (some V.1.length)), .c (.bool true), .c (.int .i64 0)]) (fun V => [(8, .own [.row 6 (mem a).length, .row 7 (mem b).length]), (5, .own (gC g 4)), (3, .own (gC g 2)), (1, .own (rC x 0)), (0, rB x), (100002, .ro tab64), (100000, noneB), (2, .row 60 2 (ints (fl g.ws))), (4, .row 60 2 (ints (fl g.ws))), (7, .row 3 1 (ints (mem b))), (6, .row 3 1 (ints (mem a))), (9, .own (rgC 10 V.1))] ++ (rg 10 V.1).reverse) hba (by first | rfl | exact congrArg AV.g (ints_ren _ _) | (simp [ints_ren, AV.ren, ABlk.ren, AC.ren, AE.ren, qq]; done)) rfl (by (repeat (first | exact trivial | refine ⟨⟨(by first | exact .inl (by decide) | exact .inr (by decide)), (by first | (refine Or.inl ?_; first | rfl | exact congrArg some (ints_ren _ _).symm | exact congrArg ABlk.own (ints_ren _ _).symm | exact congrArg some (tab64_ren _).symm | exact congrArg (ABlk.row _ _) (ints_ren _ _).symm) | rfl | exact congrArg some (ints_ren _ _).symm | exact congrArg ABlk.own (ints_ren _ _).symm | exact congrArg some (tab64_ren _).symm | exact congrArg (ABlk.row _ _) (ints_ren _ _).symm | exact Or.inr ⟨rfl, rfl⟩)⟩, ?_⟩))) (fun V => rfl) hbeh ?_
  rintro ⟨V, hV2, hV8, hVa⟩ _
  dsimp only
  refine Wk.on ?_
  rw [show max ((g.ws.length : Nat) : Int) 1 = ((g.ws.length : Nat) : Int) by omega, wrapU (by omega)]
  refine ⟨⟨wrap_nn _, by omega⟩, ?_⟩
  refine Wk.on ?_
  rw [um_wrap _ (by omega) (by omega)]
  refine Wk.on ?_
  have hup : up ([(8, .own [.row 6 (mem a).length, .row 7 (mem b).length]), (5, .own (gC g 4)), (3, .own (gC g 2)), (1, .own (rC x 0)), (0, rB x), (100002, .ro tab64), (100000, noneB), (2, .row 60 2 (ints (fl g.ws))), (4, .row 60 2 (ints (fl g.ws))), (7, .row 3 1 (ints (mem b))), (6, .row 3 1 (ints (mem a))), (9, .own (rgC 10 V))] ++ (rg 10 V).reverse) 18 (ABlk.row 60 2 ((ints (fl h.ws)).map (AC.ren (qq [4] 18)))) = ([(8, .own [.row 6 (mem a).length, .row 7 (mem b).length]), (5, .own (gC g 4)), (3, .own (gC g 2)), (1, .own (rC x 0)), (0, rB x), (100002, .ro tab64), (100000, noneB), (2, .row 60 2 (ints (fl g.ws))), (4, .row 60 2 (ints (fl g.ws))), (7, .row 3 1 (ints (mem b))), (6, .row 3 1 (ints (mem a))), (9, .own (rgC 10 V))] ++ (rg 10 V).reverse) ++ [(18, ABlk.row 60 2 (ints (fl h.ws)))] := by
    rw [ints_ren]
    refine up_new fun p hp => ?_
    rcases List.mem_append.1 hp with hp | hp
    · simp only [List.mem_cons, List.not_mem_nil, or_false] at hp
      rcases hp with rfl | rfl | rfl | rfl | rfl | rfl | rfl | rfl | rfl | rfl | rfl | rfl <;> simp
    · have := rg_mem (List.mem_reverse.1 hp); omega
  refine CallA.det [4] (.t [.g (gR h 18), .c (.int .i64 0)]) (([(8, .own [.row 6 (mem a).length, .row 7 (mem b).length]), (5, .own (gC g 4)), (3, .own (gC g 2)), (1, .own (rC x 0)), (0, rB x), (100002, .ro tab64), (100000, noneB), (2, .row 60 2 (ints (fl g.ws))), (4, .row 60 2 (ints (fl g.ws))), (7, .row 3 1 (ints (mem b))), (6, .row 3 1 (ints (mem a))), (9, .own (rgC 10 V))] ++ (rg 10 V).reverse) ++ [(18, ABlk.row 60 2 (ints (fl h.ws)))]) hwo (by first | rfl | exact congrArg AV.g (ints_ren _ _) | (simp [ints_ren, AV.ren, ABlk.ren, AC.ren, AE.ren, qq]; done)) rfl (by (repeat (first | exact trivial | refine ⟨⟨(by first | exact .inl (by decide) | exact .inr (by decide)), (by first | (refine Or.inl ?_; first | rfl | exact congrArg some (ints_ren _ _).symm | exact congrArg ABlk.own (ints_ren _ _).symm | exact congrArg some (tab64_ren _).symm | exact congrArg (ABlk.row _ _) (ints_ren _ _).symm) | rfl | exact congrArg some (ints_ren _ _).symm | exact congrArg ABlk.own (ints_ren _ _).symm | exact congrArg some (tab64_ren _).symm | exact congrArg (ABlk.row _ _) (ints_ren _ _).symm | exact Or.inr ⟨rfl, rfl⟩)⟩, ?_⟩))) (by first | rfl | exact congrArg AV.g (ints_ren _ _) | (simp [ints_ren, AV.ren, ABlk.ren, AC.ren, AE.ren, qq]; done)) hup ?_
  refine Wk.on ?_
  have hf : Fx5 (rg 10 V ++ [(19, .own (gR h 18)), (5, .own (gC g 4)), (3, .own (gC g 2)), (1, .own (rC x 0)), (0, rB x), (100002, .ro tab64), (100000, noneB), (2, .row 60 2 (ints (fl g.ws))), (4, .row 60 2 (ints (fl g.ws))), (9, .own (rgC 10 V)), (18, .row 60 2 (ints (fl h.ws)))]) := Fx5_of (b := 10) (by omega) (nodB_sound rfl) (by intro p hp; simp only [List.mem_cons, List.not_mem_nil, or_false] at hp; rcases hp with rfl | rfl | rfl | rfl | rfl | rfl | rfl | rfl | rfl | rfl | rfl <;> simp <;> omega) (by intro p hp; simp only [List.mem_cons, List.not_mem_nil, or_false] at hp; rcases hp with rfl | rfl | rfl | rfl | rfl | rfl | rfl | rfl | rfl | rfl | rfl <;> simp [GB]) ⟨.inl (by omega), by simp [ABlk.lt, gR, gC, gN, rC, noneB, LL_cons, LL_nil, AC.lt, idOk, tab64_LL, GB], .inl (by omega), by simp [ABlk.lt, gR, gC, gN, rC, noneB, LL_cons, LL_nil, AC.lt, idOk, tab64_LL, GB], .inl (by omega), by simp [ABlk.lt, gR, gC, gN, rC, noneB, LL_cons, LL_nil, AC.lt, idOk, tab64_LL, GB], .inl (by omega), by simp [ABlk.lt, gR, gC, gN, rC, noneB, LL_cons, LL_nil, AC.lt, idOk, tab64_LL, GB], .inl (by omega), ints_LL _ _, .inr (by decide), by simp [ABlk.lt, gR, gC, gN, rC, noneB, LL_cons, LL_nil, AC.lt, idOk, tab64_LL, GB], .inr (by decide), by simp [ABlk.lt, gR, gC, gN, rC, noneB, LL_cons, LL_nil, AC.lt, idOk, tab64_LL, GB], .inl (by omega), ints_LL _ _, .inl (by omega), ints_LL _ _, .inl (by omega), rgC_LL V 10 (by omega), .inl (by omega), ints_LL _ _, trivial⟩
  refine Tr.under (t := ⟨[(7, .c (.ptr 50 0)), (16, .c (.int .i64 0)), (5, .c (.ptr 3 0)), (6, .c (.ptr 5 0)), (9, .c (.int .i64 0)), (10, .c (.sl 9 0 V.length (some V.length))), (12, .c (.int .i64 0)), (14, .c (.ptr 19 0)), (15, .c (.int .i64 0))], TP (mem a) (mem b) (rg 10 V ++ [(19, .own (gR h 18)), (5, .own (gC g 4)), (3, .own (gC g 2)), (1, .own (rC x 0)), (0, rB x), (100002, .ro tab64), (100000, noneB), (2, .row 60 2 (ints (fl g.ws))), (4, .row 60 2 (ints (fl g.ws))), (9, .own (rgC 10 V)), (18, .row 60 2 (ints (fl h.ws)))]), 60, 150, 1⟩) (Under.wk [(50, 8), (51, 6), (52, 7)] ⟨rfl, rfl, Nat.le_of_ble_eq_true rfl, Nat.le_of_ble_eq_true rfl⟩ rfl (by repeat (first | exact trivial | refine ⟨Or.inl rfl, ?_⟩)) ?_ ?_ (by simp [tupA, hpLt, tmLt, AV.lt, AE.lt, AC.lt, LL_cons, LL_nil, idOk, ABlk.lt, ints_LL, GB, tab64_LL, gC, wB, giC, noneB, gst, tC, pC, gN, gR, rC, rB]) (TP_l hf)) ?_
  · have hr0 : ∀ i, i < 50 → rn [(50, 8), (51, 6), (52, 7)] i = i := fun i hi => by unfold rn; rw [lk_none_of fun p hp e => by simp only [List.mem_cons, List.not_mem_nil, or_false] at hp; rcases hp with rfl | rfl | rfl <;> simp at e <;> omega]; rfl
    refine hpAll_wk ⟨congrArg (fun c => some (ABlk.row 3 1 c)) (ints_ren _ _).symm, congrArg (fun c => some (ABlk.row 3 1 c)) (ints_ren _ _).symm, rfl, hpAll_rg V 10 (fun p hp => ?_) ⟨rfl, rfl, rfl, rfl, congrArg (fun c => some (ABlk.ro c)) (ints_ren _ _).symm, congrArg (fun c => some (ABlk.ro c)) (tab64_ren _).symm, rfl, congrArg (fun c => some (ABlk.row 60 2 c)) (ints_ren _ _).symm, congrArg (fun c => some (ABlk.row 60 2 c)) (ints_ren _ _).symm, congrArg (fun c => some (ABlk.own c)) (rgC_ren V 10 10 fun i h1 h2 => by rw [hr0 i (by omega)]; omega).symm, ?_, trivial⟩⟩
    · have h1 := rg_mem hp
      rw [hr0 p.1 (by omega)]
      exact rg_look (F := [(19, .own (gR h 18)), (8, .own [.row 6 (mem a).length, .row 7 (mem b).length]), (5, .own (gC g 4)), (3, .own (gC g 2)), (1, .own (rC x 0)), (0, rB x), (100002, .ro tab64), (100000, noneB), (2, .row 60 2 (ints (fl g.ws))), (4, .row 60 2 (ints (fl g.ws))), (7, .row 3 1 (ints (mem b))), (6, .row 3 1 (ints (mem a))), (9, .own (rgC 10 V))]) (R := [(18, .row 60 2 (ints (fl h.ws)))]) (by intro p hp; simp only [List.mem_cons, List.not_mem_nil, or_false] at hp; rcases hp with rfl | rfl | rfl | rfl | rfl | rfl | rfl | rfl | rfl | rfl | rfl | rfl | rfl <;> simp <;> omega) hp
    · show lk ([(19, .own (gR h 18)), (8, .own [.row 6 (mem a).length, .row 7 (mem b).length]), (5, .own (gC g 4)), (3, .own (gC g 2)), (1, .own (rC x 0)), (0, rB x), (100002, .ro tab64), (100000, noneB), (2, .row 60 2 (ints (fl g.ws))), (4, .row 60 2 (ints (fl g.ws))), (7, .row 3 1 (ints (mem b))), (6, .row 3 1 (ints (mem a))), (9, .own (rgC 10 V))] ++ (rg 10 V).reverse ++ [(18, .row 60 2 (ints (fl h.ws)))]) 18 = _
      rw [rg_past rfl (by omega)]
      exact congrArg (fun c => some (ABlk.row 60 2 c)) (ints_ren _ _).symm
  · exact nodQ (A := [(51, ABlk.row 3 1 (ints (mem a))), (52, .row 3 1 (ints (mem b))), (50, .own [.row 51 (mem a).length, .row 52 (mem b).length])]) (b := 10) (c := 10) (V := V) (q := rn [(50, 8), (51, 6), (52, 7)]) (fun i h1 h2 => by unfold rn; rw [lk_none_of fun p hp e => by simp only [List.mem_cons, List.not_mem_nil, or_false] at hp; rcases hp with rfl | rfl | rfl <;> simp at e <;> omega]; show i = _; omega) rfl (by intro p hp; simp only [List.mem_cons, List.not_mem_nil, or_false, List.cons_append, List.nil_append] at hp; rcases hp with rfl | rfl | rfl | rfl | rfl | rfl | rfl | rfl | rfl | rfl | rfl | rfl | rfl | rfl <;> simp [rn, lk] <;> omega)
  refine own_l0 hma hmb hf (.c (.ptr 3 0)) (.c (.ptr 5 0)) (.c (.int .i64 0)) (.c (.sl 9 0 V.length (some V.length))) (.c (.int .i64 0)) (.c (.ptr 19 0)) (.c (.int .i64 0)) (by simp [tupA, hpLt, tmLt, AV.lt, AE.lt, AC.lt, LL_cons, LL_nil, idOk, ABlk.lt, ints_LL, GB, tab64_LL, gC, wB, giC, noneB, gst, tC, pC, gN, gR, rC, rB]) ?_
  intro A B
  refine Wk.on ?_
  have hf2 : Fx [(19, .own (gR h 18)), (5, .own (gC g 4)), (3, .own (gC g 2)), (1, .own (rC x 0)), (0, rB x), (100002, .ro tab64), (100000, noneB), (2, .row 60 2 (ints (fl g.ws))), (4, .row 60 2 (ints (fl g.ws))), (18, .row 60 2 (ints (fl h.ws)))] := ⟨nodB_sound rfl, (by intro p hp; simp only [List.mem_cons, List.not_mem_nil, or_false] at hp; rcases hp with rfl | rfl | rfl | rfl | rfl | rfl | rfl | rfl | rfl | rfl <;> simp [GB]), ⟨.inl (by omega), by simp [ABlk.lt, gR, gC, gN, rC, noneB, LL_cons, LL_nil, AC.lt, idOk, tab64_LL, GB], .inl (by omega), by simp [ABlk.lt, gR, gC, gN, rC, noneB, LL_cons, LL_nil, AC.lt, idOk, tab64_LL, GB], .inl (by omega), by simp [ABlk.lt, gR, gC, gN, rC, noneB, LL_cons, LL_nil, AC.lt, idOk, tab64_LL, GB], .inl (by omega), by simp [ABlk.lt, gR, gC, gN, rC, noneB, LL_cons, LL_nil, AC.lt, idOk, tab64_LL, GB], .inl (by omega), ints_LL _ _, .inr (by decide), by simp [ABlk.lt, gR, gC, gN, rC, noneB, LL_cons, LL_nil, AC.lt, idOk, tab64_LL, GB], .inr (by decide), by simp [ABlk.lt, gR, gC, gN, rC, noneB, LL_cons, LL_nil, AC.lt, idOk, tab64_LL, GB], .inl (by omega), ints_LL _ _, .inl (by omega), ints_LL _ _, .inl (by omega), ints_LL _ _, trivial⟩⟩
  refine Tr.under (t := ⟨[(10, .c (.sl 40 0 V.length (some V.length))), (19, .c (.int .i64 0)), (5, .c (.ptr 3 0)), (6, .c (.ptr 5 0)), (9, .c (.int .i64 0)), (12, .c (.int .i64 0)), (14, .c (.ptr 19 0)), (15, .c (.int .i64 0))], HP V [(19, .own (gR h 18)), (5, .own (gC g 4)), (3, .own (gC g 2)), (1, .own (rC x 0)), (0, rB x), (100002, .ro tab64), (100000, noneB), (2, .row 60 2 (ints (fl g.ws))), (4, .row 60 2 (ints (fl g.ws))), (18, .row 60 2 (ints (fl h.ws)))], 50, 150, 1⟩) (Under.wk [(40, 9), (41, 10), (42, 11), (43, 12), (44, 13), (45, 14), (46, 15), (47, 16), (48, 17)] ⟨rfl, rfl, Nat.le_of_ble_eq_true rfl, Nat.le_of_ble_eq_true rfl⟩ rfl (by repeat (first | exact trivial | refine ⟨Or.inl rfl, ?_⟩)) ?_ ?_ (by simp [tupA, hpLt, tmLt, AV.lt, AE.lt, AC.lt, LL_cons, LL_nil, idOk, ABlk.lt, ints_LL, GB, tab64_LL, gC, wB, giC, noneB, gst, tC, pC, gN, gR, rC, rB]) (HP_l hV8 hf2)) ?_
  · have hr3 : ∀ i, i < 49 → 41 ≤ i → rn [(40, 9), (41, 10), (42, 11), (43, 12), (44, 13), (45, 14), (46, 15), (47, 16), (48, 17)] i = 10 + (i - 41) := by decide
    have hr2 : ∀ i, 41 ≤ i → i < 49 → rn [(40, 9), (41, 10), (42, 11), (43, 12), (44, 13), (45, 14), (46, 15), (47, 16), (48, 17)] i = 10 + (i - 41) := fun i h1 h2 => hr3 i h2 h1
    have hc : ∀ {T : List (Nat × ABlk)}, hpAll [(19, .own (gR h 18)), (5, .own (gC g 4)), (3, .own (gC g 2)), (1, .own (rC x 0)), (0, rB x), (100002, .ro tab64), (100000, noneB), (2, .row 60 2 (ints (fl g.ws))), (4, .row 60 2 (ints (fl g.ws))), (9, .own (rgC 10 V)), (18, .row 60 2 (ints (fl h.ws)))] (rn [(40, 9), (41, 10), (42, 11), (43, 12), (44, 13), (45, 14), (46, 15), (47, 16), (48, 17)]) T → (∀ p ∈ T, (rn [(40, 9), (41, 10), (42, 11), (43, 12), (44, 13), (45, 14), (46, 15), (47, 16), (48, 17)] p.1 < 10 ∨ 10 + V.length ≤ rn [(40, 9), (41, 10), (42, 11), (43, 12), (44, 13), (45, 14), (46, 15), (47, 16), (48, 17)] p.1) ∧ rn [(40, 9), (41, 10), (42, 11), (43, 12), (44, 13), (45, 14), (46, 15), (47, 16), (48, 17)] p.1 < 50 ∨ 100000 ≤ rn [(40, 9), (41, 10), (42, 11), (43, 12), (44, 13), (45, 14), (46, 15), (47, 16), (48, 17)] p.1) → hpAll (TP A B (rg 10 V ++ [(19, .own (gR h 18)), (5, .own (gC g 4)), (3, .own (gC g 2)), (1, .own (rC x 0)), (0, rB x), (100002, .ro tab64), (100000, noneB), (2, .row 60 2 (ints (fl g.ws))), (4, .row 60 2 (ints (fl g.ws))), (9, .own (rgC 10 V)), (18, .row 60 2 (ints (fl h.ws)))])) (rn [(40, 9), (41, 10), (42, 11), (43, 12), (44, 13), (45, 14), (46, 15), (47, 16), (48, 17)]) T := fun hT hd => hpAll_past (hpAll_past (hpAll_past (hpAll_skip hT fun p hp => by have := hd p hp; omega) fun p hp e => by have := hd p hp; omega) fun p hp e => by have := hd p hp; omega) fun p hp e => by have := hd p hp; omega
    have hh := hc (T := (40, .own (rgC 41 V)) :: [(19, .own (gR h 18)), (5, .own (gC g 4)), (3, .own (gC g 2)), (1, .own (rC x 0)), (0, rB x), (100002, .ro tab64), (100000, noneB), (2, .row 60 2 (ints (fl g.ws))), (4, .row 60 2 (ints (fl g.ws))), (18, .row 60 2 (ints (fl h.ws)))]) ⟨congrArg (fun c => some (ABlk.own c)) (rgC_ren V 41 10 fun i h1 h2 => hr2 i h1 (by omega)).symm, rfl, rfl, rfl, rfl, congrArg (fun c => some (ABlk.ro c)) (ints_ren _ _).symm, congrArg (fun c => some (ABlk.ro c)) (tab64_ren _).symm, rfl, congrArg (fun c => some (ABlk.row 60 2 c)) (ints_ren _ _).symm, congrArg (fun c => some (ABlk.row 60 2 c)) (ints_ren _ _).symm, congrArg (fun c => some (ABlk.row 60 2 c)) (ints_ren _ _).symm, trivial⟩ (by intro p hp; simp only [List.mem_cons, List.not_mem_nil, or_false] at hp; rcases hp with rfl | rfl | rfl | rfl | rfl | rfl | rfl | rfl | rfl | rfl | rfl <;> simp [rn, lk] <;> omega)
    refine hpAll_wk ⟨hh.1, hpAll_rg V 41 (fun p hp => ?_) hh.2⟩
    have h1 := rg_mem hp
    rw [hr2 p.1 (by omega) (by omega)]
    have h3 := rg_front (R := [(19, .own (gR h 18)), (5, .own (gC g 4)), (3, .own (gC g 2)), (1, .own (rC x 0)), (0, rB x), (100002, .ro tab64), (100000, noneB), (2, .row 60 2 (ints (fl g.ws))), (4, .row 60 2 (ints (fl g.ws))), (9, .own (rgC 10 V)), (18, .row 60 2 (ints (fl h.ws)))]) (rg_at (c := 10) hp)
    show lk ((51, ABlk.row 3 1 (ints A)) :: (52, .row 3 1 (ints B)) :: (50, .own [.row 51 A.length, .row 52 B.length]) :: (rg 10 V ++ [(19, .own (gR h 18)), (5, .own (gC g 4)), (3, .own (gC g 2)), (1, .own (rC x 0)), (0, rB x), (100002, .ro tab64), (100000, noneB), (2, .row 60 2 (ints (fl g.ws))), (4, .row 60 2 (ints (fl g.ws))), (9, .own (rgC 10 V)), (18, .row 60 2 (ints (fl h.ws)))])) _ = _
    rw [lk, if_neg (by omega), lk, if_neg (by omega), lk, if_neg (by omega)]
    exact h3
  · have hr3 : ∀ i, i < 49 → 41 ≤ i → rn [(40, 9), (41, 10), (42, 11), (43, 12), (44, 13), (45, 14), (46, 15), (47, 16), (48, 17)] i = 10 + (i - 41) := by decide
    exact nodQ (A := [(40, .own (rgC 41 V))]) (B := [(19, .own (gR h 18)), (5, .own (gC g 4)), (3, .own (gC g 2)), (1, .own (rC x 0)), (0, rB x), (100002, .ro tab64), (100000, noneB), (2, .row 60 2 (ints (fl g.ws))), (4, .row 60 2 (ints (fl g.ws))), (18, .row 60 2 (ints (fl h.ws)))]) (b := 41) (c := 10) (V := V) (q := rn [(40, 9), (41, 10), (42, 11), (43, 12), (44, 13), (45, 14), (46, 15), (47, 16), (48, 17)]) (fun i h1 h2 => hr3 i (by omega) h1) rfl (by intro p hp; simp only [List.mem_cons, List.not_mem_nil, or_false, List.cons_append, List.nil_append] at hp; rcases hp with rfl | rfl | rfl | rfl | rfl | rfl | rfl | rfl | rfl | rfl | rfl <;> simp [rn, lk] <;> omega)
  refine own_l2 hV2 hV8 hVa hf2 (.c (.ptr 3 0)) (.c (.ptr 5 0)) (.c (.int .i64 0)) (.c (.int .i64 0)) (.c (.ptr 19 0)) (.c (.int .i64 0)) (by simp [tupA, hpLt, tmLt, AV.lt, AE.lt, AC.lt, LL_cons, LL_nil, idOk, ABlk.lt, ints_LL, GB, tab64_LL, gC, wB, giC, noneB, gst, tC, pC, gN, gR, rC, rB]) ?_
  intro V2 hV2l
  refine Wk.on ?_
  have hf3 : Fx6 [(5, .own (gC g 4)), (3, .own (gC g 2)), (1, .own (rC x 0)), (0, rB x), (100002, .ro tab64), (100000, noneB), (2, .row 60 2 (ints (fl g.ws))), (4, .row 60 2 (ints (fl g.ws)))] := ⟨nodB_sound rfl, (by intro p hp; simp only [List.mem_cons, List.not_mem_nil, or_false] at hp; rcases hp with rfl | rfl | rfl | rfl | rfl | rfl | rfl | rfl <;> simp [GB]), ⟨.inl (by omega), by simp [ABlk.lt, gR, gC, gN, rC, noneB, LL_cons, LL_nil, AC.lt, idOk, tab64_LL, GB], .inl (by omega), by simp [ABlk.lt, gR, gC, gN, rC, noneB, LL_cons, LL_nil, AC.lt, idOk, tab64_LL, GB], .inl (by omega), by simp [ABlk.lt, gR, gC, gN, rC, noneB, LL_cons, LL_nil, AC.lt, idOk, tab64_LL, GB], .inl (by omega), ints_LL _ _, .inr (by decide), by simp [ABlk.lt, gR, gC, gN, rC, noneB, LL_cons, LL_nil, AC.lt, idOk, tab64_LL, GB], .inr (by decide), by simp [ABlk.lt, gR, gC, gN, rC, noneB, LL_cons, LL_nil, AC.lt, idOk, tab64_LL, GB], .inl (by omega), ints_LL _ _, .inl (by omega), ints_LL _ _, trivial⟩⟩
  refine Tr.under (t := ⟨[(14, .c (.ptr 60 0)), (22, .c (.int .i64 0)), (5, .c (.ptr 3 0)), (6, .c (.ptr 5 0)), (9, .c (.int .i64 0)), (12, .c (.int .i64 0)), (15, .c (.int .i64 0))], LP h.n h.s h.t h.ws.length (fl h.ws) [(5, .own (gC g 4)), (3, .own (gC g 2)), (1, .own (rC x 0)), (0, rB x), (100002, .ro tab64), (100000, noneB), (2, .row 60 2 (ints (fl g.ws))), (4, .row 60 2 (ints (fl g.ws)))], 70, 150, 1⟩) (Under.wk [(60, 19), (61, 18)] ⟨rfl, rfl, Nat.le_of_ble_eq_true rfl, Nat.le_of_ble_eq_true rfl⟩ rfl (by repeat (first | exact trivial | refine ⟨Or.inl rfl, ?_⟩)) ?_ rfl (by simp [tupA, hpLt, tmLt, AV.lt, AE.lt, AC.lt, LL_cons, LL_nil, idOk, ABlk.lt, ints_LL, GB, tab64_LL, gC, wB, giC, noneB, gst, tC, pC, gN, gR, rC, rB]) (LP_l hf3)) ?_
  · exact hpAll_wk (hpAll_past (T := (61, .row 60 2 (ints (fl h.ws))) :: (60, .own [.int .i64 h.n, .int .i64 h.s, .int .i64 h.t, .row 61 h.ws.length]) :: [(5, .own (gC g 4)), (3, .own (gC g 2)), (1, .own (rC x 0)), (0, rB x), (100002, .ro tab64), (100000, noneB), (2, .row 60 2 (ints (fl g.ws))), (4, .row 60 2 (ints (fl g.ws)))]) (hpAll_skip ⟨congrArg (fun c => some (ABlk.row 60 2 c)) (ints_ren _ _).symm, rfl, rfl, rfl, rfl, congrArg (fun c => some (ABlk.ro c)) (ints_ren _ _).symm, congrArg (fun c => some (ABlk.ro c)) (tab64_ren _).symm, rfl, congrArg (fun c => some (ABlk.row 60 2 c)) (ints_ren _ _).symm, congrArg (fun c => some (ABlk.row 60 2 c)) (ints_ren _ _).symm, trivial⟩ (by intro p hp; simp only [List.mem_cons, List.not_mem_nil, or_false] at hp; rcases hp with rfl | rfl | rfl | rfl | rfl | rfl | rfl | rfl | rfl | rfl <;> simp [rn, lk] <;> omega)) (by intro p hp; simp only [List.mem_cons, List.not_mem_nil, or_false] at hp; rcases hp with rfl | rfl | rfl | rfl | rfl | rfl | rfl | rfl | rfl | rfl <;> simp [rn, lk]))
  refine own_l4 (fl_len _) hlen hf3 (.c (.ptr 3 0)) (.c (.ptr 5 0)) (.c (.int .i64 0)) (.c (.int .i64 0)) (.c (.int .i64 0)) (by simp [tupA, hpLt, tmLt, AV.lt, AE.lt, AC.lt, LL_cons, LL_nil, idOk, ABlk.lt, ints_LL, GB, tab64_LL, gC, wB, giC, noneB, gst, tC, pC, gN, gR, rC, rB]) ?_
  intro L
  refine Wk.on ?_
  refine CallA.det2 [4] (.t [.g [.rs 70 0 (mem a).length, .rs 71 0 (mem b).length], .c (.bool true), .c (.int .i64 0)]) ([(61, .row 60 2 (ints L)), (60, .own [.int .i64 h.n, .int .i64 h.s, .int .i64 h.t, .row 61 h.ws.length]), (5, .own (gC g 4)), (3, .own (gC g 2)), (1, .own (rC x 0)), (0, rB x), (100002, .ro tab64), (100000, noneB), (2, .row 60 2 (ints (fl g.ws))), (4, .row 60 2 (ints (fl g.ws))), (71, .row 3 1 (ints (mem b))), (70, .row 3 1 (ints (mem a)))]) (hT) ?_
  refine Wk.on ?_
  rw [decide_eq_true (show (0 : Int) < ((g.ws.length : Nat) : Int) by omega)]
  refine Wk.on ?_
  refine CallA.ro2 [2] (.c (.bool true)) (hH1) ?_
  refine Wk.on ?_
  refine CallA.ro2 [4, 2] (.c (.bool true)) (hsame) ?_
  refine Wk.on ?_
  refine CallA.ro2 [] (.c (.bool true)) (awake_spec) ?_
  refine Wk.on ?_
  exact AH.Fin.nil2 ⟨rfl, rfl, rfl⟩
end Go.Proofs.YtfphkpdobbffeaaDoor

/-
  The law SwitchOwn, as a contract: trees, no barrier.
-/
namespace Go.Proofs.YtfphkpdobbffeaaDoor
open Go Go.AH
set_option maxRecDepth 100000
set_option maxHeartbeats 1000000

theorem own_C (x : Rw) (n : Int) (h4 : x.ws.length ≤ 9223372036854775807) (hws : ¬ (tame x 8 8).ws = []) {a b : Nat} (hTe : treesF (tame x 8 8) (alT (tame x 8 8)) = some (a, b)) (hS : treesF (tame x 8 8) (alS (tame x 8 8)) ≠ none) : FDet Tryd.prog 8 [.g (rC x 0), .c (.int .i64 n)] [(0, rB x), (100002, .ro tab64), (100000, noneB)] 1 (.c (.bool true)) [] 1 := by
  have hgm := tame_game x (pl := 8) (most := 8) (by omega) (by omega) (by omega)
  have hgl := hgm.ok.len
  have hH1 := hasT_spec hgm.ok hgm.ends
  rw [hTe] at hH1
  have hpos := List.length_pos_iff.2 hws
  have ht := tame_rs (x := x) (pl := 8) (most := 8) (by omega) (by omega) (by omega) h4 hpos
  have hgv := given_rs hpos hgl
  have hsame := same_rs hgm.ok hpos
  generalize tame x 8 8 = g at *
  have hH1 : FDet Tryd.prog _ _ _ _ (.c (.bool true)) _ _ := hH1
  obtain ⟨k1, k2, k3, _⟩ := treesF_lt hgl hTe
  have hp10 := ws1024 hgm.ok
  have hT := TreesL_some hgm hTe
  have hTw := Trees_spec hgm
  rw [hTe] at hTw
  have hTw : FDet Tryd.prog _ _ _ _ (.t [.g [.row 1 (mem a).length, .row 2 (mem b).length], .c (.bool true), .c (.int .i64 0)]) [(1, .row 3 1 (ints (mem a))), (2, .row 3 1 (ints (mem b)))] 3 := hTw
  have hma : (mem a).length ≤ 10 := by have := mem_len (n := a) (by omega); omega
  have hmb : (mem b).length ≤ 10 := by have := mem_len (n := b) (by omega); omega
  have hba := BarrierU_no hgm hS
  have hw := um_lt n (n := g.ws.length) (by omega)
  have hwo := without_ok hgm hw
  have hlen : (lessG g (um n g.ws.length)).ws.length ≤ 10 := by simp only [lessG]; rw [List.length_append, List.length_take, List.length_drop]; omega
  generalize hlg : lessG g (um n g.ws.length) = h at *
  refine FSpec.of_body tok true Tryd.func8 rfl (by kernel_rfl) (by decide) (by simp [tupA, hpLt, tmLt, AV.lt, AE.lt, AC.lt, LL_cons, LL_nil, idOk, ABlk.lt, ints_LL, GB, tab64_LL, gC, wB, giC, noneB, gst, tC, pC, gN, gR, rC, rB]) (by simp [tupA, hpLt, tmLt, AV.lt, AE.lt, AC.lt, LL_cons, LL_nil, idOk, ABlk.lt, ints_LL, GB, tab64_LL, gC, wB, giC, noneB, gst, tC, pC, gN, gR, rC, rB]) (by show 2 ≤ _; decide) ?_
  refine Wk.on ?_
  refine CallA.det2 [0] (.g (gC g 2)) ([(1, .own (rC x 0)), (0, rB x), (100002, .ro tab64), (100000, noneB), (2, .row 60 2 (ints (fl g.ws)))]) (ht) ?_
  refine Wk.on ?_
  refine CallA.det2 [2] (.g (gC g 4)) ([(3, .own (gC g 2)), (1, .own (rC x 0)), (0, rB x), (100002, .ro tab64), (100000, noneB), (2, .row 60 2 (ints (fl g.ws))), (4, .row 60 2 (ints (fl g.ws)))]) (hgv) ?_
  refine Wk.on ?_
  refine CallA.det2 [4] (.t [.g [.row 6 (mem a).length, .row 7 (mem b).length], .c (.bool true), .c (.int .i64 0)]) ([(5, .own (gC g 4)), (3, .own (gC g 2)), (1, .own (rC x 0)), (0, rB x), (100002, .ro tab64), (100000, noneB), (2, .row 60 2 (ints (fl g.ws))), (4, .row 60 2 (ints (fl g.ws))), (7, .row 3 1 (ints (mem b))), (6, .row 3 1 (ints (mem a)))]) (hTw) ?_
  refine Wk.on ?_
  refine CallA.det2 [4] (.t [.c .nils, .c (.bool false), .c (.int .i64 0)]) ([(8, .own [.row 6 (mem a).length, .row 7 (mem b).length]), (5, .own (gC g 4)), (3, .own (gC g 2)), (1, .own (rC x 0)), (0, rB x), (100002, .ro tab64), (100000, noneB), (2, .row 60 2 (ints (fl g.ws))), (4, .row 60 2 (ints (fl g.ws))), (7, .row 3 1 (ints (mem b))), (6, .row 3 1 (ints (mem a)))]) (hba) ?_
  refine Wk.on ?_
  rw [show max ((g.ws.length : Nat) : Int) 1 = ((g.ws.length : Nat) : Int) by omega, wrapU (by omega)]
  refine ⟨⟨wrap_nn _, by omega⟩, ?_⟩
  refine Wk.on ?_
  rw [um_wrap _ (by omega) (by omega)]
  refine Wk.on ?_
  refine CallA.det2 [4] (.t [.g (gR h 18), .c (.int .i64 0)]) ([(8, .own [.row 6 (mem a).length, .row 7 (mem b).length]), (5, .own (gC g 4)), (3, .own (gC g 2)), (1, .own (rC x 0)), (0, rB x), (100002, .ro tab64), (100000, noneB), (2, .row 60 2 (ints (fl g.ws))), (4, .row 60 2 (ints (fl g.ws))), (7, .row 3 1 (ints (mem b))), (6, .row 3 1 (ints (mem a))), (18, .row 60 2 (ints (fl h.ws)))]) (hwo) ?_
  refine Wk.on ?_
  have hf : Fx5 ([(19, .own (gR h 18)), (5, .own (gC g 4)), (3, .own (gC g 2)), (1, .own (rC x 0)), (0, rB x), (100002, .ro tab64), (100000, noneB), (2, .row 60 2 (ints (fl g.ws))), (4, .row 60 2 (ints (fl g.ws))), (18, .row 60 2 (ints (fl h.ws)))]) := ⟨nodB_sound rfl, (by intro p hp; simp only [List.mem_cons, List.not_mem_nil, or_false] at hp; rcases hp with rfl | rfl | rfl | rfl | rfl | rfl | rfl | rfl | rfl | rfl <;> simp [GB]), ⟨.inl (by omega), by simp [ABlk.lt, gR, gC, gN, rC, noneB, LL_cons, LL_nil, AC.lt, idOk, tab64_LL, GB], .inl (by omega), by simp [ABlk.lt, gR, gC, gN, rC, noneB, LL_cons, LL_nil, AC.lt, idOk, tab64_LL, GB], .inl (by omega), by simp [ABlk.lt, gR, gC, gN, rC, noneB, LL_cons, LL_nil, AC.lt, idOk, tab64_LL, GB], .inl (by omega), by simp [ABlk.lt, gR, gC, gN, rC, noneB, LL_cons, LL_nil, AC.lt, idOk, tab64_LL, GB], .inl (by omega), ints_LL _ _, .inr (by decide), by simp [ABlk.lt, gR, gC, gN, rC, noneB, LL_cons, LL_nil, AC.lt, idOk, tab64_LL, GB], .inr (by decide), by simp [ABlk.lt, gR, gC, gN, rC, noneB, LL_cons, LL_nil, AC.lt, idOk, tab64_LL, GB], .inl (by omega), ints_LL _ _, .inl (by omega), ints_LL _ _, .inl (by omega), ints_LL _ _, trivial⟩⟩
  refine Tr.under (t := ⟨[(7, .c (.ptr 50 0)), (16, .c (.int .i64 0)), (5, .c (.ptr 3 0)), (6, .c (.ptr 5 0)), (9, .c (.int .i64 0)), (10, .c .nils), (12, .c (.int .i64 0)), (14, .c (.ptr 19 0)), (15, .c (.int .i64 0))], TP (mem a) (mem b) ([(19, .own (gR h 18)), (5, .own (gC g 4)), (3, .own (gC g 2)), (1, .own (rC x 0)), (0, rB x), (100002, .ro tab64), (100000, noneB), (2, .row 60 2 (ints (fl g.ws))), (4, .row 60 2 (ints (fl g.ws))), (18, .row 60 2 (ints (fl h.ws)))]), 60, 150, 1⟩) (Under.wk [(50, 8), (51, 6), (52, 7)] ⟨rfl, rfl, Nat.le_of_ble_eq_true rfl, Nat.le_of_ble_eq_true rfl⟩ rfl (by repeat (first | exact trivial | refine ⟨Or.inl rfl, ?_⟩)) ?_ ?_ (by simp [tupA, hpLt, tmLt, AV.lt, AE.lt, AC.lt, LL_cons, LL_nil, idOk, ABlk.lt, ints_LL, GB, tab64_LL, gC, wB, giC, noneB, gst, tC, pC, gN, gR, rC, rB]) (TP_l hf)) ?_
  · exact hpAll_wk ⟨congrArg (fun c => some (ABlk.row 3 1 c)) (ints_ren _ _).symm, congrArg (fun c => some (ABlk.row 3 1 c)) (ints_ren _ _).symm, rfl, rfl, rfl, rfl, rfl, congrArg (fun c => some (ABlk.ro c)) (ints_ren _ _).symm, congrArg (fun c => some (ABlk.ro c)) (tab64_ren _).symm, rfl, congrArg (fun c => some (ABlk.row 60 2 c)) (ints_ren _ _).symm, congrArg (fun c => some (ABlk.row 60 2 c)) (ints_ren _ _).symm, congrArg (fun c => some (ABlk.row 60 2 c)) (ints_ren _ _).symm, trivial⟩
  · rfl
  refine own_l0 hma hmb hf (.c (.ptr 3 0)) (.c (.ptr 5 0)) (.c (.int .i64 0)) (.c .nils) (.c (.int .i64 0)) (.c (.ptr 19 0)) (.c (.int .i64 0)) (by simp [tupA, hpLt, tmLt, AV.lt, AE.lt, AC.lt, LL_cons, LL_nil, idOk, ABlk.lt, ints_LL, GB, tab64_LL, gC, wB, giC, noneB, gst, tC, pC, gN, gR, rC, rB]) ?_
  intro A B
  refine Wk.on ?_
  refine Tr.loop (md := true) (X := Unit) (st := fun _ => ⟨[(10, .c .nils), (19, .c (.int .i64 0)), (5, .c (.ptr 3 0)), (6, .c (.ptr 5 0)), (9, .c (.int .i64 0)), (12, .c (.int .i64 0)), (14, .c (.ptr 19 0)), (15, .c (.int .i64 0))], TP A B [(19, .own (gR h 18)), (5, .own (gC g 4)), (3, .own (gC g 2)), (1, .own (rC x 0)), (0, rB x), (100002, .ro tab64), (100000, noneB), (2, .row 60 2 (ints (fl g.ws))), (4, .row 60 2 (ints (fl g.ws))), (18, .row 60 2 (ints (fl h.ws)))], 60, 150, 1⟩) (inv := fun _ => True) (μ := fun _ => 0) (x0 := ()) (l := []) tok trivial ?_ ?_
  · exact own_back5 (TP_n hf) (TP_l hf) (by simp [tupA, hpLt, tmLt, AV.lt, AE.lt, AC.lt, LL_cons, LL_nil, idOk, ABlk.lt, ints_LL, GB, tab64_LL, gC, wB, giC, noneB, gst, tC, pC, gN, gR, rC, rB]) rfl ⟨rfl, rfl, rfl, rfl, rfl, rfl, rfl, rfl, trivial⟩ rfl rfl (Nat.le_refl 60)
  intro _ _
  refine Wk.on ?_
  have hf3 : Fx6 [(5, .own (gC g 4)), (3, .own (gC g 2)), (1, .own (rC x 0)), (0, rB x), (100002, .ro tab64), (100000, noneB), (2, .row 60 2 (ints (fl g.ws))), (4, .row 60 2 (ints (fl g.ws)))] := ⟨nodB_sound rfl, (by intro p hp; simp only [List.mem_cons, List.not_mem_nil, or_false] at hp; rcases hp with rfl | rfl | rfl | rfl | rfl | rfl | rfl | rfl <;> simp [GB]), ⟨.inl (by omega), by simp [ABlk.lt, gR, gC, gN, rC, noneB, LL_cons, LL_nil, AC.lt, idOk, tab64_LL, GB], .inl (by omega), by simp [ABlk.lt, gR, gC, gN, rC, noneB, LL_cons, LL_nil, AC.lt, idOk, tab64_LL, GB], .inl (by omega), by simp [ABlk.lt, gR, gC, gN, rC, noneB, LL_cons, LL_nil, AC.lt, idOk, tab64_LL, GB], .inl (by omega), ints_LL _ _, .inr (by decide), by simp [ABlk.lt, gR, gC, gN, rC, noneB, LL_cons, LL_nil, AC.lt, idOk, tab64_LL, GB], .inr (by decide), by simp [ABlk.lt, gR, gC, gN, rC, noneB, LL_cons, LL_nil, AC.lt, idOk, tab64_LL, GB], .inl (by omega), ints_LL _ _, .inl (by omega), ints_LL _ _, trivial⟩⟩
  refine Tr.under (t := ⟨[(14, .c (.ptr 60 0)), (22, .c (.int .i64 0)), (5, .c (.ptr 3 0)), (6, .c (.ptr 5 0)), (9, .c (.int .i64 0)), (12, .c (.int .i64 0)), (15, .c (.int .i64 0))], LP h.n h.s h.t h.ws.length (fl h.ws) [(5, .own (gC g 4)), (3, .own (gC g 2)), (1, .own (rC x 0)), (0, rB x), (100002, .ro tab64), (100000, noneB), (2, .row 60 2 (ints (fl g.ws))), (4, .row 60 2 (ints (fl g.ws)))], 70, 150, 1⟩) (Under.wk [(60, 19), (61, 18)] ⟨rfl, rfl, Nat.le_of_ble_eq_true rfl, Nat.le_of_ble_eq_true rfl⟩ rfl (by repeat (first | exact trivial | refine ⟨Or.inl rfl, ?_⟩)) ?_ rfl (by simp [tupA, hpLt, tmLt, AV.lt, AE.lt, AC.lt, LL_cons, LL_nil, idOk, ABlk.lt, ints_LL, GB, tab64_LL, gC, wB, giC, noneB, gst, tC, pC, gN, gR, rC, rB]) (LP_l hf3)) ?_
  · exact hpAll_wk ⟨congrArg (fun c => some (ABlk.row 60 2 c)) (ints_ren _ _).symm, rfl, rfl, rfl, rfl, congrArg (fun c => some (ABlk.ro c)) (ints_ren _ _).symm, congrArg (fun c => some (ABlk.ro c)) (tab64_ren _).symm, rfl, congrArg (fun c => some (ABlk.row 60 2 c)) (ints_ren _ _).symm, congrArg (fun c => some (ABlk.row 60 2 c)) (ints_ren _ _).symm, trivial⟩
  refine own_l4 (fl_len _) hlen hf3 (.c (.ptr 3 0)) (.c (.ptr 5 0)) (.c (.int .i64 0)) (.c (.int .i64 0)) (.c (.int .i64 0)) (by simp [tupA, hpLt, tmLt, AV.lt, AE.lt, AC.lt, LL_cons, LL_nil, idOk, ABlk.lt, ints_LL, GB, tab64_LL, gC, wB, giC, noneB, gst, tC, pC, gN, gR, rC, rB]) ?_
  intro L
  refine Wk.on ?_
  refine CallA.det2 [4] (.t [.g [.rs 70 0 (mem a).length, .rs 71 0 (mem b).length], .c (.bool true), .c (.int .i64 0)]) ([(61, .row 60 2 (ints L)), (60, .own [.int .i64 h.n, .int .i64 h.s, .int .i64 h.t, .row 61 h.ws.length]), (5, .own (gC g 4)), (3, .own (gC g 2)), (1, .own (rC x 0)), (0, rB x), (100002, .ro tab64), (100000, noneB), (2, .row 60 2 (ints (fl g.ws))), (4, .row 60 2 (ints (fl g.ws))), (71, .row 3 1 (ints (mem b))), (70, .row 3 1 (ints (mem a)))]) (hT) ?_
  refine Wk.on ?_
  rw [decide_eq_true (show (0 : Int) < ((g.ws.length : Nat) : Int) by omega)]
  refine Wk.on ?_
  refine CallA.ro2 [2] (.c (.bool true)) (hH1) ?_
  refine Wk.on ?_
  refine CallA.ro2 [4, 2] (.c (.bool true)) (hsame) ?_
  refine Wk.on ?_
  refine CallA.ro2 [] (.c (.bool true)) (awake_spec) ?_
  refine Wk.on ?_
  exact AH.Fin.nil2 ⟨rfl, rfl, rfl⟩
end Go.Proofs.YtfphkpdobbffeaaDoor

/-
  Contracts: the reference's game in which a wire is made short.
-/
namespace Go.Proofs.YtfphkpdobbffeaaDoor
open Go Go.AH Go.Wire
set_option maxRecDepth 100000
set_option maxHeartbeats 1000000

end Go.Proofs.YtfphkpdobbffeaaDoor

/-
  Plain: keeping and cutting wires; the game without a wire.
-/
namespace Go.Proofs.YtfphkpdobbffeaaDoor
open Go Go.AH Go.Wire
set_option maxRecDepth 100000
set_option maxHeartbeats 1000000

/-! Other numbers for the wires. -/
end Go.Proofs.YtfphkpdobbffeaaDoor

/-
  Plain: the game without a wire, and with one made short, are games; the number of trees; the trees that are left.
-/
namespace Go.Proofs.YtfphkpdobbffeaaDoor
open Go Go.AH Go.Wire
set_option maxRecDepth 100000
set_option maxHeartbeats 1000000

/-! Games. -/
/-! The number of trees. -/
theorem Tm.in {n : Nat} {l : List (Nat × Nat)} (h : Tm n l) : In (id : Wr → Wr) n l := fun w hw => by
  have := h.1 w hw
  exact ⟨by show w.1 < n; omega, this.2⟩
/-! The trees that are left. -/
end Go.Proofs.YtfphkpdobbffeaaDoor

/-
  The law SwitchSmaller, as a contract.
-/
namespace Go.Proofs.YtfphkpdobbffeaaDoor
open Go Go.AH Go.Wire
set_option maxRecDepth 100000
set_option maxHeartbeats 1000000

def zeroG : List AC := [.int .i64 0, .int .i64 0, .int .i64 0, .nils]
theorem zero_all (p : Nat → Prop) : zeroT.all p := by
  intro e he
  simp only [List.mem_cons, List.not_mem_nil, or_false] at he
  rcases he with rfl | rfl
  · intro x hx
    simp only [List.mem_cons, List.not_mem_nil, or_false] at hx
    rcases hx with rfl | rfl | rfl | rfl <;> trivial
  · trivial
theorem int1 (n : Int) (p : Nat → Prop) : ∀ v ∈ [AV.c (.int .i64 n)], v.all p := by
  intro v hv; simp at hv; subst hv; trivial
theorem withoutN {g : Gm} (hg : g.game) (h : g.ws = []) (n : Int) : FDet Tryd.prog 37 [.g (gN g), .c (.int .i64 n)] [(100002, .ro tab64)] 1 zeroT [] 1 :=
  nilR h (without_bad hg (by rw [h]; show n < 0 ∨ ((0 : Nat) : Int) ≤ n; omega)) ⟨rfl, trivial⟩ ⟨rfl, trivial⟩ (int1 _ _) (zero_all _)
end Go.Proofs.YtfphkpdobbffeaaDoor

/-
  The law SwitchOwn, as a contract: no wires.
-/
namespace Go.Proofs.YtfphkpdobbffeaaDoor
open Go Go.AH
set_option maxRecDepth 100000
set_option maxHeartbeats 1000000

theorem own_D (x : Rw) (n : Int) (h4 : x.ws.length ≤ 9223372036854775807) (hws : (tame x 8 8).ws = []) (hTe : treesF (tame x 8 8) (alT (tame x 8 8)) = none) (hS : treesF (tame x 8 8) (alS (tame x 8 8)) = none) : FDet Tryd.prog 8 [.g (rC x 0), .c (.int .i64 n)] [(0, rB x), (100002, .ro tab64), (100000, noneB)] 1 (.c (.bool true)) [] 1 := by
  have hgm := tame_game x (pl := 8) (most := 8) (by omega) (by omega) (by omega)
  have hgl := hgm.ok.len
  have hH1 := hasT_spec hgm.ok hgm.ends
  rw [hTe] at hH1
  have ht := tame_nil (x := x) (pl := 8) (most := 8) (by omega) (by omega) (by omega) h4 hws
  generalize tame x 8 8 = g at *
  have hH1 : FDet Tryd.prog _ _ _ _ (.c (.bool false)) _ _ := hH1
  have hwB : wB g = .ro [] := by rw [wB, hws]; rfl
  have hl0 : g.ws.length = 0 := by rw [hws]; rfl
  have hT := trees_nil hgm hws hTe
  have hba := FSpec.wk (BarrierU_yes hgm hS) (args' := [.g (gN g)]) (hp' := [(0, .ro [])]) ⟨.inr ⟨rfl, rfl, rfl, hl0, trivial⟩, trivial⟩ ⟨by rw [hwB]; exact .inl rfl, trivial⟩
  have hH2 := FDet.wk hH1 (args' := [.g (gN g), .c (.bool false)]) (hp' := [(0, .ro [])]) ⟨.inr ⟨rfl, rfl, rfl, hl0, trivial⟩, rfl, trivial⟩ ⟨by rw [hwB]; exact .inl rfl, trivial⟩
  have hwo := withoutN hgm hws (um n 1 : Nat)
  refine FSpec.of_body tok true Tryd.func8 rfl (by kernel_rfl) (by decide) (by simp [tupA, hpLt, tmLt, AV.lt, AE.lt, AC.lt, LL_cons, LL_nil, idOk, ABlk.lt, ints_LL, GB, tab64_LL, gC, wB, giC, noneB, gst, tC, pC, gN, gR, rC, rB, zeroG]) (by simp [tupA, hpLt, tmLt, AV.lt, AE.lt, AC.lt, LL_cons, LL_nil, idOk, ABlk.lt, ints_LL, GB, tab64_LL, gC, wB, giC, noneB, gst, tC, pC, gN, gR, rC, rB, zeroG]) (by show 2 ≤ _; decide) ?_
  refine Wk.on ?_
  refine CallA.ro2 [0] (.g (gN g)) (ht) ?_
  refine Wk.on ?_
  refine CallA.ro2 [2] (.g (gN g)) (given_nil) ?_
  refine Wk.on ?_
  refine CallA.ro2 [1] (.t [.g [.nils, .nils], .c (.bool false), .c (.int .i64 0)]) (hT) ?_
  refine Wk.on ?_
  have hbeh : ∀ V : V8, behind [1] 5 [(0, .ro [])] (bwH V.1) (gone [1] 5 [(0, .ro [])] [(4, .own [.nils, .nils]), (3, .own (gN g)), (2, .own (gN g)), (1, .own (rC x 0)), (0, rB x), (100002, .ro tab64), (100000, noneB)]) = [(4, .own [.nils, .nils]), (3, .own (gN g)), (2, .own (gN g)), (1, .own (rC x 0)), (0, rB x), (100002, .ro tab64), (100000, noneB), (5, .own (rgC 6 V.1))] ++ (rg 6 V.1).reverse := fun V => by
    have hq0 : ∀ i, i < 10 → 1 ≤ i → qq [1] 5 i = 4 + i := by decide
    have hqq : ∀ i, 1 ≤ i → i < 10 → qq [1] 5 i = 4 + i := fun i h1 h2 => hq0 i h2 h1
    have hr := rgC_ren (q := qq [1] 5) V.1 2 6 fun i h1 h2 => by rw [hqq i (by omega) (by have := V.2.2.1; omega)]; omega
    have hT : behind [1] 5 [(0, .ro [])] [(1, .own (rgC 2 V.1))] (gone [1] 5 [(0, .ro [])] [(4, .own [.nils, .nils]), (3, .own (gN g)), (2, .own (gN g)), (1, .own (rC x 0)), (0, rB x), (100002, .ro tab64), (100000, noneB)]) = [(4, .own [.nils, .nils]), (3, .own (gN g)), (2, .own (gN g)), (1, .own (rC x 0)), (0, rB x), (100002, .ro tab64), (100000, noneB), (5, .own (rgC 6 V.1))] := by
      rw [← hr]; rfl
    show behind [1] 5 [(0, .ro [])] (rg 2 V.1 ++ [(1, .own (rgC 2 V.1))]) _ = _
    rw [behind_rg V.1 2 6 (fun i h1 h2 => ⟨by rw [hqq i (by omega) (by have := V.2.2.1; omega)]; omega, lk_none_of (by intro q hq e; simp only [List.mem_cons, List.not_mem_nil, or_false] at hq; subst hq; simp at e; omega)⟩) (by rw [hT]; have := V.2.2.1; intro q hq; simp only [List.mem_cons, List.not_mem_nil, or_false] at hq; rcases hq with rfl | rfl | rfl | rfl | rfl | rfl | rfl | rfl <;> simp <;> omega), hT]
  refine CallA.any (X := V8) (I := fun _ => True) [1] (r := fun V => .t [.c (.sl 1 0 V.1.length (some V.1.length)), .c (.bool true), .c (.int .i64 0)]) (hp1 := fun V => bwH V.1) (k1 := 10) (fun V => .t [.c (.sl 5 0 V.1.length (some V.1.length)), .c (.bool true), .c (.int .i64 0)]) (fun V => [(4, .own [.nils, .nils]), (3, .own (gN g)), (2, .own (gN g)), (1, .own (rC x 0)), (0, rB x), (100002, .ro tab64), (100000, noneB), (5, .own (rgC 6 V.1))] ++ (rg 6 V.1).reverse) hba (by first | rfl | exact congrArg AV.g (ints_ren _ _) | (simp [ints_ren, AV.ren, ABlk.ren, AC.ren, AE.ren, qq]; done)) rfl (by (repeat (first | exact trivial | refine ⟨⟨(by first | exact .inl (by decide) | exact .inr (by decide)), (by first | (refine Or.inl ?_; first | rfl | exact congrArg some (ints_ren _ _).symm | exact congrArg ABlk.own (ints_ren _ _).symm | exact congrArg some (tab64_ren _).symm | exact congrArg (ABlk.row _ _) (ints_ren _ _).symm) | rfl | exact congrArg some (ints_ren _ _).symm | exact congrArg ABlk.own (ints_ren _ _).symm | exact congrArg some (tab64_ren _).symm | exact congrArg (ABlk.row _ _) (ints_ren _ _).symm | exact Or.inr ⟨rfl, rfl⟩)⟩, ?_⟩))) (fun V => rfl) hbeh ?_
  rintro ⟨V, hV2, hV8, hVa⟩ _
  dsimp only
  refine Wk.on ?_
  rw [show IntKind.u64.wrap (max 0 1) = ((1 : Nat) : Int) from rfl]
  refine ⟨⟨wrap_nn _, by omega⟩, ?_⟩
  refine Wk.on ?_
  rw [um_wrap _ (by omega) (by omega)]
  refine Wk.on ?_
  refine CallA.det [1] (zeroT) ([(4, .own [.nils, .nils]), (3, .own (gN g)), (2, .own (gN g)), (1, .own (rC x 0)), (0, rB x), (100002, .ro tab64), (100000, noneB), (5, .own (rgC 6 V))] ++ (rg 6 V).reverse) hwo (by first | rfl | exact congrArg AV.g (ints_ren _ _) | (simp [ints_ren, AV.ren, ABlk.ren, AC.ren, AE.ren, qq]; done)) rfl (by (repeat (first | exact trivial | refine ⟨⟨(by first | exact .inl (by decide) | exact .inr (by decide)), (by first | (refine Or.inl ?_; first | rfl | exact congrArg some (ints_ren _ _).symm | exact congrArg ABlk.own (ints_ren _ _).symm | exact congrArg some (tab64_ren _).symm | exact congrArg (ABlk.row _ _) (ints_ren _ _).symm) | rfl | exact congrArg some (ints_ren _ _).symm | exact congrArg ABlk.own (ints_ren _ _).symm | exact congrArg some (tab64_ren _).symm | exact congrArg (ABlk.row _ _) (ints_ren _ _).symm | exact Or.inr ⟨rfl, rfl⟩)⟩, ?_⟩))) (by first | rfl | exact congrArg AV.g (ints_ren _ _) | (simp [ints_ren, AV.ren, ABlk.ren, AC.ren, AE.ren, qq]; done)) rfl ?_
  refine Wk.on ?_
  have hf : Fx5 (rg 6 V ++ [(14, .own zeroG), (3, .own (gN g)), (2, .own (gN g)), (1, .own (rC x 0)), (0, rB x), (100002, .ro tab64), (100000, noneB), (5, .own (rgC 6 V))]) := Fx5_of (b := 6) (by omega) (nodB_sound rfl) (by intro p hp; simp only [List.mem_cons, List.not_mem_nil, or_false] at hp; rcases hp with rfl | rfl | rfl | rfl | rfl | rfl | rfl | rfl <;> simp <;> omega) (by intro p hp; simp only [List.mem_cons, List.not_mem_nil, or_false] at hp; rcases hp with rfl | rfl | rfl | rfl | rfl | rfl | rfl | rfl <;> simp [GB]) ⟨.inl (by omega), by simp [ABlk.lt, gR, gC, gN, rC, noneB, LL_cons, LL_nil, AC.lt, idOk, tab64_LL, GB, zeroG], .inl (by omega), by simp [ABlk.lt, gR, gC, gN, rC, noneB, LL_cons, LL_nil, AC.lt, idOk, tab64_LL, GB], .inl (by omega), by simp [ABlk.lt, gR, gC, gN, rC, noneB, LL_cons, LL_nil, AC.lt, idOk, tab64_LL, GB], .inl (by omega), by simp [ABlk.lt, gR, gC, gN, rC, noneB, LL_cons, LL_nil, AC.lt, idOk, tab64_LL, GB], .inl (by omega), ints_LL _ _, .inr (by decide), by simp [ABlk.lt, gR, gC, gN, rC, noneB, LL_cons, LL_nil, AC.lt, idOk, tab64_LL, GB], .inr (by decide), by simp [ABlk.lt, gR, gC, gN, rC, noneB, LL_cons, LL_nil, AC.lt, idOk, tab64_LL, GB], .inl (by omega), rgC_LL V 6 (by omega), trivial⟩
  refine Tr.under (t := ⟨[(7, .c (.ptr 50 0)), (16, .c (.int .i64 0)), (5, .c (.ptr 2 0)), (6, .c (.ptr 3 0)), (9, .c (.int .i64 0)), (10, .c (.sl 5 0 V.length (some V.length))), (12, .c (.int .i64 0)), (14, .c (.ptr 14 0)), (15, .c (.int .i64 1))], TPn (rg 6 V ++ [(14, .own zeroG), (3, .own (gN g)), (2, .own (gN g)), (1, .own (rC x 0)), (0, rB x), (100002, .ro tab64), (100000, noneB), (5, .own (rgC 6 V))]), 60, 150, 1⟩) (Under.wk [(50, 4)] ⟨rfl, rfl, Nat.le_of_ble_eq_true rfl, Nat.le_of_ble_eq_true rfl⟩ rfl (by repeat (first | exact trivial | refine ⟨Or.inl rfl, ?_⟩)) ?_ ?_ (by simp [tupA, hpLt, tmLt, AV.lt, AE.lt, AC.lt, LL_cons, LL_nil, idOk, ABlk.lt, ints_LL, GB, tab64_LL, gC, wB, giC, noneB, gst, tC, pC, gN, gR, rC, rB, zeroG]) (TPn_l hf)) ?_
  · have hr0 : ∀ i, i < 50 → rn [(50, 4)] i = i := fun i hi => by unfold rn; rw [lk_none_of fun p hp e => by simp only [List.mem_cons, List.not_mem_nil, or_false] at hp; rcases hp with rfl <;> simp at e <;> omega]; rfl
    refine hpAll_wk ⟨rfl, hpAll_rg V 6 (fun p hp => ?_) ⟨rfl, rfl, rfl, rfl, congrArg (fun c => some (ABlk.ro c)) (ints_ren _ _).symm, congrArg (fun c => some (ABlk.ro c)) (tab64_ren _).symm, rfl, congrArg (fun c => some (ABlk.own c)) (rgC_ren V 6 6 fun i h1 h2 => by rw [hr0 i (by omega)]; omega).symm, trivial⟩⟩
    · have h1 := rg_mem hp
      rw [hr0 p.1 (by omega)]
      have h2 := rg_look (F := [(14, .own zeroG), (4, .own [.nils, .nils]), (3, .own (gN g)), (2, .own (gN g)), (1, .own (rC x 0)), (0, rB x), (100002, .ro tab64), (100000, noneB), (5, .own (rgC 6 V))]) (R := []) (by intro p hp; simp only [List.mem_cons, List.not_mem_nil, or_false] at hp; rcases hp with rfl | rfl | rfl | rfl | rfl | rfl | rfl | rfl | rfl <;> simp <;> omega) hp
      rw [List.append_nil] at h2
      exact h2
  · exact nodQ (A := [(50, ABlk.own [.nils, .nils])]) (b := 6) (c := 6) (V := V) (q := rn [(50, 4)]) (fun i h1 h2 => by unfold rn; rw [lk_none_of fun p hp e => by simp only [List.mem_cons, List.not_mem_nil, or_false] at hp; rcases hp with rfl <;> simp at e <;> omega]; show i = _; omega) rfl (by intro p hp; simp only [List.mem_cons, List.not_mem_nil, or_false, List.cons_append, List.nil_append] at hp; rcases hp with rfl | rfl | rfl | rfl | rfl | rfl | rfl | rfl | rfl <;> simp [rn, lk] <;> omega)
  refine own_l0n hf (.c (.ptr 2 0)) (.c (.ptr 3 0)) (.c (.int .i64 0)) (.c (.sl 5 0 V.length (some V.length))) (.c (.int .i64 0)) (.c (.ptr 14 0)) (.c (.int .i64 1)) (by simp [tupA, hpLt, tmLt, AV.lt, AE.lt, AC.lt, LL_cons, LL_nil, idOk, ABlk.lt, ints_LL, GB, tab64_LL, gC, wB, giC, noneB, gst, tC, pC, gN, gR, rC, rB, zeroG]) ?_
  refine Wk.on ?_
  have hf2 : Fx [(14, .own zeroG), (3, .own (gN g)), (2, .own (gN g)), (1, .own (rC x 0)), (0, rB x), (100002, .ro tab64), (100000, noneB)] := ⟨nodB_sound rfl, (by intro p hp; simp only [List.mem_cons, List.not_mem_nil, or_false] at hp; rcases hp with rfl | rfl | rfl | rfl | rfl | rfl | rfl <;> simp [GB]), ⟨.inl (by omega), by simp [ABlk.lt, gR, gC, gN, rC, noneB, LL_cons, LL_nil, AC.lt, idOk, tab64_LL, GB, zeroG], .inl (by omega), by simp [ABlk.lt, gR, gC, gN, rC, noneB, LL_cons, LL_nil, AC.lt, idOk, tab64_LL, GB], .inl (by omega), by simp [ABlk.lt, gR, gC, gN, rC, noneB, LL_cons, LL_nil, AC.lt, idOk, tab64_LL, GB], .inl (by omega), by simp [ABlk.lt, gR, gC, gN, rC, noneB, LL_cons, LL_nil, AC.lt, idOk, tab64_LL, GB], .inl (by omega), ints_LL _ _, .inr (by decide), by simp [ABlk.lt, gR, gC, gN, rC, noneB, LL_cons, LL_nil, AC.lt, idOk, tab64_LL, GB], .inr (by decide), by simp [ABlk.lt, gR, gC, gN, rC, noneB, LL_cons, LL_nil, AC.lt, idOk, tab64_LL, GB], trivial⟩⟩
  refine Tr.under (t := ⟨[(10, .c (.sl 40 0 V.length (some V.length))), (19, .c (.int .i64 0)), (5, .c (.ptr 2 0)), (6, .c (.ptr 3 0)), (9, .c (.int .i64 0)), (12, .c (.int .i64 0)), (14, .c (.ptr 14 0)), (15, .c (.int .i64 1))], HP V [(14, .own zeroG), (3, .own (gN g)), (2, .own (gN g)), (1, .own (rC x 0)), (0, rB x), (100002, .ro tab64), (100000, noneB)], 50, 150, 1⟩) (Under.wk [(40, 5), (41, 6), (42, 7), (43, 8), (44, 9), (45, 10), (46, 11), (47, 12), (48, 13)] ⟨rfl, rfl, Nat.le_of_ble_eq_true rfl, Nat.le_of_ble_eq_true rfl⟩ rfl (by repeat (first | exact trivial | refine ⟨Or.inl rfl, ?_⟩)) ?_ ?_ (by simp [tupA, hpLt, tmLt, AV.lt, AE.lt, AC.lt, LL_cons, LL_nil, idOk, ABlk.lt, ints_LL, GB, tab64_LL, gC, wB, giC, noneB, gst, tC, pC, gN, gR, rC, rB, zeroG]) (HP_l hV8 hf2)) ?_
  · have hr3 : ∀ i, i < 49 → 41 ≤ i → rn [(40, 5), (41, 6), (42, 7), (43, 8), (44, 9), (45, 10), (46, 11), (47, 12), (48, 13)] i = 6 + (i - 41) := by decide
    have hr2 : ∀ i, 41 ≤ i → i < 49 → rn [(40, 5), (41, 6), (42, 7), (43, 8), (44, 9), (45, 10), (46, 11), (47, 12), (48, 13)] i = 6 + (i - 41) := fun i h1 h2 => hr3 i h2 h1
    have hc : ∀ {T : List (Nat × ABlk)}, hpAll [(14, .own zeroG), (3, .own (gN g)), (2, .own (gN g)), (1, .own (rC x 0)), (0, rB x), (100002, .ro tab64), (100000, noneB), (5, .own (rgC 6 V))] (rn [(40, 5), (41, 6), (42, 7), (43, 8), (44, 9), (45, 10), (46, 11), (47, 12), (48, 13)]) T → (∀ p ∈ T, (rn [(40, 5), (41, 6), (42, 7), (43, 8), (44, 9), (45, 10), (46, 11), (47, 12), (48, 13)] p.1 < 6 ∨ 6 + V.length ≤ rn [(40, 5), (41, 6), (42, 7), (43, 8), (44, 9), (45, 10), (46, 11), (47, 12), (48, 13)] p.1) ∧ rn [(40, 5), (41, 6), (42, 7), (43, 8), (44, 9), (45, 10), (46, 11), (47, 12), (48, 13)] p.1 < 50 ∨ 100000 ≤ rn [(40, 5), (41, 6), (42, 7), (43, 8), (44, 9), (45, 10), (46, 11), (47, 12), (48, 13)] p.1) → hpAll (TPn (rg 6 V ++ [(14, .own zeroG), (3, .own (gN g)), (2, .own (gN g)), (1, .own (rC x 0)), (0, rB x), (100002, .ro tab64), (100000, noneB), (5, .own (rgC 6 V))])) (rn [(40, 5), (41, 6), (42, 7), (43, 8), (44, 9), (45, 10), (46, 11), (47, 12), (48, 13)]) T := fun hT hd => hpAll_past (hpAll_skip hT fun p hp => by have := hd p hp; omega) fun p hp e => by have := hd p hp; omega
    have hh := hc (T := (40, .own (rgC 41 V)) :: [(14, .own zeroG), (3, .own (gN g)), (2, .own (gN g)), (1, .own (rC x 0)), (0, rB x), (100002, .ro tab64), (100000, noneB)]) ⟨congrArg (fun c => some (ABlk.own c)) (rgC_ren V 41 6 fun i h1 h2 => hr2 i h1 (by omega)).symm, rfl, rfl, rfl, rfl, congrArg (fun c => some (ABlk.ro c)) (ints_ren _ _).symm, congrArg (fun c => some (ABlk.ro c)) (tab64_ren _).symm, rfl, trivial⟩ (by intro p hp; simp only [List.mem_cons, List.not_mem_nil, or_false] at hp; rcases hp with rfl | rfl | rfl | rfl | rfl | rfl | rfl | rfl <;> simp [rn, lk] <;> omega)
    refine hpAll_wk ⟨hh.1, hpAll_rg V 41 (fun p hp => ?_) hh.2⟩
    have h1 := rg_mem hp
    rw [hr2 p.1 (by omega) (by omega)]
    have h3 := rg_front (R := [(14, .own zeroG), (3, .own (gN g)), (2, .own (gN g)), (1, .own (rC x 0)), (0, rB x), (100002, .ro tab64), (100000, noneB), (5, .own (rgC 6 V))]) (rg_at (c := 6) hp)
    show lk ((50, ABlk.own [.nils, .nils]) :: (rg 6 V ++ [(14, .own zeroG), (3, .own (gN g)), (2, .own (gN g)), (1, .own (rC x 0)), (0, rB x), (100002, .ro tab64), (100000, noneB), (5, .own (rgC 6 V))])) _ = _
    rw [lk, if_neg (by omega)]
    exact h3
  · have hr3 : ∀ i, i < 49 → 41 ≤ i → rn [(40, 5), (41, 6), (42, 7), (43, 8), (44, 9), (45, 10), (46, 11), (47, 12), (48, 13)] i = 6 + (i - 41) := by decide
    exact nodQ (A := [(40, .own (rgC 41 V))]) (B := [(14, .own zeroG), (3, .own (gN g)), (2, .own (gN g)), (1, .own (rC x 0)), (0, rB x), (100002, .ro tab64), (100000, noneB)]) (b := 41) (c := 6) (V := V) (q := rn [(40, 5), (41, 6), (42, 7), (43, 8), (44, 9), (45, 10), (46, 11), (47, 12), (48, 13)]) (fun i h1 h2 => hr3 i (by omega) h1) rfl (by intro p hp; simp only [List.mem_cons, List.not_mem_nil, or_false, List.cons_append, List.nil_append] at hp; rcases hp with rfl | rfl | rfl | rfl | rfl | rfl | rfl | rfl <;> simp [rn, lk] <;> omega)
  refine own_l2 hV2 hV8 hVa hf2 (.c (.ptr 2 0)) (.c (.ptr 3 0)) (.c (.int .i64 0)) (.c (.int .i64 0)) (.c (.ptr 14 0)) (.c (.int .i64 1)) (by simp [tupA, hpLt, tmLt, AV.lt, AE.lt, AC.lt, LL_cons, LL_nil, idOk, ABlk.lt, ints_LL, GB, tab64_LL, gC, wB, giC, noneB, gst, tC, pC, gN, gR, rC, rB, zeroG]) ?_
  intro V2 hV2l
  refine Wk.on ?_
  refine Tr.under (t := ⟨[(14, .c (.ptr 14 0)), (22, .c (.int .i64 0)), (5, .c (.ptr 2 0)), (6, .c (.ptr 3 0)), (9, .c (.int .i64 0)), (12, .c (.int .i64 0)), (15, .c (.int .i64 1))], [(14, .own zeroG), (3, .own (gN g)), (2, .own (gN g)), (1, .own (rC x 0)), (0, rB x), (100002, .ro tab64), (100000, noneB)], 50, 150, 1⟩) (Under.wk [] ⟨rfl, rfl, Nat.le_of_ble_eq_true rfl, Nat.le_of_ble_eq_true rfl⟩ rfl (by repeat (first | exact trivial | refine ⟨Or.inl rfl, ?_⟩)) ?_ rfl (by simp [tupA, hpLt, tmLt, AV.lt, AE.lt, AC.lt, LL_cons, LL_nil, idOk, ABlk.lt, ints_LL, GB, tab64_LL, gC, wB, giC, noneB, gst, tC, pC, gN, gR, rC, rB, zeroG]) (by simp [tupA, hpLt, tmLt, AV.lt, AE.lt, AC.lt, LL_cons, LL_nil, idOk, ABlk.lt, ints_LL, GB, tab64_LL, gC, wB, giC, noneB, gst, tC, pC, gN, gR, rC, rB, zeroG])) ?_
  · exact hpAll_wk (hpAll_past (T := [(14, .own zeroG), (3, .own (gN g)), (2, .own (gN g)), (1, .own (rC x 0)), (0, rB x), (100002, .ro tab64), (100000, noneB)]) (hpAll_skip ⟨rfl, rfl, rfl, rfl, congrArg (fun c => some (ABlk.ro c)) (ints_ren _ _).symm, congrArg (fun c => some (ABlk.ro c)) (tab64_ren _).symm, rfl, trivial⟩ (by intro p hp; simp only [List.mem_cons, List.not_mem_nil, or_false] at hp; rcases hp with rfl | rfl | rfl | rfl | rfl | rfl | rfl <;> simp [rn, lk] <;> omega)) (by intro p hp; simp only [List.mem_cons, List.not_mem_nil, or_false] at hp; rcases hp with rfl | rfl | rfl | rfl | rfl | rfl | rfl <;> simp [rn, lk]))
  refine Tr.loop (md := true) (X := Unit) (st := fun _ => ⟨[(14, .c (.ptr 14 0)), (22, .c (.int .i64 0)), (5, .c (.ptr 2 0)), (6, .c (.ptr 3 0)), (9, .c (.int .i64 0)), (12, .c (.int .i64 0)), (15, .c (.int .i64 1))], [(14, .own zeroG), (3, .own (gN g)), (2, .own (gN g)), (1, .own (rC x 0)), (0, rB x), (100002, .ro tab64), (100000, noneB)], 50, 150, 1⟩) (inv := fun _ => True) (μ := fun _ => 0) (x0 := ()) (l := []) tok trivial ?_ ?_
  · exact Sub.nil ⟨rfl, rfl, (by simp [tab64_LL, gC, wB, giC, noneB, gst, tC, pC, gN, gR, rC, rB, zeroG]), rfl, (by simp [tupA, hpLt, tmLt, AV.lt, AE.lt, AC.lt, LL_cons, LL_nil, idOk, ABlk.lt, ints_LL, GB, tab64_LL, gC, wB, giC, noneB, gst, tC, pC, gN, gR, rC, rB, zeroG]), (by simp [tupA, hpLt, tmLt, AV.lt, AE.lt, AC.lt, LL_cons, LL_nil, idOk, ABlk.lt, ints_LL, GB, tab64_LL, gC, wB, giC, noneB, gst, tC, pC, gN, gR, rC, rB, zeroG])⟩ (by (repeat (first | exact trivial | refine ⟨trivial, ?_⟩ | refine ⟨rfl, ?_⟩))) (by (repeat (first | exact trivial | refine ⟨trivial, ?_⟩ | refine ⟨rfl, ?_⟩)))
  intro _ _
  refine Wk.on ?_
  refine CallA.ro2 [3] (.t [.g [.nils, .nils], .c (.bool false), .c (.int .i64 0)]) (hT) ?_
  refine Wk.on ?_
  refine CallA.ro2 [1] (.c (.bool false)) (hH2) ?_
  refine Wk.on ?_
  refine CallA.ro2 [] (.c (.bool true)) (same_NN g) ?_
  refine Wk.on ?_
  refine CallA.ro2 [] (.c (.bool true)) (awake_spec) ?_
  refine Wk.on ?_
  exact AH.Fin.nil2 ⟨rfl, rfl, rfl⟩
end Go.Proofs.YtfphkpdobbffeaaDoor

/-
  The law SwitchOwn, as a contract.
-/
namespace Go.Proofs.YtfphkpdobbffeaaDoor
open Go Go.AH
theorem own_all (x : Rw) (n : Int) (h4 : x.ws.length ≤ 9223372036854775807) : FDet Tryd.prog 8 [.g (rC x 0), .c (.int .i64 n)] [(0, rB x), (100002, .ro tab64), (100000, noneB)] 1 (.c (.bool true)) [] 1 := by
  have hgm := tame_game x (pl := 8) (most := 8) (by omega) (by omega) (by omega)
  by_cases h : (tame x 8 8).ws = []
  · exact own_D x n h4 h (nil_trees hgm.ok h) (nil_spans hgm.ok h)
  · cases hT : treesF (tame x 8 8) (alT (tame x 8 8)) with
    | none =>
      by_cases hS : treesF (tame x 8 8) (alS (tame x 8 8)) = none
      · exact own_A x n h4 h hT hS
      · exfalso
        obtain ⟨p, hp⟩ := Option.ne_none_iff_exists'.1 hS
        exact (spn hgm.ok hp).trees hgm.ok hT
    | some p =>
      obtain ⟨a, b⟩ := p
      by_cases hS : treesF (tame x 8 8) (alS (tame x 8 8)) = none
      · exact own_B x n h4 h hT hS
      · exact own_C x n h4 h hT hS
end Go.Proofs.YtfphkpdobbffeaaDoor
