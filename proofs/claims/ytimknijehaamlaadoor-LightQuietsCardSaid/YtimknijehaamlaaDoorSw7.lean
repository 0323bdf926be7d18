/-
  Contracts: the fewest lamps.
-/
import Derived.Test.YtimknijehaamlaaDoorSw6
set_option linter.unusedSimpArgs false
set_option linter.unusedVariables false
namespace Go.Proofs.YtimknijehaamlaaDoor
open Go Go.AH Go.Lin
set_option maxRecDepth 100000
set_option maxHeartbeats 1000000

theorem sums_row (Q : List Nat) : FDet Tryd.prog 77 [.c (.row 0 Q.length)] [(0, .row 3 1 (ints (castL Q)))] 1 (.c (.fn 91 [] [1])) [(0, .row 3 1 (ints (castL Q))), (1, .own [.row 0 Q.length])] 2 := by
  refine FSpec.body2 tok true Tryd.func77 ?_
  refine Wk.on ?_
  exact AH.Fin.new [1] _ _ ⟨rfl, rfl, rfl⟩ rfl ⟨by show some (ABlk.row 3 1 _) = some (ABlk.row 3 1 ((ints _).map _)); rw [ints_ren], rfl, trivial⟩ rfl (by simp [tupA, hpLt, tmLt, AV.lt, AE.lt, AC.lt, LL_cons, LL_nil, idOk, ABlk.lt, ints_LL, GB, tab64_LL, pC, castL, lC, shp]) (by simp [tupA, hpLt, tmLt, AV.lt, AE.lt, AC.lt, LL_cons, LL_nil, idOk, ABlk.lt, ints_LL, GB, tab64_LL, pC, castL, lC, shp])
theorem sums_nil : FDet Tryd.prog 77 [.c .nils] [] 0 (.c (.fn 91 [] [0])) [(0, .own [.nils])] 1 := by
  refine FSpec.body2 tok true Tryd.func77 ?_
  refine Wk.on ?_
  exact AH.Fin.new [0] _ _ ⟨rfl, rfl, rfl⟩ rfl (by simp only [hpAll]; exact (by (repeat (first | exact trivial | refine ⟨rfl, ?_⟩)))) rfl (by simp [tupA, hpLt, tmLt, AV.lt, AE.lt, AC.lt, LL_cons, LL_nil, idOk, ABlk.lt, ints_LL, GB, tab64_LL, pC, castL, lC, shp]) (by simp [tupA, hpLt, tmLt, AV.lt, AE.lt, AC.lt, LL_cons, LL_nil, idOk, ABlk.lt, ints_LL, GB, tab64_LL, pC, castL, lC, shp])
def fI (first : Nat) (o : Nat) (s : Int) : Nat := if lessB pop (first ^^^ s.toNat) o then first ^^^ s.toNat else o
theorem fI_all (first : Nat) (Q : List Nat) : (sumsL Q).foldl (fI first) first = fewF pop first ((List.range (2 ^ Q.length)).map (sumC Q)) := by
  rw [sumsL, fewF, List.foldl_map, List.foldl_map]
  rfl
theorem sumC_lt {Q : List Nat} (hQ : Q.length ≤ 16) (hq : ∀ q ∈ Q, q < 65536) {c : Nat} (hc : c < 2 ^ Q.length) : sumC Q c < 65536 := by
  rw [← sum_mem hQ hc]; exact sumI_lt hq _
theorem fI_lt {first : Nat} (hf : first < 65536) : ∀ (L : List Int), (∀ s ∈ L, s.toNat < 65536) → ∀ o, o < 65536 → L.foldl (fI first) o < 65536
  | [], _, o, h => h
  | s :: L, hL, o, h => by
    refine fI_lt hf L (fun s hs => hL s (by simp [hs])) _ ?_
    unfold fI
    split
    · exact Nat.xor_lt_two_pow (n := 16) hf (hL s (by simp))
    · exact h
def fewN (n : Nat) (rows : List Nat) (t : Nat) : Nat := if (solP (bsR n rows) t).2 = 0 then fewF pop (solP (bsR n rows) t).1 ((List.range (2 ^ (qsR n rows).length)).map (sumC (qsR n rows))) else 0
theorem fewest_spec {n : Nat} {rows : List Nat} (h : Lm n rows) {t : Nat} (ht : t < 2 ^ n) : FDet Tryd.prog 58 [.c (.ptr 0 0), .c (.int .i64 t)] [(0, .ro (lC n rows)), (100001, .ro tab64)] 1 (.t [.c (.int .i64 (fewN n rows t : Nat)), .c (.bool (decide ((solP (bsR n rows) t).2 = 0)))]) [] 1 := by
  have hn := h.n16
  have hpw := h.pow
  have hl17 : (lC n rows).length = 17 := by rw [lC, List.length_cons, ints_len, castL_len, h.len]
  have hs := solve_spec h ht
  have hsl : (solP (bsR n rows) t).2 = red ((bsR n rows).map Prod.snd) t ∧ (solP (bsR n rows) t).1 < 2 ^ n ∧ ((solP (bsR n rows) t).2 = 0 → eff rows (solP (bsR n rows) t).1 = t) := (inv_all rows n (by rw [h.len]; omega)).sol t
  obtain ⟨hS, hB, hQ, hQs⟩ := h.small (Nat.le_refl n)
  have hr := reduced_spec h
  unfold fewN
  unfold bsR at hs hsl ⊢
  unfold qsR
  generalize reducedP rows n = BQ at *
  obtain ⟨B, Q⟩ := BQ
  dsimp only at hs hsl hS hB hQ hQs hr ⊢
  obtain ⟨_, hf, _⟩ := hsl
  generalize solP B t = sol at *
  obtain ⟨f, z⟩ := sol
  dsimp only at hs hf ⊢
  have hf2 : f < 65536 := by omega
  by_cases hz : z = 0
  · rw [if_pos hz, decide_eq_true hz]
    rw [decide_eq_true hz] at hs
    rcases B with _ | ⟨b0, B0⟩ <;> rcases Q with _ | ⟨q0, Q0⟩
    · skip
      have hr : FDet Tryd.prog 51 [.c (.ptr 0 0)] [(0, .ro (lC n rows))] 1 (.t [.c (.nils), .c (.nils)]) [] 1 := hr
      refine FSpec.body2 tok true Tryd.func58 ?_
      refine Wk.on ?_
      refine CallA.ro2 [0] (.t [.c (.int .i64 f), .c (.bool true)]) (hs) ?_
      refine Wk.on ?_
      refine CallA.det2 [0] (.t [.c (.nils), .c (.nils)]) ([(1, .own [.int .i64 f]), (0, .ro (lC n rows)), (100001, .ro tab64)]) (hr) ?_
      refine Wk.on ?_
      refine CallA.det2 [] (.c (.fn 91 [] [3])) ([(2, .own [.int .i64 f]), (1, .own [.int .i64 f]), (0, .ro (lC n rows)), (100001, .ro tab64), (3, .own [.nils])]) (sums_nil) ?_
      refine Wk.on ?_
      refine Tr.under (t := ⟨[(6, .c (.ptr 7 0)), (10, .c (.ptr 8 0)), (27, .c (.fn 91 [] [5]))], [(5, .ro [.rs 6 0 0]), (6, .ro (ints (castL []))), (100001, .ro tab64), (7, .own [.int .i64 f]), (8, .own [.int .i64 f])], 9, 38, 1⟩) (Under.wk [(5, 3), (6, 0), (7, 1), (8, 2)] ⟨rfl, rfl, Nat.le_of_ble_eq_true rfl, Nat.le_of_ble_eq_true rfl⟩ rfl ⟨.inl rfl, .inl rfl, .inl rfl, trivial⟩ ⟨.inr (.inl (.inr ⟨rfl, trivial⟩)), .inr (.inr ⟨rfl, rfl⟩), .inl (congrArg ABlk.ro (tab64_ren _).symm), .inl rfl, .inl rfl, trivial⟩ rfl (by simp [tupA, hpLt, tmLt, AV.lt, AE.lt, AC.lt, LL_cons, LL_nil, idOk, ABlk.lt, ints_LL, GB, tab64_LL, pC, castL, lC, shp]) (by simp [tupA, hpLt, tmLt, AV.lt, AE.lt, AC.lt, LL_cons, LL_nil, idOk, ABlk.lt, ints_LL, GB, tab64_LL, pC, castL, lC, shp])) ?_
      refine Tr.range (md := true) tok rfl (sumsL []) ([(5, .ro [.rs 6 0 0]), (6, .ro (ints (castL []))), (100001, .ro tab64)]) ((sums_iter hQ hQs)) (by (repeat (first | exact trivial | refine ⟨trivial, ?_⟩ | refine ⟨rfl, ?_⟩))) rfl (fun pre => [(5, .ro [.rs 6 0 0]), (6, .ro (ints (castL []))), (100001, .ro tab64), (7, .own [.int .i64 f]), (8, .own [.int .i64 (pre.foldl (fI f) f : Nat)])]) (fun _ => True) (9) (by decide) (by first | trivial | rfl | decide | simp) (by (repeat (first | exact trivial | refine ⟨trivial, ?_⟩ | refine ⟨rfl, ?_⟩))) (fun pre hpre => (by simp [tupA, hpLt, tmLt, AV.lt, AE.lt, AC.lt, LL_cons, LL_nil, idOk, ABlk.lt, ints_LL, GB, tab64_LL, pC, castL, lC, shp])) (fun pre hpre => ⟨(by (repeat (first | exact trivial | refine ⟨trivial, ?_⟩ | refine ⟨rfl, ?_⟩))), (by (repeat (first | exact trivial | refine ⟨trivial, ?_⟩ | refine ⟨rfl, ?_⟩)))⟩) rfl rfl (by decide) ?_ ?_
      · intro pre x hpre _ hx hl
        have hall : ∀ s ∈ pre, s.toNat < 65536 := fun s hs => by
          obtain ⟨c, hc, rfl⟩ := List.mem_map.1 (hpre s hs)
          rw [Int.toNat_natCast]; exact sumC_lt hQ hQs (List.mem_range.1 hc)
        obtain ⟨c, hc, rfl⟩ := List.mem_map.1 hx
        have hs2 := sumC_lt hQ hQs (List.mem_range.1 hc)
        obtain ⟨o, ho⟩ : ∃ o, o = pre.foldl (fI f) f := ⟨_, rfl⟩
        have ho2 : o < 65536 := by rw [ho]; exact fI_lt hf2 pre hall f hf2
        generalize sumC [] c = s at *
        simp only [← ho]
        have hx2 : f ^^^ s < 65536 := Nat.xor_lt_two_pow (n := 16) hf2 hs2
        have hfx : Int.toNat ((f : Nat) : Int) ^^^ Int.toNat ((s : Nat) : Int) = f ^^^ s := by rw [Int.toNat_natCast, Int.toNat_natCast]
        have hst : (pre ++ [((s : Nat) : Int)]).foldl (fI f) f = if lessB pop (f ^^^ s) o then f ^^^ s else o := by
          rw [List.foldl_append, ← ho]; rfl
        refine Wk.on ?_
        rw [hfx]
        refine CallA.ro2 [] (.c (.bool (lessB pop (f ^^^ s) o))) (less_spec hx2 ho2) ?_
        refine Wk.on ?_
        by_cases hl : lessB pop (f ^^^ s) o = true
        · rw [if_pos hl] at hst
          rw [hl]
          refine Wk.on ?_
          rw [hfx]
          refine Wk.on ?_
          refine ⟨(), trivial, RoundOk.nil ⟨rfl, rfl, rfl, rfl, ?_, trivial⟩ rfl⟩
          show ABlk.own [.int .i64 ((f ^^^ s : Nat) : Int)] = ABlk.own _
          rw [hst]
        · rw [if_neg hl] at hst
          rw [Bool.eq_false_iff.2 hl]
          refine Wk.on ?_
          refine ⟨(), trivial, RoundOk.nil ⟨rfl, rfl, rfl, rfl, ?_, trivial⟩ rfl⟩
          show ABlk.own [.int .i64 o] = ABlk.own _
          rw [hst]
      · intro _
        rw [fI_all]
        refine Wk.on ?_
        exact AH.Fin.nil2 ⟨rfl, rfl, rfl⟩
    · skip
      have hr : FDet Tryd.prog 51 [.c (.ptr 0 0)] [(0, .ro (lC n rows))] 1 (.t [.c (.nils), .c (.row 1 (q0 :: Q0).length)]) [(1, .row 3 1 (ints (castL (q0 :: Q0))))] 2 := hr
      refine FSpec.body2 tok true Tryd.func58 ?_
      refine Wk.on ?_
      refine CallA.ro2 [0] (.t [.c (.int .i64 f), .c (.bool true)]) (hs) ?_
      refine Wk.on ?_
      refine CallA.det2 [0] (.t [.c (.nils), .c (.row 2 (q0 :: Q0).length)]) ([(1, .own [.int .i64 f]), (0, .ro (lC n rows)), (100001, .ro tab64), (2, .row 3 1 (ints (castL (q0 :: Q0))))]) (hr) ?_
      refine Wk.on ?_
      refine CallA.det2 [2] (.c (.fn 91 [] [4])) ([(3, .own [.int .i64 f]), (1, .own [.int .i64 f]), (0, .ro (lC n rows)), (100001, .ro tab64), (4, .own [.row 2 (q0 :: Q0).length]), (2, .row 3 1 (ints (castL (q0 :: Q0))))]) (sums_row (q0 :: Q0)) ?_
      refine Wk.on ?_
      refine Tr.under (t := ⟨[(6, .c (.ptr 7 0)), (10, .c (.ptr 8 0)), (27, .c (.fn 91 [] [5]))], [(5, .ro [.rs 6 0 (q0 :: Q0).length]), (6, .ro (ints (castL (q0 :: Q0)))), (100001, .ro tab64), (7, .own [.int .i64 f]), (8, .own [.int .i64 f])], 9, 38, 1⟩) (Under.wk [(5, 4), (6, 2), (7, 1), (8, 3)] ⟨rfl, rfl, Nat.le_of_ble_eq_true rfl, Nat.le_of_ble_eq_true rfl⟩ rfl ⟨.inl rfl, .inl rfl, .inl rfl, trivial⟩ ⟨.inr (.inl (.inr ⟨⟨⟨rfl, rfl, rfl⟩, trivial⟩, trivial⟩)), .inr (.inl (.inl (ints_ren _ _).symm)), .inl (congrArg ABlk.ro (tab64_ren _).symm), .inl rfl, .inl rfl, trivial⟩ rfl (by simp [tupA, hpLt, tmLt, AV.lt, AE.lt, AC.lt, LL_cons, LL_nil, idOk, ABlk.lt, ints_LL, GB, tab64_LL, pC, castL, lC, shp]) (by simp [tupA, hpLt, tmLt, AV.lt, AE.lt, AC.lt, LL_cons, LL_nil, idOk, ABlk.lt, ints_LL, GB, tab64_LL, pC, castL, lC, shp])) ?_
      refine Tr.range (md := true) tok rfl (sumsL (q0 :: Q0)) ([(5, .ro [.rs 6 0 (q0 :: Q0).length]), (6, .ro (ints (castL (q0 :: Q0)))), (100001, .ro tab64)]) ((sums_iter hQ hQs)) (by (repeat (first | exact trivial | refine ⟨trivial, ?_⟩ | refine ⟨rfl, ?_⟩))) rfl (fun pre => [(5, .ro [.rs 6 0 (q0 :: Q0).length]), (6, .ro (ints (castL (q0 :: Q0)))), (100001, .ro tab64), (7, .own [.int .i64 f]), (8, .own [.int .i64 (pre.foldl (fI f) f : Nat)])]) (fun _ => True) (9) (by decide) (by first | trivial | rfl | decide | simp) (by (repeat (first | exact trivial | refine ⟨trivial, ?_⟩ | refine ⟨rfl, ?_⟩))) (fun pre hpre => (by simp [tupA, hpLt, tmLt, AV.lt, AE.lt, AC.lt, LL_cons, LL_nil, idOk, ABlk.lt, ints_LL, GB, tab64_LL, pC, castL, lC, shp])) (fun pre hpre => ⟨(by (repeat (first | exact trivial | refine ⟨trivial, ?_⟩ | refine ⟨rfl, ?_⟩))), (by (repeat (first | exact trivial | refine ⟨trivial, ?_⟩ | refine ⟨rfl, ?_⟩)))⟩) rfl rfl (by decide) ?_ ?_
      · intro pre x hpre _ hx hl
        have hall : ∀ s ∈ pre, s.toNat < 65536 := fun s hs => by
          obtain ⟨c, hc, rfl⟩ := List.mem_map.1 (hpre s hs)
          rw [Int.toNat_natCast]; exact sumC_lt hQ hQs (List.mem_range.1 hc)
        obtain ⟨c, hc, rfl⟩ := List.mem_map.1 hx
        have hs2 := sumC_lt hQ hQs (List.mem_range.1 hc)
        obtain ⟨o, ho⟩ : ∃ o, o = pre.foldl (fI f) f := ⟨_, rfl⟩
        have ho2 : o < 65536 := by rw [ho]; exact fI_lt hf2 pre hall f hf2
        generalize sumC (q0 :: Q0) c = s at *
        simp only [← ho]
        have hx2 : f ^^^ s < 65536 := Nat.xor_lt_two_pow (n := 16) hf2 hs2
        have hfx : Int.toNat ((f : Nat) : Int) ^^^ Int.toNat ((s : Nat) : Int) = f ^^^ s := by rw [Int.toNat_natCast, Int.toNat_natCast]
        have hst : (pre ++ [((s : Nat) : Int)]).foldl (fI f) f = if lessB pop (f ^^^ s) o then f ^^^ s else o := by
          rw [List.foldl_append, ← ho]; rfl
        refine Wk.on ?_
        rw [hfx]
        refine CallA.ro2 [] (.c (.bool (lessB pop (f ^^^ s) o))) (less_spec hx2 ho2) ?_
        refine Wk.on ?_
        by_cases hl : lessB pop (f ^^^ s) o = true
        · rw [if_pos hl] at hst
          rw [hl]
          refine Wk.on ?_
          rw [hfx]
          refine Wk.on ?_
          refine ⟨(), trivial, RoundOk.nil ⟨rfl, rfl, rfl, rfl, ?_, trivial⟩ rfl⟩
          show ABlk.own [.int .i64 ((f ^^^ s : Nat) : Int)] = ABlk.own _
          rw [hst]
        · rw [if_neg hl] at hst
          rw [Bool.eq_false_iff.2 hl]
          refine Wk.on ?_
          refine ⟨(), trivial, RoundOk.nil ⟨rfl, rfl, rfl, rfl, ?_, trivial⟩ rfl⟩
          show ABlk.own [.int .i64 o] = ABlk.own _
          rw [hst]
      · intro _
        rw [fI_all]
        refine Wk.on ?_
        exact AH.Fin.nil2 ⟨rfl, rfl, rfl⟩
    · skip
      have hr : FDet Tryd.prog 51 [.c (.ptr 0 0)] [(0, .ro (lC n rows))] 1 (.t [.c (.row 1 (b0 :: B0).length), .c (.nils)]) [(1, .row 93 2 (ints (prs (b0 :: B0))))] 2 := hr
      refine FSpec.body2 tok true Tryd.func58 ?_
      refine Wk.on ?_
      refine CallA.ro2 [0] (.t [.c (.int .i64 f), .c (.bool true)]) (hs) ?_
      refine Wk.on ?_
      refine CallA.det2 [0] (.t [.c (.row 2 (b0 :: B0).length), .c (.nils)]) ([(1, .own [.int .i64 f]), (0, .ro (lC n rows)), (100001, .ro tab64), (2, .row 93 2 (ints (prs (b0 :: B0))))]) (hr) ?_
      refine Wk.on ?_
      refine CallA.det2 [] (.c (.fn 91 [] [4])) ([(3, .own [.int .i64 f]), (1, .own [.int .i64 f]), (0, .ro (lC n rows)), (100001, .ro tab64), (2, .row 93 2 (ints (prs (b0 :: B0)))), (4, .own [.nils])]) (sums_nil) ?_
      refine Wk.on ?_
      refine Tr.under (t := ⟨[(6, .c (.ptr 7 0)), (10, .c (.ptr 8 0)), (27, .c (.fn 91 [] [5]))], [(5, .ro [.rs 6 0 0]), (6, .ro (ints (castL []))), (100001, .ro tab64), (7, .own [.int .i64 f]), (8, .own [.int .i64 f])], 9, 38, 1⟩) (Under.wk [(5, 4), (6, 0), (7, 1), (8, 3)] ⟨rfl, rfl, Nat.le_of_ble_eq_true rfl, Nat.le_of_ble_eq_true rfl⟩ rfl ⟨.inl rfl, .inl rfl, .inl rfl, trivial⟩ ⟨.inr (.inl (.inr ⟨rfl, trivial⟩)), .inr (.inr ⟨rfl, rfl⟩), .inl (congrArg ABlk.ro (tab64_ren _).symm), .inl rfl, .inl rfl, trivial⟩ rfl (by simp [tupA, hpLt, tmLt, AV.lt, AE.lt, AC.lt, LL_cons, LL_nil, idOk, ABlk.lt, ints_LL, GB, tab64_LL, pC, castL, lC, shp]) (by simp [tupA, hpLt, tmLt, AV.lt, AE.lt, AC.lt, LL_cons, LL_nil, idOk, ABlk.lt, ints_LL, GB, tab64_LL, pC, castL, lC, shp])) ?_
      refine Tr.range (md := true) tok rfl (sumsL []) ([(5, .ro [.rs 6 0 0]), (6, .ro (ints (castL []))), (100001, .ro tab64)]) ((sums_iter hQ hQs)) (by (repeat (first | exact trivial | refine ⟨trivial, ?_⟩ | refine ⟨rfl, ?_⟩))) rfl (fun pre => [(5, .ro [.rs 6 0 0]), (6, .ro (ints (castL []))), (100001, .ro tab64), (7, .own [.int .i64 f]), (8, .own [.int .i64 (pre.foldl (fI f) f : Nat)])]) (fun _ => True) (9) (by decide) (by first | trivial | rfl | decide | simp) (by (repeat (first | exact trivial | refine ⟨trivial, ?_⟩ | refine ⟨rfl, ?_⟩))) (fun pre hpre => (by simp [tupA, hpLt, tmLt, AV.lt, AE.lt, AC.lt, LL_cons, LL_nil, idOk, ABlk.lt, ints_LL, GB, tab64_LL, pC, castL, lC, shp])) (fun pre hpre => ⟨(by (repeat (first | exact trivial | refine ⟨trivial, ?_⟩ | refine ⟨rfl, ?_⟩))), (by (repeat (first | exact trivial | refine ⟨trivial, ?_⟩ | refine ⟨rfl, ?_⟩)))⟩) rfl rfl (by decide) ?_ ?_
      · intro pre x hpre _ hx hl
        have hall : ∀ s ∈ pre, s.toNat < 65536 := fun s hs => by
          obtain ⟨c, hc, rfl⟩ := List.mem_map.1 (hpre s hs)
          rw [Int.toNat_natCast]; exact sumC_lt hQ hQs (List.mem_range.1 hc)
        obtain ⟨c, hc, rfl⟩ := List.mem_map.1 hx
        have hs2 := sumC_lt hQ hQs (List.mem_range.1 hc)
        obtain ⟨o, ho⟩ : ∃ o, o = pre.foldl (fI f) f := ⟨_, rfl⟩
        have ho2 : o < 65536 := by rw [ho]; exact fI_lt hf2 pre hall f hf2
        generalize sumC [] c = s at *
        simp only [← ho]
        have hx2 : f ^^^ s < 65536 := Nat.xor_lt_two_pow (n := 16) hf2 hs2
        have hfx : Int.toNat ((f : Nat) : Int) ^^^ Int.toNat ((s : Nat) : Int) = f ^^^ s := by rw [Int.toNat_natCast, Int.toNat_natCast]
        have hst : (pre ++ [((s : Nat) : Int)]).foldl (fI f) f = if lessB pop (f ^^^ s) o then f ^^^ s else o := by
          rw [List.foldl_append, ← ho]; rfl
        refine Wk.on ?_
        rw [hfx]
        refine CallA.ro2 [] (.c (.bool (lessB pop (f ^^^ s) o))) (less_spec hx2 ho2) ?_
        refine Wk.on ?_
        by_cases hl : lessB pop (f ^^^ s) o = true
        · rw [if_pos hl] at hst
          rw [hl]
          refine Wk.on ?_
          rw [hfx]
          refine Wk.on ?_
          refine ⟨(), trivial, RoundOk.nil ⟨rfl, rfl, rfl, rfl, ?_, trivial⟩ rfl⟩
          show ABlk.own [.int .i64 ((f ^^^ s : Nat) : Int)] = ABlk.own _
          rw [hst]
        · rw [if_neg hl] at hst
          rw [Bool.eq_false_iff.2 hl]
          refine Wk.on ?_
          refine ⟨(), trivial, RoundOk.nil ⟨rfl, rfl, rfl, rfl, ?_, trivial⟩ rfl⟩
          show ABlk.own [.int .i64 o] = ABlk.own _
          rw [hst]
      · intro _
        rw [fI_all]
        refine Wk.on ?_
        exact AH.Fin.nil2 ⟨rfl, rfl, rfl⟩
    · skip
      have hr : FDet Tryd.prog 51 [.c (.ptr 0 0)] [(0, .ro (lC n rows))] 1 (.t [.c (.row 1 (b0 :: B0).length), .c (.row 2 (q0 :: Q0).length)]) [(1, .row 93 2 (ints (prs (b0 :: B0)))), (2, .row 3 1 (ints (castL (q0 :: Q0))))] 3 := hr
      refine FSpec.body2 tok true Tryd.func58 ?_
      refine Wk.on ?_
      refine CallA.ro2 [0] (.t [.c (.int .i64 f), .c (.bool true)]) (hs) ?_
      refine Wk.on ?_
      refine CallA.det2 [0] (.t [.c (.row 2 (b0 :: B0).length), .c (.row 3 (q0 :: Q0).length)]) ([(1, .own [.int .i64 f]), (0, .ro (lC n rows)), (100001, .ro tab64), (3, .row 3 1 (ints (castL (q0 :: Q0)))), (2, .row 93 2 (ints (prs (b0 :: B0))))]) (hr) ?_
      refine Wk.on ?_
      refine CallA.det2 [3] (.c (.fn 91 [] [5])) ([(4, .own [.int .i64 f]), (1, .own [.int .i64 f]), (0, .ro (lC n rows)), (100001, .ro tab64), (2, .row 93 2 (ints (prs (b0 :: B0)))), (5, .own [.row 3 (q0 :: Q0).length]), (3, .row 3 1 (ints (castL (q0 :: Q0))))]) (sums_row (q0 :: Q0)) ?_
      refine Wk.on ?_
      refine Tr.under (t := ⟨[(6, .c (.ptr 7 0)), (10, .c (.ptr 8 0)), (27, .c (.fn 91 [] [5]))], [(5, .ro [.rs 6 0 (q0 :: Q0).length]), (6, .ro (ints (castL (q0 :: Q0)))), (100001, .ro tab64), (7, .own [.int .i64 f]), (8, .own [.int .i64 f])], 9, 38, 1⟩) (Under.wk [(5, 5), (6, 3), (7, 1), (8, 4)] ⟨rfl, rfl, Nat.le_of_ble_eq_true rfl, Nat.le_of_ble_eq_true rfl⟩ rfl ⟨.inl rfl, .inl rfl, .inl rfl, trivial⟩ ⟨.inr (.inl (.inr ⟨⟨⟨rfl, rfl, rfl⟩, trivial⟩, trivial⟩)), .inr (.inl (.inl (ints_ren _ _).symm)), .inl (congrArg ABlk.ro (tab64_ren _).symm), .inl rfl, .inl rfl, trivial⟩ rfl (by simp [tupA, hpLt, tmLt, AV.lt, AE.lt, AC.lt, LL_cons, LL_nil, idOk, ABlk.lt, ints_LL, GB, tab64_LL, pC, castL, lC, shp]) (by simp [tupA, hpLt, tmLt, AV.lt, AE.lt, AC.lt, LL_cons, LL_nil, idOk, ABlk.lt, ints_LL, GB, tab64_LL, pC, castL, lC, shp])) ?_
      refine Tr.range (md := true) tok rfl (sumsL (q0 :: Q0)) ([(5, .ro [.rs 6 0 (q0 :: Q0).length]), (6, .ro (ints (castL (q0 :: Q0)))), (100001, .ro tab64)]) ((sums_iter hQ hQs)) (by (repeat (first | exact trivial | refine ⟨trivial, ?_⟩ | refine ⟨rfl, ?_⟩))) rfl (fun pre => [(5, .ro [.rs 6 0 (q0 :: Q0).length]), (6, .ro (ints (castL (q0 :: Q0)))), (100001, .ro tab64), (7, .own [.int .i64 f]), (8, .own [.int .i64 (pre.foldl (fI f) f : Nat)])]) (fun _ => True) (9) (by decide) (by first | trivial | rfl | decide | simp) (by (repeat (first | exact trivial | refine ⟨trivial, ?_⟩ | refine ⟨rfl, ?_⟩))) (fun pre hpre => (by simp [tupA, hpLt, tmLt, AV.lt, AE.lt, AC.lt, LL_cons, LL_nil, idOk, ABlk.lt, ints_LL, GB, tab64_LL, pC, castL, lC, shp])) (fun pre hpre => ⟨(by (repeat (first | exact trivial | refine ⟨trivial, ?_⟩ | refine ⟨rfl, ?_⟩))), (by (repeat (first | exact trivial | refine ⟨trivial, ?_⟩ | refine ⟨rfl, ?_⟩)))⟩) rfl rfl (by decide) ?_ ?_
      · intro pre x hpre _ hx hl
        have hall : ∀ s ∈ pre, s.toNat < 65536 := fun s hs => by
          obtain ⟨c, hc, rfl⟩ := List.mem_map.1 (hpre s hs)
          rw [Int.toNat_natCast]; exact sumC_lt hQ hQs (List.mem_range.1 hc)
        obtain ⟨c, hc, rfl⟩ := List.mem_map.1 hx
        have hs2 := sumC_lt hQ hQs (List.mem_range.1 hc)
        obtain ⟨o, ho⟩ : ∃ o, o = pre.foldl (fI f) f := ⟨_, rfl⟩
        have ho2 : o < 65536 := by rw [ho]; exact fI_lt hf2 pre hall f hf2
        generalize sumC (q0 :: Q0) c = s at *
        simp only [← ho]
        have hx2 : f ^^^ s < 65536 := Nat.xor_lt_two_pow (n := 16) hf2 hs2
        have hfx : Int.toNat ((f : Nat) : Int) ^^^ Int.toNat ((s : Nat) : Int) = f ^^^ s := by rw [Int.toNat_natCast, Int.toNat_natCast]
        have hst : (pre ++ [((s : Nat) : Int)]).foldl (fI f) f = if lessB pop (f ^^^ s) o then f ^^^ s else o := by
          rw [List.foldl_append, ← ho]; rfl
        refine Wk.on ?_
        rw [hfx]
        refine CallA.ro2 [] (.c (.bool (lessB pop (f ^^^ s) o))) (less_spec hx2 ho2) ?_
        refine Wk.on ?_
        by_cases hl : lessB pop (f ^^^ s) o = true
        · rw [if_pos hl] at hst
          rw [hl]
          refine Wk.on ?_
          rw [hfx]
          refine Wk.on ?_
          refine ⟨(), trivial, RoundOk.nil ⟨rfl, rfl, rfl, rfl, ?_, trivial⟩ rfl⟩
          show ABlk.own [.int .i64 ((f ^^^ s : Nat) : Int)] = ABlk.own _
          rw [hst]
        · rw [if_neg hl] at hst
          rw [Bool.eq_false_iff.2 hl]
          refine Wk.on ?_
          refine ⟨(), trivial, RoundOk.nil ⟨rfl, rfl, rfl, rfl, ?_, trivial⟩ rfl⟩
          show ABlk.own [.int .i64 o] = ABlk.own _
          rw [hst]
      · intro _
        rw [fI_all]
        refine Wk.on ?_
        exact AH.Fin.nil2 ⟨rfl, rfl, rfl⟩
  · rw [if_neg hz, decide_eq_false hz]
    rw [decide_eq_false hz] at hs
    refine FSpec.body2 tok true Tryd.func58 ?_
    refine Wk.on ?_
    refine CallA.ro2 [0] (.t [.c (.int .i64 f), .c (.bool false)]) (hs) ?_
    refine Wk.on ?_
    exact AH.Fin.nil2 ⟨rfl, rfl, rfl⟩
end Go.Proofs.YtimknijehaamlaaDoor

/-
  Contracts: Fewest; the law's wakefulness.
-/
namespace Go.Proofs.YtimknijehaamlaaDoor
open Go Go.AH Go.Lin
set_option maxRecDepth 100000
set_option maxHeartbeats 1000000

theorem Fewest_spec {n : Nat} {ws : List (Nat × Nat)} (h : Gr n ws) (own : Bool) (hw : ws.length ≤ 1000) {t : Nat} (ht : t < 2 ^ n) : FDet Tryd.prog 38 [.c (.int .i64 n), .c (.rs 0 0 ws.length), .c (.bool own), .c (.int .i64 t)] [(0, .ro (ints (prs ws))), (100001, .ro tab64)] 1
    (.t [.c (.int .i64 (fewN n (openR n ws own) t : Nat)), .c (.bool (decide ((solP (bsR n (openR n ws own)) t).2 = 0))), .c (.int .i64 0)]) [] 1 := by
  refine FSpec.body2 tok true Tryd.func38 ?_
  refine Wk.on ?_
  refine CallA.det2 [0, 1] (.t [.c (.ptr 2 0), .c (.int .i64 0)]) ([(1, .own [.int .i64 t]), (0, .ro (ints (prs ws))), (100001, .ro tab64), (2, .own (lC n (openR n ws own)))]) (open_s1 h own hw ht) ?_
  refine Wk.on ?_
  refine CallA.ro2 [2] (.t [.c (.int .i64 (fewN n (openR n ws own) t : Nat)), .c (.bool (decide ((solP (bsR n (openR n ws own)) t).2 = 0)))]) (fewest_spec (openR_lm h own) ht) ?_
  refine Wk.on ?_
  exact AH.Fin.nil2 ⟨rfl, rfl, rfl⟩

theorem gr2 : Gr 2 [(0, 1)] := ⟨by decide, by decide, by decide, fun i hi => absurd hi (by show ¬ i + 1 < 1; omega)⟩
theorem gr9 : Gr 9 (gridL 3 3 9) := ⟨by decide, by decide, by decide +kernel, fun i hi => (show ∀ i, i < (gridL 3 3 9).length → i + 1 < (gridL 3 3 9).length → 16 * ((gridL 3 3 9).getD i (0, 0)).1 + ((gridL 3 3 9).getD i (0, 0)).2 < 16 * ((gridL 3 3 9).getD (i + 1) (0, 0)).1 + ((gridL 3 3 9).getD (i + 1) (0, 0)).2 by decide +kernel) i (Nat.lt_of_succ_lt hi) hi⟩
theorem aw_quiet : FDet Tryd.prog 18 [.c (.int .i64 2), .c (.sl 0 0 1 (some 1)), .c (.bool true)] [(0, .ro [.int .i64 0, .int .i64 1])] 1 (.t [.c (.row 1 1), .c (.int .i64 0)]) [(1, .row 3 1 [.int .i64 3])] 2 := by
  have e : (tidyD (qsR 2 (openR 2 [(0, 1)] true))).reverse = [3] := by decide +kernel
  have := Quiet_spec gr2 (by decide) true (by decide)
  rw [e] at this
  exact FDet.wk this ⟨rfl, ⟨rfl, rfl, rfl⟩, rfl, trivial⟩ ⟨.inl rfl, trivial⟩
theorem aw_ref : FDet Tryd.prog 44 [.c (.int .i64 2), .c (.sl 0 0 1 (some 1)), .c (.bool true), .c (.int .i64 1), .c (.int .i64 3)] [(0, .ro [.int .i64 0, .int .i64 1]), (100001, .ro tab64)] 1 (.t [.c (.bool true), .c (.int .i64 0)]) [] 1 := by
  have e : (decide (eff (openR 2 [(0, 1)] true) 3 = 0) && decide (pop (3 &&& 1) % 2 = 1)) = true := by decide +kernel
  have := IsRefutation_spec gr2 true (by decide) (t := 1) (q := 3) (by decide) (by decide)
  rw [e] at this
  exact FDet.wk this ⟨rfl, ⟨rfl, rfl, rfl⟩, rfl, rfl, rfl, trivial⟩ ⟨.inl rfl, .inl rfl, trivial⟩
theorem aw_grid : FDet Tryd.prog 23 [.c (.int .i64 3), .c (.int .i64 3)] [] 0 (.t [.c (.int .i64 9), .c (.row 0 12), .c (.int .i64 0)]) [(0, .row 38 2 (ints (prs (gridL 3 3 9))))] 1 := by
  have := Grid_spec (h := 3) (w := 3) (by decide) (by decide) (by decide)
  exact this
theorem aw_few : FDet Tryd.prog 38 [.c (.int .i64 9), .c (.row 0 12), .c (.bool true), .c (.int .i64 511)] [(0, .row 38 2 (ints (prs (gridL 3 3 9)))), (100001, .ro tab64)] 1 (.t [.c (.int .i64 341), .c (.bool true), .c (.int .i64 0)]) [] 1 := by
  have e1 : fewN 9 (openR 9 (gridL 3 3 9) true) 511 = 341 := by decide +kernel
  have e2 : decide ((solP (bsR 9 (openR 9 (gridL 3 3 9) true)) 511).2 = 0) = true := by decide +kernel
  have := Fewest_spec gr9 true (by decide) (t := 511) (by decide)
  rw [e1, e2] at this
  exact FDet.wk this ⟨rfl, ⟨⟨rfl, rfl, rfl⟩, trivial⟩, rfl, rfl, trivial⟩ ⟨.inl rfl, .inl rfl, trivial⟩
theorem aw_poly : FDet Tryd.prog 28 [.c (.int .i64 3)] [(100001, .ro tab64)] 0 (.t [.c (.row 0 2), .c (.int .i64 0)]) [(0, .row 3 1 [.int .i64 0, .int .i64 2])] 1 := by
  have e : exQ (pathC 3 false) (pathC 3 false).2 = [0, 2] := by decide +kernel
  have := Polynomial_spec (n := 3) (by decide) (by decide)
  rw [e] at this
  exact this
theorem aw_gq : FDet Tryd.prog 26 [.c (.int .i64 5), .c (.int .i64 5), .c (.bool true)] [(100001, .ro tab64)] 0 (.t [.c (.int .i64 2), .c (.int .i64 0)]) [] 0 := by
  have e : ((comQ (pathC (5 + 1) true) (pathC (5 + 1) false)).2 : Int) - 1 = 2 := by decide +kernel
  have := GridQuiet_spec (h := 5) (w := 5) (by decide) (by decide) (by decide) (by decide) true
  rw [e] at this
  exact this
theorem open_zero : FDet Tryd.prog 50 [.c (.int .i64 0), .c .nils, .c (.bool false), .c .nils] [] 0 (.t [.c .nilp, .c (.int .i64 1)]) [] 0 := by
  refine FSpec.body2 tok true Tryd.func50 ?_
  refine Wk.on ?_
  exact AH.Fin.nil2 ⟨rfl, rfl, rfl⟩
theorem check_zero : FDet Tryd.prog 25 [.c (.int .i64 0), .c .nils] [] 0 (.c (.int .i64 1)) [] 0 := by
  refine FSpec.body2 tok true Tryd.func25 ?_
  refine Wk.on ?_
  refine CallA.ro2 [] (.t [.c .nilp, .c (.int .i64 1)]) (open_zero) ?_
  refine Wk.on ?_
  exact AH.Fin.nil2 ⟨rfl, rfl, rfl⟩
theorem awake_spec : FDet Tryd.prog 22 [] [(100001, .ro tab64)] 0 (.c (.bool true)) [] 0 := by
  refine FSpec.body2 tok true Tryd.func22 ?_
  refine Wk.on ?_
  refine CallA.det2 [0] (.t [.c (.row 1 1), .c (.int .i64 0)]) ([(0, .own [.int .i64 0, .int .i64 1]), (100001, .ro tab64), (1, .row 3 1 [.int .i64 3])]) (aw_quiet) ?_
  refine Wk.on ?_
  refine CallA.ro2 [0] (.t [.c (.bool true), .c (.int .i64 0)]) (aw_ref) ?_
  refine Wk.on ?_
  refine CallA.det2 [] (.t [.c (.int .i64 9), .c (.row 2 12), .c (.int .i64 0)]) ([(0, .own [.int .i64 0, .int .i64 1]), (100001, .ro tab64), (1, .row 3 1 [.int .i64 3]), (2, .row 38 2 (ints (prs (gridL 3 3 9))))]) (aw_grid) ?_
  refine Wk.on ?_
  refine CallA.det2 [2] (.t [.c (.int .i64 341), .c (.bool true), .c (.int .i64 0)]) ([(0, .own [.int .i64 0, .int .i64 1]), (100001, .ro tab64), (1, .row 3 1 [.int .i64 3])]) (aw_few) ?_
  refine Wk.on ?_
  refine CallA.det2 [] (.t [.c (.row 3 2), .c (.int .i64 0)]) ([(0, .own [.int .i64 0, .int .i64 1]), (100001, .ro tab64), (1, .row 3 1 [.int .i64 3]), (3, .row 3 1 [.int .i64 0, .int .i64 2])]) (aw_poly) ?_
  refine Wk.on ?_
  refine CallA.ro2 [] (.t [.c (.int .i64 2), .c (.int .i64 0)]) (aw_gq) ?_
  refine Wk.on ?_
  refine CallA.ro2 [] (.c (.int .i64 1)) (check_zero) ?_
  refine Wk.on ?_
  exact AH.Fin.nil2 ⟨rfl, rfl, rfl⟩
end Go.Proofs.YtimknijehaamlaaDoor

/-
  Any numbers make a graph; a graph's rows are symmetric. (Plain.)
-/
namespace Go.Proofs.YtimknijehaamlaaDoor
open Go Go.AH Go.Lin

theorem tabT_ok (ws : List (Int × Int)) {N : Nat} (h1 : 1 ≤ N) (h16 : N ≤ 16) (k : Nat) : ∀ j, (tabT ws N k).getD j false = true → j / 16 < j % 16 ∧ j % 16 < N := by
  have : ∀ (l : List (Int × Int)) (T : List Bool), T.length = 256 → (∀ j, T.getD j false = true → j / 16 < j % 16 ∧ j % 16 < N) → ∀ j, (l.foldl (tabF N) T).getD j false = true → j / 16 < j % 16 ∧ j % 16 < N := by
    intro l
    induction l with
    | nil => intro T _ h; exact h
    | cons p l ih =>
      intro T hl h
      refine ih _ (by rw [tabF, List.length_set, hl]) fun j hj => ?_
      have ha := um_lt p.1 (n := N) h1
      have hb := um_lt p.2 (n := N) h1
      rw [tabF] at hj
      generalize um p.1 N = a at *
      generalize um p.2 N = b at *
      rw [getD_set' (by rw [hl]; omega)] at hj
      split at hj
      · rename_i e
        have hab : a ≠ b := of_decide_eq_true hj
        omega
      · exact h j hj
  exact this _ _ (by rw [List.length_replicate]) fun j hj => by
    rw [List.getD_eq_getElem?_getD, List.getElem?_replicate] at hj
    split at hj <;> cases hj
theorem prT_gr {N : Nat} {T : List Bool} (h1 : 1 ≤ N) (h16 : N ≤ 16) (hT : ∀ j, T.getD j false = true → j / 16 < j % 16 ∧ j % 16 < N) : Gr N (prT T 256) := by
  have hp : ((List.range 256).filter fun i => T.getD i false).Pairwise (· < ·) := List.Pairwise.filter _ List.pairwise_lt_range
  have hm : ∀ x ∈ ((List.range 256).filter fun i => T.getD i false), x / 16 < x % 16 ∧ x % 16 < N := fun x hx => hT x (by simpa using (List.mem_filter.1 hx).2)
  rw [prT]
  generalize (List.range 256).filter (fun i => T.getD i false) = L at *
  have hg : ∀ i (hi : i < L.length), (L.map fun i => (i / 16, i % 16)).getD i (0, 0) = (L[i] / 16, L[i] % 16) := fun i hi => by
    rw [List.getD_eq_getElem?_getD, List.getElem?_map, List.getElem?_eq_getElem hi]; rfl
  refine ⟨h1, h16, fun i hi => ?_, fun i hi => ?_⟩
  · rw [List.length_map] at hi
    rw [hg i hi]
    exact hm _ (List.getElem_mem hi)
  · rw [List.length_map] at hi
    rw [hg i (by omega), hg (i + 1) hi]
    have := List.pairwise_iff_getElem.1 hp i (i + 1) (by omega) hi (by omega)
    show 16 * (L[i] / 16) + L[i] % 16 < 16 * (L[i + 1] / 16) + L[i + 1] % 16
    omega
theorem tame_gr (n : Int) (ws : List (Int × Int)) {most : Nat} (h1 : 1 ≤ most) (h2 : most ≤ 16) : Gr (tameN n most) (tameP n ws most) := by
  have := um_lt n (n := most) h1
  exact prT_gr (by unfold tameN; omega) (by unfold tameN; omega) (tabT_ok ws (by unfold tameN; omega) (by unfold tameN; omega) _)
theorem tameP_len (n : Int) (ws : List (Int × Int)) (most : Nat) : (tameP n ws most).length ≤ 256 := prT_len _ _

/-! Rows, bit by bit. -/
theorem orAt_get {rows : List Nat} {i v : Nat} (hi : i < rows.length) (k : Nat) : (orAt rows i v).getD k 0 = if i = k then rows.getD k 0 ||| v else rows.getD k 0 := by
  rw [orAt, List.getD_eq_getElem?_getD, List.getElem?_set]
  by_cases e : i = k
  · subst e
    rw [if_pos rfl, if_pos rfl, if_pos hi]; rfl
  · rw [if_neg e, if_neg e, ← List.getD_eq_getElem?_getD]
def SymR (rows : List Nat) : Prop := ∀ i j, i < 16 → j < 16 → (rows.getD i 0).testBit j = (rows.getD j 0).testBit i
theorem nearF_sym {rows : List Nat} (hl : rows.length = 16) (h : SymR rows) {p : Nat × Nat} (h1 : p.1 < 16) (h2 : p.2 < 16) : SymR (nearF rows p) := by
  intro i j hi hj
  have hl2 : (orAt rows p.1 (2 ^ p.2)).length = 16 := by rw [orAt, List.length_set, hl]
  have g : ∀ k m, ((nearF rows p).getD k 0).testBit m = ((rows.getD k 0).testBit m || (decide (p.1 = k) && decide (p.2 = m)) || (decide (p.2 = k) && decide (p.1 = m))) := by
    intro k m
    rw [nearF, orAt_get (by omega), orAt_get (by omega)]
    by_cases e1 : p.1 = k <;> by_cases e2 : p.2 = k <;> simp [e1, e2, Nat.testBit_or, Nat.testBit_two_pow, Bool.or_assoc]
  rw [g, g, h i j hi hj]
  cases (rows.getD j 0).testBit i <;> simp [Bool.or_comm, Bool.and_comm, and_comm, or_comm]
theorem ownF_sym {rows : List Nat} (hl : rows.length = 16) (h : SymR rows) {i : Nat} (hi : i < 16) : SymR (ownF rows i) := by
  intro a b ha hb
  have g : ∀ k m, ((ownF rows i).getD k 0).testBit m = ((rows.getD k 0).testBit m || (decide (i = k) && decide (i = m))) := by
    intro k m
    rw [ownF, orAt_get (by omega)]
    by_cases e : i = k <;> simp [e, Nat.testBit_or, Nat.testBit_two_pow]
  rw [g, g, h a b ha hb, Bool.and_comm]
end Go.Proofs.YtimknijehaamlaaDoor

/-
  A graph's rows are symmetric; all lamps can be lit. (Plain.)
-/
namespace Go.Proofs.YtimknijehaamlaaDoor
open Go Go.AH Go.Lin

theorem nearR_sym {n : Nat} {ws : List (Nat × Nat)} (h : Gr n ws) (k : Nat) (hk : k ≤ ws.length) : SymR (nearR (ws.take k)) := by
  have hn := h.n16
  induction k with
  | zero =>
    intro i j hi hj
    have : ∀ i, zero16.getD i 0 = 0 := fun i => by
      rw [zero16, List.getD_eq_getElem?_getD, List.getElem?_replicate]
      split <;> rfl
    show (zero16.getD i 0).testBit j = (zero16.getD j 0).testBit i
    rw [this, this, Nat.zero_testBit, Nat.zero_testBit]
  | succ k ih =>
    have ho := h.ok k (by omega)
    rw [take_succ ws (0, 0) (by omega), nearR, List.foldl_append]
    exact nearF_sym (nearR_lm h k (by omega)).len (ih (by omega)) (by omega) (by omega)
theorem ownR_sym {n : Nat} {rows : List Nat} (hL : Lm n rows) (h : SymR rows) (k : Nat) (hk : k ≤ n) : SymR (ownR k rows) := by
  have hn := hL.n16
  induction k with
  | zero => exact h
  | succ k ih =>
    rw [ownR, List.range_succ, List.foldl_append]
    exact ownF_sym (ownR_lm hL k (by omega)).len (ih (by omega)) (by omega)
theorem openR_sym {n : Nat} {ws : List (Nat × Nat)} (h : Gr n ws) (own : Bool) : SymR (openR n ws own) := by
  have h1 := nearR_sym h ws.length (Nat.le_refl _)
  have h2 := nearR_lm h ws.length (Nat.le_refl _)
  rw [List.take_of_length_le (Nat.le_refl _)] at h1 h2
  cases own
  · exact h1
  · exact ownR_sym h2 h1 n (Nat.le_refl _)
theorem openR_Sym {n : Nat} {ws : List (Nat × Nat)} (h : Gr n ws) (own : Bool) : Sym (openR n ws own) n := by
  have hn := h.n16
  have hl := openR_lm h own
  exact ⟨by rw [hl.len]; omega, fun i _ => hl.row i, fun i j hi hj => openR_sym h own i j (by omega) (by omega)⟩
theorem ownR_diag {n : Nat} {rows : List Nat} (hL : Lm n rows) (k : Nat) (hk : k ≤ n) : ∀ i, i < k → ((ownR k rows).getD i 0).testBit i = true := by
  have hn := hL.n16
  induction k with
  | zero => intro i hi; omega
  | succ k ih =>
    intro i hi
    rw [ownR, List.range_succ, List.foldl_append]
    show ((ownF (ownR k rows) k).getD i 0).testBit i = true
    rw [ownF, orAt_get (by rw [(ownR_lm hL k (by omega)).len]; omega)]
    by_cases e : k = i
    · subst e
      rw [if_pos rfl, Nat.testBit_or, Nat.testBit_two_pow_self, Bool.or_true]
    · rw [if_neg e]
      exact ih (by omega) i (by omega)
theorem openR_diag {n : Nat} {ws : List (Nat × Nat)} (h : Gr n ws) : ∀ i, i < n → ((openR n ws true).getD i 0).testBit i = true := by
  have h2 := nearR_lm h ws.length (Nat.le_refl _)
  rw [List.take_of_length_le (Nat.le_refl _)] at h2
  exact ownR_diag h2 n (Nat.le_refl _)
theorem dot_cnt (x y : Nat) : ∀ n, dot n x y = decide (((List.range n).filter (x &&& y).testBit).length % 2 = 1)
  | 0 => rfl
  | n + 1 => by
    rw [dot_succ, dot_cnt x y n, List.range_succ, List.filter_append, List.length_append, List.filter_cons, List.filter_nil, Nat.testBit_and]
    generalize ((List.range n).filter (x &&& y).testBit).length = m
    cases (x.testBit n && y.testBit n)
    · rw [Bool.xor_false]; rfl
    · rw [Bool.xor_true, ← decide_not]
      exact decide_eq_decide.2 (by simp; omega)
theorem filter_low {n z : Nat} (hn : n ≤ 16) (hz : z < 2 ^ n) : (List.range 16).filter z.testBit = (List.range n).filter z.testBit := by
  have e : List.range 16 = List.range n ++ (List.range (16 - n)).map (n + ·) := by
    rw [← List.range_add]; congr 1; omega
  rw [e, List.filter_append]
  have e2 : ((List.range (16 - n)).map (n + ·)).filter z.testBit = [] := by
    rw [List.filter_eq_nil_iff]
    intro i hi
    obtain ⟨j, _, rfl⟩ := List.mem_map.1 hi
    rw [Nat.testBit_lt_two_pow (Nat.lt_of_lt_of_le hz (Nat.pow_le_pow_right (by omega) (by omega)))]
    exact Bool.false_ne_true
  rw [e2, List.append_nil]
theorem pop_dot {n x y : Nat} (hn : n ≤ 16) (hx : x < 2 ^ n) : decide (pop (x &&& y) % 2 = 1) = dot n x y := by
  rw [dot_cnt, pop, memN, filter_low hn (Nat.lt_of_le_of_lt Nat.and_le_left hx)]
theorem sutner_plain {n : Nat} {ws : List (Nat × Nat)} (h : Gr n ws) : (solP (bsR n (openR n ws true)) (2 ^ n - 1)).2 = 0 ∧ (solP (bsR n (openR n ws true)) (2 ^ n - 1)).1 < 2 ^ n ∧ eff (openR n ws true) (solP (bsR n (openR n ws true)) (2 ^ n - 1)).1 = 2 ^ n - 1 ∧ refQ (qsR n (openR n ws true)) (2 ^ n - 1) = none := by
  have hS := openR_Sym h true
  have hI := inv_all (openR n ws true) n hS.len
  obtain ⟨h1, h2⟩ := hS.all_on hI (openR_diag h)
  have hs := hI.sol (2 ^ n - 1)
  obtain ⟨s1, s2, s3⟩ := hs
  have z : (solP (bsR n (openR n ws true)) (2 ^ n - 1)).2 = 0 := by
    show (solP (reducedP (openR n ws true) n).1 (2 ^ n - 1)).2 = 0
    rw [s1]; exact h1
  refine ⟨z, s2, s3 z, ?_⟩
  rw [refQ, List.find?_eq_none]
  intro q hq
  have hq2 := (hI.q q hq).2.1
  rw [pop_dot h.n16 (Nat.lt_of_lt_of_le hq2 (Nat.le_refl _)), h2 q hq]
  exact Bool.false_ne_true
end Go.Proofs.YtimknijehaamlaaDoor
