/-
  The law SwitchPlays, as a contract.
-/
import Derived.Test.YtfphkpdobbffeaaDoorSw7
set_option linter.unusedSimpArgs false
set_option linter.unusedVariables false
namespace Go.Proofs.YtfphkpdobbffeaaDoor
open Go Go.AH
set_option maxRecDepth 100000
set_option maxHeartbeats 1000000

theorem pop_len {n f : Nat} (hn : n ≤ 10) (hf : f < 2 ^ n) : pop f ≤ n := by
  have h1 := freeTo_len f n
  rw [freeTo_all hn hf] at h1
  simpa [mem, pop] using h1
theorem W_zero {g : Gm} {k : Nat} {c : Bool} : W g 0 k c = joinedB g k := by rw [W_step g (by omega)]; simp
theorem goodO_none {g : Gm} {f k : Nat} {c : Bool} (h : (goodO g f k c).isSome = false) {w : Nat} (hw : (w : Int) ∈ mem f) : W g (offN f w) (if c then k else k ||| 2 ^ w) (!c) = c := by
  rw [goodO_some, List.any_eq_false] at h
  have := h _ hw
  rw [goodW, Int.toNat_natCast] at this
  simpa using this
theorem goodO_take {g : Gm} {f k : Nat} {c : Bool} (h : (goodO g f k c).isSome = true) : ∃ w : Int, goodO g f k c = some w ∧ w ∈ mem f ∧ W g (offN f w.toNat) (if c then k else k ||| 2 ^ w.toNat) (!c) = !c := by
  obtain ⟨w, hw⟩ := Option.isSome_iff_exists.1 h
  obtain ⟨h1, h2⟩ := goodO_mem hw
  refine ⟨w, hw, h1, ?_⟩
  rw [goodW] at h2
  revert h2
  cases W g (offN f w.toNat) (if c then k else k ||| 2 ^ w.toNat) (!c) <;> cases c <;> simp
theorem plays_nil (x : Rw) (p : List UInt8) (L : List Int) (hL : L.length ≤ 9223372036854775807) (h4 : x.ws.length ≤ 9223372036854775807) (hws : (tame x 8 8).ws = []) : FDet Tryd.prog 13 [.g (rC x 0), .c (.str (bs p)), .c (.rs 1 0 L.length)] [(0, rB x), (1, .ro (ints L)), (100002, .ro tab64), (100000, noneB)] 2 (.c (.bool true)) [] 2 := by
  have hgm := tame_game x (pl := 8) (most := 8) (by omega) (by omega) (by omega)
  have hgl := hgm.ok.len
  have ht := tame_nil (x := x) (pl := 8) (most := 8) (by omega) (by omega) (by omega) h4 hws
  have hg8 := (tameA_Tm x (n := tameN x 8) (most := 8) (by have : tameN x 8 = 2 + um x.n (8 - 1) := rfl; omega) _ (Nat.le_refl _)).2
  have hg8 : (tame x 8 8).ws.length ≤ 8 := hg8
  generalize tame x 8 8 = g at *
  have hpn := position_nil hgm.ok hws p
  obtain ⟨f0, k0, hf0, hk0, hd0, hpe⟩ : ∃ f k, f < 2 ^ g.ws.length ∧ k < 2 ^ g.ws.length ∧ (∀ i, f.testBit i = true → k.testBit i = false) ∧ posOf p g.ws.length = posL g.ws.length f k := ⟨_, _, fB_lt _ _, kB_lt _ _, fkB_dis _ _, pos_of_ok (posOf_ok _ _)⟩
  rw [hpe] at hpn
  obtain ⟨c0, hc0⟩ : ∃ c0 : Bool, decide ((L.length : Int) % 2 = 0) = c0 := ⟨_, rfl⟩
  have hwp := winsP_nil hgm hws hf0 hk0 hd0 c0
  have hp0 : 2 ^ g.ws.length ≤ 1024 := Nat.pow_le_pow_right (by omega) hgl
  refine FSpec.of_body tok true Tryd.func13 rfl (by kernel_rfl) (by decide) (by simp [tupA, hpLt, tmLt, AV.lt, AE.lt, AC.lt, LL_cons, LL_nil, idOk, ABlk.lt, ints_LL, GB, tab64_LL, gC, wB, giC, noneB, gst, tC, pC, gN, gR, rC, rB]) (by simp [tupA, hpLt, tmLt, AV.lt, AE.lt, AC.lt, LL_cons, LL_nil, idOk, ABlk.lt, ints_LL, GB, tab64_LL, gC, wB, giC, noneB, gst, tC, pC, gN, gR, rC, rB]) (by show 3 ≤ _; decide) ?_
  (conv => whnf); (repeat ((first | (refine ⟨rfl, ?_⟩) | (refine ⟨trivial, ?_⟩) | (refine Wk.yes ?_) | (refine Wk.no ?_) | (refine Wk.and ?_)); (conv => whnf)))
  refine CallA.ro [0] (.g (gN g)) (ht) (by first | rfl | exact congrArg AV.g (ints_ren _ _) | (simp [ints_ren, AV.ren, ABlk.ren, AC.ren, AE.ren, qq]; done)) rfl (by (repeat (first | exact trivial | refine ⟨⟨(by first | exact .inl (by decide) | exact .inr (by decide)), (by first | rfl | exact congrArg some (ints_ren _ _).symm | exact congrArg ABlk.own (ints_ren _ _).symm | exact congrArg some (tab64_ren _).symm)⟩, ?_⟩))) (by first | rfl | exact congrArg AV.g (ints_ren _ _) | (simp [ints_ren, AV.ren, ABlk.ren, AC.ren, AE.ren, qq]; done)) ?_
  (conv => whnf); (repeat ((first | (refine ⟨rfl, ?_⟩) | (refine ⟨trivial, ?_⟩) | (refine Wk.yes ?_) | (refine Wk.no ?_) | (refine Wk.and ?_)); (conv => whnf)))
  refine CallA.ro [0] (.g (gN g)) (given_nil) (by first | rfl | exact congrArg AV.g (ints_ren _ _) | (simp [ints_ren, AV.ren, ABlk.ren, AC.ren, AE.ren, qq]; done)) rfl (by (repeat (first | exact trivial | refine ⟨⟨(by first | exact .inl (by decide) | exact .inr (by decide)), (by first | rfl | exact congrArg some (ints_ren _ _).symm | exact congrArg ABlk.own (ints_ren _ _).symm | exact congrArg some (tab64_ren _).symm)⟩, ?_⟩))) (by first | rfl | exact congrArg AV.g (ints_ren _ _) | (simp [ints_ren, AV.ren, ABlk.ren, AC.ren, AE.ren, qq]; done)) ?_
  (conv => whnf); (repeat ((first | (refine ⟨rfl, ?_⟩) | (refine ⟨trivial, ?_⟩) | (refine Wk.yes ?_) | (refine Wk.no ?_) | (refine Wk.and ?_)); (conv => whnf)))
  refine CallA.ro [0] (.c (.str (posB g.ws.length f0 k0))) (hpn) (by first | rfl | exact congrArg AV.g (ints_ren _ _) | (simp [ints_ren, AV.ren, ABlk.ren, AC.ren, AE.ren, qq]; done)) rfl (by (repeat (first | exact trivial | refine ⟨⟨(by first | exact .inl (by decide) | exact .inr (by decide)), (by first | rfl | exact congrArg some (ints_ren _ _).symm | exact congrArg ABlk.own (ints_ren _ _).symm | exact congrArg some (tab64_ren _).symm)⟩, ?_⟩))) (by first | rfl | exact congrArg AV.g (ints_ren _ _) | (simp [ints_ren, AV.ren, ABlk.ren, AC.ren, AE.ren, qq]; done)) ?_
  (conv => whnf); (repeat ((first | (refine ⟨rfl, ?_⟩) | (refine ⟨trivial, ?_⟩) | (refine Wk.yes ?_) | (refine Wk.no ?_) | (refine Wk.and ?_)); (conv => whnf)))
  rw [hc0]
  (conv => whnf); (repeat ((first | (refine ⟨rfl, ?_⟩) | (refine ⟨trivial, ?_⟩) | (refine Wk.yes ?_) | (refine Wk.no ?_) | (refine Wk.and ?_)); (conv => whnf)))
  refine CallA.ro [0] (.t [.c (.bool (W g f0 k0 c0)), .c (.int .i64 0)]) (hwp) (by first | rfl | exact congrArg AV.g (ints_ren _ _) | (simp [ints_ren, AV.ren, ABlk.ren, AC.ren, AE.ren, qq]; done)) rfl (by (repeat (first | exact trivial | refine ⟨⟨(by first | exact .inl (by decide) | exact .inr (by decide)), (by first | rfl | exact congrArg some (ints_ren _ _).symm | exact congrArg ABlk.own (ints_ren _ _).symm | exact congrArg some (tab64_ren _).symm)⟩, ?_⟩))) (by first | rfl | exact congrArg AV.g (ints_ren _ _) | (simp [ints_ren, AV.ren, ABlk.ren, AC.ren, AE.ren, qq]; done)) ?_
  (conv => whnf); (repeat ((first | (refine ⟨rfl, ?_⟩) | (refine ⟨trivial, ?_⟩) | (refine Wk.yes ?_) | (refine Wk.no ?_) | (refine Wk.and ?_)); (conv => whnf)))
  have hz : f0 = 0 := by rw [hws] at hf0; simp at hf0; exact hf0
  subst hz
  have hWz := W_zero (g := g) (k := k0) (c := c0)
  refine Tr.loop (md := true) (X := Unit) (st := fun _ => ⟨[(2, .c (.rs 1 0 L.length)), (7, .c (.ptr 3 0)), (8, .c (.ptr 4 0)), (9, .c (.str (posB g.ws.length 0 k0))), (10, .c (.bool c0)), (11, .c (.bool (W g 0 k0 c0))), (13, .c (.int .i64 0))], [(4, .own (gN g)), (3, .own (gN g)), (2, .own (rC x 0)), (0, rB x), (1, .ro (ints L)), (100002, .ro tab64), (100000, noneB)], 5, 126, 2⟩) (inv := fun _ => True) (μ := fun _ => 0) (x0 := ()) (l := []) tok trivial ?_ ?_
  · exact Sub.nil ⟨rfl, rfl, (by simp [tab64_LL, gC, wB, giC, noneB, gst, tC, pC, gN, gR, rC, rB]), rfl, (by simp [tupA, hpLt, tmLt, AV.lt, AE.lt, AC.lt, LL_cons, LL_nil, idOk, ABlk.lt, ints_LL, GB, tab64_LL, gC, wB, giC, noneB, gst, tC, pC, gN, gR, rC, rB]), (by simp [tupA, hpLt, tmLt, AV.lt, AE.lt, AC.lt, LL_cons, LL_nil, idOk, ABlk.lt, ints_LL, GB, tab64_LL, gC, wB, giC, noneB, gst, tC, pC, gN, gR, rC, rB])⟩ (by (repeat (first | exact trivial | refine ⟨trivial, ?_⟩ | refine ⟨rfl, ?_⟩))) (by (repeat (first | exact trivial | refine ⟨trivial, ?_⟩ | refine ⟨rfl, ?_⟩)))
  · intro _ _
    have hfr := free_spec (k := k0) hgl hf0
    rw [show mem 0 = [] from by decide] at hfr
    change FDet Tryd.prog _ _ _ _ (.c .nils) [] 0 at hfr
    (conv => whnf); (repeat ((first | (refine ⟨rfl, ?_⟩) | (refine ⟨trivial, ?_⟩) | (refine Wk.yes ?_) | (refine Wk.no ?_) | (refine Wk.and ?_)); (conv => whnf)))
    refine CallA.ro [] (.c .nils) (hfr) (by first | rfl | exact congrArg AV.g (ints_ren _ _) | (simp [ints_ren, AV.ren, ABlk.ren, AC.ren, AE.ren, qq]; done)) rfl (by (repeat (first | exact trivial | refine ⟨⟨(by first | exact .inl (by decide) | exact .inr (by decide)), (by first | rfl | exact congrArg some (ints_ren _ _).symm | exact congrArg ABlk.own (ints_ren _ _).symm | exact congrArg some (tab64_ren _).symm)⟩, ?_⟩))) (by first | rfl | exact congrArg AV.g (ints_ren _ _) | (simp [ints_ren, AV.ren, ABlk.ren, AC.ren, AE.ren, qq]; done)) ?_
    have hjp := joinedP_nil hgm hws (f := 0) (k := k0) hf0 hk0 hd0
    (conv => whnf); (repeat ((first | (refine ⟨rfl, ?_⟩) | (refine ⟨trivial, ?_⟩) | (refine Wk.yes ?_) | (refine Wk.no ?_) | (refine Wk.and ?_)); (conv => whnf)))
    refine CallA.ro [0] (.t [.c (.bool (joinedB g k0)), .c (.int .i64 0)]) (hjp) (by first | rfl | exact congrArg AV.g (ints_ren _ _) | (simp [ints_ren, AV.ren, ABlk.ren, AC.ren, AE.ren, qq]; done)) rfl (by (repeat (first | exact trivial | refine ⟨⟨(by first | exact .inl (by decide) | exact .inr (by decide)), (by first | rfl | exact congrArg some (ints_ren _ _).symm | exact congrArg ABlk.own (ints_ren _ _).symm | exact congrArg some (tab64_ren _).symm)⟩, ?_⟩))) (by first | rfl | exact congrArg AV.g (ints_ren _ _) | (simp [ints_ren, AV.ren, ABlk.ren, AC.ren, AE.ren, qq]; done)) ?_
    (conv => whnf); (repeat ((first | (refine ⟨rfl, ?_⟩) | (refine ⟨trivial, ?_⟩) | (refine Wk.yes ?_) | (refine Wk.no ?_) | (refine Wk.and ?_)); (conv => whnf)))
    rw [hWz]
    rw [show (bif true then joinedB g k0 == joinedB g k0 else false) = true from by simp]
    (conv => whnf); (repeat ((first | (refine ⟨rfl, ?_⟩) | (refine ⟨trivial, ?_⟩) | (refine Wk.yes ?_) | (refine Wk.no ?_) | (refine Wk.and ?_)); (conv => whnf)))
    refine CallA.ro [] (.c (.bool true)) (awake_spec) (by first | rfl | exact congrArg AV.g (ints_ren _ _) | (simp [ints_ren, AV.ren, ABlk.ren, AC.ren, AE.ren, qq]; done)) rfl (by (repeat (first | exact trivial | refine ⟨⟨(by first | exact .inl (by decide) | exact .inr (by decide)), (by first | rfl | exact congrArg some (ints_ren _ _).symm | exact congrArg ABlk.own (ints_ren _ _).symm | exact congrArg some (tab64_ren _).symm)⟩, ?_⟩))) (by first | rfl | exact congrArg AV.g (ints_ren _ _) | (simp [ints_ren, AV.ren, ABlk.ren, AC.ren, AE.ren, qq]; done)) ?_
    (conv => whnf); (repeat ((first | (refine ⟨rfl, ?_⟩) | (refine ⟨trivial, ?_⟩) | (refine Wk.yes ?_) | (refine Wk.no ?_) | (refine Wk.and ?_)); (conv => whnf)))
    exact AH.Fin.nil [] ⟨rfl, rfl, rfl⟩ (by first | exact trivial | (simp [tupA, hpLt, tmLt, AV.lt, AE.lt, AC.lt, LL_cons, LL_nil, idOk, ABlk.lt, ints_LL, GB, tab64_LL, gC, wB, giC, noneB, gst, tC, pC, gN, gR, rC, rB]; done) | (simp [tupA, hpLt, tmLt, AV.lt, AE.lt, AC.lt, LL_cons, LL_nil, idOk, ABlk.lt, ints_LL, GB, tab64_LL, gC, wB, giC, noneB, gst, tC, pC, gN, gR, rC, rB, rdn, wrn]; done)) trivial trivial rfl (by simp [GB])
theorem plays_row (x : Rw) (p : List UInt8) (L : List Int) (hL : L.length ≤ 9223372036854775807) (h4 : x.ws.length ≤ 9223372036854775807) (hws : ¬ (tame x 8 8).ws = []) : FDet Tryd.prog 13 [.g (rC x 0), .c (.str (bs p)), .c (.rs 1 0 L.length)] [(0, rB x), (1, .ro (ints L)), (100002, .ro tab64), (100000, noneB)] 2 (.c (.bool true)) [] 2 := by
  have hgm := tame_game x (pl := 8) (most := 8) (by omega) (by omega) (by omega)
  have hgl := hgm.ok.len
  have hpos := List.length_pos_iff.2 hws
  have ht := tame_rs (x := x) (pl := 8) (most := 8) (by omega) (by omega) (by omega) h4 hpos
  have hg8 := (tameA_Tm x (n := tameN x 8) (most := 8) (by have : tameN x 8 = 2 + um x.n (8 - 1) := rfl; omega) _ (Nat.le_refl _)).2
  have hg8 : (tame x 8 8).ws.length ≤ 8 := hg8
  generalize tame x 8 8 = g at *
  have hgv := given_rs hpos hgl
  have hpn := position_spec hgm.ok p
  obtain ⟨f0, k0, hf0, hk0, hd0, hpe⟩ : ∃ f k, f < 2 ^ g.ws.length ∧ k < 2 ^ g.ws.length ∧ (∀ i, f.testBit i = true → k.testBit i = false) ∧ posOf p g.ws.length = posL g.ws.length f k := ⟨_, _, fB_lt _ _, kB_lt _ _, fkB_dis _ _, pos_of_ok (posOf_ok _ _)⟩
  rw [hpe] at hpn
  obtain ⟨c0, hc0⟩ : ∃ c0 : Bool, decide ((L.length : Int) % 2 = 0) = c0 := ⟨_, rfl⟩
  have hwp := winsP_spec hgm hf0 hk0 hd0 c0
  have hp0 : 2 ^ g.ws.length ≤ 1024 := Nat.pow_le_pow_right (by omega) hgl
  refine FSpec.of_body tok true Tryd.func13 rfl (by kernel_rfl) (by decide) (by simp [tupA, hpLt, tmLt, AV.lt, AE.lt, AC.lt, LL_cons, LL_nil, idOk, ABlk.lt, ints_LL, GB, tab64_LL, gC, wB, giC, noneB, gst, tC, pC, gN, gR, rC, rB]) (by simp [tupA, hpLt, tmLt, AV.lt, AE.lt, AC.lt, LL_cons, LL_nil, idOk, ABlk.lt, ints_LL, GB, tab64_LL, gC, wB, giC, noneB, gst, tC, pC, gN, gR, rC, rB]) (by show 3 ≤ _; decide) ?_
  (conv => whnf); (repeat ((first | (refine ⟨rfl, ?_⟩) | (refine ⟨trivial, ?_⟩) | (refine Wk.yes ?_) | (refine Wk.no ?_) | (refine Wk.and ?_)); (conv => whnf)))
  refine CallA.det [0] (.g (gC g 3)) ([(2, .own (rC x 0)), (0, rB x), (1, .ro (ints L)), (100002, .ro tab64), (100000, noneB), (3, .row 60 2 (ints (fl g.ws)))]) (ht) (by first | rfl | exact congrArg AV.g (ints_ren _ _) | (simp [ints_ren, AV.ren, ABlk.ren, AC.ren, AE.ren, qq]; done)) rfl (by (repeat (first | exact trivial | refine ⟨⟨(by first | exact .inl (by decide) | exact .inr (by decide)), (by first | rfl | exact congrArg some (ints_ren _ _).symm | exact congrArg ABlk.own (ints_ren _ _).symm | exact congrArg some (tab64_ren _).symm)⟩, ?_⟩))) (by first | rfl | exact congrArg AV.g (ints_ren _ _) | (simp [ints_ren, AV.ren, ABlk.ren, AC.ren, AE.ren, qq]; done)) (by first | rfl | (simp [behind, gone, lk, up, del, qq, ABlk.wr, GB, ints_ren, AV.ren, ABlk.ren, AC.ren, AE.ren]; done) | (simp [behind, gone, lk, up, del, qq, ABlk.wr, GB, ints_ren, AV.ren, ABlk.ren, AC.ren, AE.ren]; rfl)) ?_
  (conv => whnf); (repeat ((first | (refine ⟨rfl, ?_⟩) | (refine ⟨trivial, ?_⟩) | (refine Wk.yes ?_) | (refine Wk.no ?_) | (refine Wk.and ?_)); (conv => whnf)))
  refine CallA.det [3] (.g (gC g 5)) ([(4, .own (gC g 3)), (2, .own (rC x 0)), (0, rB x), (1, .ro (ints L)), (100002, .ro tab64), (100000, noneB), (3, .row 60 2 (ints (fl g.ws))), (5, .row 60 2 (ints (fl g.ws)))]) (hgv) (by first | rfl | exact congrArg AV.g (ints_ren _ _) | (simp [ints_ren, AV.ren, ABlk.ren, AC.ren, AE.ren, qq]; done)) rfl (by (repeat (first | exact trivial | refine ⟨⟨(by first | exact .inl (by decide) | exact .inr (by decide)), (by first | rfl | exact congrArg some (ints_ren _ _).symm | exact congrArg ABlk.own (ints_ren _ _).symm | exact congrArg some (tab64_ren _).symm)⟩, ?_⟩))) (by first | rfl | exact congrArg AV.g (ints_ren _ _) | (simp [ints_ren, AV.ren, ABlk.ren, AC.ren, AE.ren, qq]; done)) (by first | rfl | (simp [behind, gone, lk, up, del, qq, ABlk.wr, GB, ints_ren, AV.ren, ABlk.ren, AC.ren, AE.ren]; done) | (simp [behind, gone, lk, up, del, qq, ABlk.wr, GB, ints_ren, AV.ren, ABlk.ren, AC.ren, AE.ren]; rfl)) ?_
  (conv => whnf); (repeat ((first | (refine ⟨rfl, ?_⟩) | (refine ⟨trivial, ?_⟩) | (refine Wk.yes ?_) | (refine Wk.no ?_) | (refine Wk.and ?_)); (conv => whnf)))
  refine CallA.ro [3] (.c (.str (posB g.ws.length f0 k0))) (hpn) (by first | rfl | exact congrArg AV.g (ints_ren _ _) | (simp [ints_ren, AV.ren, ABlk.ren, AC.ren, AE.ren, qq]; done)) rfl (by (repeat (first | exact trivial | refine ⟨⟨(by first | exact .inl (by decide) | exact .inr (by decide)), (by first | rfl | exact congrArg some (ints_ren _ _).symm | exact congrArg ABlk.own (ints_ren _ _).symm | exact congrArg some (tab64_ren _).symm)⟩, ?_⟩))) (by first | rfl | exact congrArg AV.g (ints_ren _ _) | (simp [ints_ren, AV.ren, ABlk.ren, AC.ren, AE.ren, qq]; done)) ?_
  (conv => whnf); (repeat ((first | (refine ⟨rfl, ?_⟩) | (refine ⟨trivial, ?_⟩) | (refine Wk.yes ?_) | (refine Wk.no ?_) | (refine Wk.and ?_)); (conv => whnf)))
  rw [hc0]
  (conv => whnf); (repeat ((first | (refine ⟨rfl, ?_⟩) | (refine ⟨trivial, ?_⟩) | (refine Wk.yes ?_) | (refine Wk.no ?_) | (refine Wk.and ?_)); (conv => whnf)))
  refine CallA.ro [5] (.t [.c (.bool (W g f0 k0 c0)), .c (.int .i64 0)]) (hwp) (by first | rfl | exact congrArg AV.g (ints_ren _ _) | (simp [ints_ren, AV.ren, ABlk.ren, AC.ren, AE.ren, qq]; done)) rfl (by (repeat (first | exact trivial | refine ⟨⟨(by first | exact .inl (by decide) | exact .inr (by decide)), (by first | rfl | exact congrArg some (ints_ren _ _).symm | exact congrArg ABlk.own (ints_ren _ _).symm | exact congrArg some (tab64_ren _).symm)⟩, ?_⟩))) (by first | rfl | exact congrArg AV.g (ints_ren _ _) | (simp [ints_ren, AV.ren, ABlk.ren, AC.ren, AE.ren, qq]; done)) ?_
  (conv => whnf); (repeat ((first | (refine ⟨rfl, ?_⟩) | (refine ⟨trivial, ?_⟩) | (refine Wk.yes ?_) | (refine Wk.no ?_) | (refine Wk.and ?_)); (conv => whnf)))
  refine Tr.loop (md := true) (X := Nat × Nat × Nat × Bool) (st := fun q => ⟨[(2, .c (.rs 1 0 L.length)), (7, .c (.ptr 4 0)), (8, .c (.ptr 6 0)), (9, .c (.str (posB g.ws.length q.2.1 q.2.2.1))), (10, .c (.bool q.2.2.2)), (11, .c (.bool (W g f0 k0 c0))), (13, .c (.int .i64 q.1))], [(6, .own (gC g 5)), (4, .own (gC g 3)), (2, .own (rC x 0)), (0, rB x), (1, .ro (ints L)), (100002, .ro tab64), (100000, noneB), (3, .row 60 2 (ints (fl g.ws))), (5, .row 60 2 (ints (fl g.ws)))], 7, 126, 2⟩) (inv := fun q => q.1 ≤ 10 ∧ q.2.1 < 2 ^ g.ws.length ∧ q.2.2.1 < 2 ^ g.ws.length ∧ (∀ i, q.2.1.testBit i = true → q.2.2.1.testBit i = false) ∧ W g q.2.1 q.2.2.1 q.2.2.2 = W g f0 k0 c0 ∧ pop q.2.1 + q.1 ≤ 8) (μ := fun q => 10 - q.1) (x0 := (0, f0, k0, c0)) (l := []) tok ⟨by omega, hf0, hk0, hd0, rfl, by have := pop_len hgl hf0; show pop f0 + 0 ≤ 8; omega⟩ ?_ ?_
  · exact Sub.nil ⟨rfl, rfl, (by simp [tab64_LL, gC, wB, giC, noneB, gst, tC, pC, gN, gR, rC, rB]), rfl, (by simp [tupA, hpLt, tmLt, AV.lt, AE.lt, AC.lt, LL_cons, LL_nil, idOk, ABlk.lt, ints_LL, GB, tab64_LL, gC, wB, giC, noneB, gst, tC, pC, gN, gR, rC, rB]), (by simp [tupA, hpLt, tmLt, AV.lt, AE.lt, AC.lt, LL_cons, LL_nil, idOk, ABlk.lt, ints_LL, GB, tab64_LL, gC, wB, giC, noneB, gst, tC, pC, gN, gR, rC, rB])⟩ (by (repeat (first | exact trivial | refine ⟨trivial, ?_⟩ | refine ⟨rfl, ?_⟩))) (by (repeat (first | exact trivial | refine ⟨trivial, ?_⟩ | refine ⟨rfl, ?_⟩)))
  · rintro ⟨i, f, k, c⟩ ⟨hi, hf, hk, hd, hW, hpop⟩
    dsimp only at hi hf hk hd hW hpop
    dsimp only
    generalize W g f0 k0 c0 = V at *
    (conv => whnf); (repeat ((first | (refine ⟨rfl, ?_⟩) | (refine ⟨trivial, ?_⟩) | (refine Wk.yes ?_) | (refine Wk.no ?_) | (refine Wk.and ?_)); (conv => whnf)))
    refine ⟨fun hc => ?_, fun hc => ?_⟩ <;> (try simp only [decide_eq_true_eq, decide_eq_false_iff_not, Decidable.not_not, Bool.not_true, Bool.not_false, ne_eq, cond_true, cond_false, Bool.not_eq_true', Bool.not_eq_false'] at hc)
    · by_cases h0 : f = 0
      · subst h0
        have hfr := free_spec (k := k) hgl hf
        rw [show mem 0 = [] from by decide] at hfr
        change FDet Tryd.prog _ _ _ _ (.c .nils) [] 0 at hfr
        (conv => whnf); (repeat ((first | (refine ⟨rfl, ?_⟩) | (refine ⟨trivial, ?_⟩) | (refine Wk.yes ?_) | (refine Wk.no ?_) | (refine Wk.and ?_)); (conv => whnf)))
        refine CallA.ro [] (.c .nils) (hfr) (by first | rfl | exact congrArg AV.g (ints_ren _ _) | (simp [ints_ren, AV.ren, ABlk.ren, AC.ren, AE.ren, qq]; done)) rfl (by (repeat (first | exact trivial | refine ⟨⟨(by first | exact .inl (by decide) | exact .inr (by decide)), (by first | rfl | exact congrArg some (ints_ren _ _).symm | exact congrArg ABlk.own (ints_ren _ _).symm | exact congrArg some (tab64_ren _).symm)⟩, ?_⟩))) (by first | rfl | exact congrArg AV.g (ints_ren _ _) | (simp [ints_ren, AV.ren, ABlk.ren, AC.ren, AE.ren, qq]; done)) ?_
        have hjp := joinedP_spec hgm (f := 0) (k := k) hf hk hd
        (conv => whnf); (repeat ((first | (refine ⟨rfl, ?_⟩) | (refine ⟨trivial, ?_⟩) | (refine Wk.yes ?_) | (refine Wk.no ?_) | (refine Wk.and ?_)); (conv => whnf)))
        refine CallA.ro [5] (.t [.c (.bool (joinedB g k)), .c (.int .i64 0)]) (hjp) (by first | rfl | exact congrArg AV.g (ints_ren _ _) | (simp [ints_ren, AV.ren, ABlk.ren, AC.ren, AE.ren, qq]; done)) rfl (by (repeat (first | exact trivial | refine ⟨⟨(by first | exact .inl (by decide) | exact .inr (by decide)), (by first | rfl | exact congrArg some (ints_ren _ _).symm | exact congrArg ABlk.own (ints_ren _ _).symm | exact congrArg some (tab64_ren _).symm)⟩, ?_⟩))) (by first | rfl | exact congrArg AV.g (ints_ren _ _) | (simp [ints_ren, AV.ren, ABlk.ren, AC.ren, AE.ren, qq]; done)) ?_
        rw [W_zero] at hW
        rw [hW]
        (conv => whnf); (repeat ((first | (refine ⟨rfl, ?_⟩) | (refine ⟨trivial, ?_⟩) | (refine Wk.yes ?_) | (refine Wk.no ?_) | (refine Wk.and ?_)); (conv => whnf)))
        rw [show (bif true then V == V else false) = true from by simp]
        (conv => whnf); (repeat ((first | (refine ⟨rfl, ?_⟩) | (refine ⟨trivial, ?_⟩) | (refine Wk.yes ?_) | (refine Wk.no ?_) | (refine Wk.and ?_)); (conv => whnf)))
        refine CallA.ro [] (.c (.bool true)) (awake_spec) (by first | rfl | exact congrArg AV.g (ints_ren _ _) | (simp [ints_ren, AV.ren, ABlk.ren, AC.ren, AE.ren, qq]; done)) rfl (by (repeat (first | exact trivial | refine ⟨⟨(by first | exact .inl (by decide) | exact .inr (by decide)), (by first | rfl | exact congrArg some (ints_ren _ _).symm | exact congrArg ABlk.own (ints_ren _ _).symm | exact congrArg some (tab64_ren _).symm)⟩, ?_⟩))) (by first | rfl | exact congrArg AV.g (ints_ren _ _) | (simp [ints_ren, AV.ren, ABlk.ren, AC.ren, AE.ren, qq]; done)) ?_
        (conv => whnf); (repeat ((first | (refine ⟨rfl, ?_⟩) | (refine ⟨trivial, ?_⟩) | (refine Wk.yes ?_) | (refine Wk.no ?_) | (refine Wk.and ?_)); (conv => whnf)))
        exact AH.Fin.nil [] ⟨rfl, rfl, rfl⟩ (by first | exact trivial | (simp [tupA, hpLt, tmLt, AV.lt, AE.lt, AC.lt, LL_cons, LL_nil, idOk, ABlk.lt, ints_LL, GB, tab64_LL, gC, wB, giC, noneB, gst, tC, pC, gN, gR, rC, rB]; done) | (simp [tupA, hpLt, tmLt, AV.lt, AE.lt, AC.lt, LL_cons, LL_nil, idOk, ABlk.lt, ints_LL, GB, tab64_LL, gC, wB, giC, noneB, gst, tC, pC, gN, gR, rC, rB, rdn, wrn]; done)) trivial trivial rfl (by simp [GB])
      · have hfr := free_spec (k := k) hgl hf
        obtain ⟨w0, ws, hw0⟩ : ∃ w0 ws, mem f = w0 :: ws := by
          cases hq : mem f with
          | nil =>
            have := pop_pos f (by omega) (by omega)
            have h2 : (mem f).length = pop f := by simp [mem, pop]
            rw [hq] at h2; simp at h2; omega
          | cons a b => exact ⟨a, b, rfl⟩
        have hwl : ws.length + 1 ≤ 10 := by
          have := mem_len (n := f) (by omega)
          rw [hw0] at this; exact this
        rw [hw0] at hfr
        change FDet Tryd.prog _ _ _ _ (.c (.row 0 (ws.length + 1))) [(0, .row 3 1 (ints (w0 :: ws)))] 1 at hfr
        have hbp := bestP_spec hgm hf hk hd c
        have hWA := W_any hgm.ok c hf hk h0
        have hsz := posB_size g.ws.length f k
        have hpp := pop_pos f (by omega) (by omega)
        (conv => whnf); (repeat ((first | (refine ⟨rfl, ?_⟩) | (refine ⟨trivial, ?_⟩) | (refine Wk.yes ?_) | (refine Wk.no ?_) | (refine Wk.and ?_)); (conv => whnf)))
        refine CallA.det [] (.c (.row 7 (ws.length + 1))) ([(6, .own (gC g 5)), (4, .own (gC g 3)), (2, .own (rC x 0)), (0, rB x), (1, .ro (ints L)), (100002, .ro tab64), (100000, noneB), (3, .row 60 2 (ints (fl g.ws))), (5, .row 60 2 (ints (fl g.ws))), (7, .row 3 1 (ints (w0 :: ws)))]) (hfr) (by first | rfl | exact congrArg AV.g (ints_ren _ _) | (simp [ints_ren, AV.ren, ABlk.ren, AC.ren, AE.ren, qq]; done)) rfl (by (repeat (first | exact trivial | refine ⟨⟨(by first | exact .inl (by decide) | exact .inr (by decide)), (by first | rfl | exact congrArg some (ints_ren _ _).symm | exact congrArg ABlk.own (ints_ren _ _).symm | exact congrArg some (tab64_ren _).symm)⟩, ?_⟩))) (by first | rfl | exact congrArg AV.g (ints_ren _ _) | (simp [ints_ren, AV.ren, ABlk.ren, AC.ren, AE.ren, qq]; done)) (by first | rfl | (simp [behind, gone, lk, up, del, qq, ABlk.wr, GB, ints_ren, AV.ren, ABlk.ren, AC.ren, AE.ren]; done) | (simp [behind, gone, lk, up, del, qq, ABlk.wr, GB, ints_ren, AV.ren, ABlk.ren, AC.ren, AE.ren]; rfl)) ?_
        (conv => whnf); (repeat ((first | (refine ⟨rfl, ?_⟩) | (refine ⟨trivial, ?_⟩) | (refine Wk.yes ?_) | (refine Wk.no ?_) | (refine Wk.and ?_)); (conv => whnf)))
        rw [decide_eq_false (show ¬ ((ws.length + 1 : Nat) : Int) = 0 by omega)]
        cases c with
        | true =>
          (conv => whnf); (repeat ((first | (refine ⟨rfl, ?_⟩) | (refine ⟨trivial, ?_⟩) | (refine Wk.yes ?_) | (refine Wk.no ?_) | (refine Wk.and ?_)); (conv => whnf)))
          by_cases hlt : i < L.length
          · rw [decide_eq_true (show (i : Int) < (L.length : Int) by omega)]
            (conv => whnf); (repeat ((first | (refine ⟨rfl, ?_⟩) | (refine ⟨trivial, ?_⟩) | (refine Wk.yes ?_) | (refine Wk.no ?_) | (refine Wk.and ?_)); (conv => whnf)))
            refine ⟨by rw [ints_len, Int.toNat_natCast]; omega, ?_⟩
            rw [show (ints L).getD (0 + (i : Int).toNat * 1) (.int .i64 0) = .int .i64 (L.getD i 0) by rw [ints_getD, Int.toNat_natCast, Nat.mul_one, Nat.zero_add]]
            generalize L.getD i 0 = wv
            (conv => whnf); (repeat ((first | (refine ⟨rfl, ?_⟩) | (refine ⟨trivial, ?_⟩) | (refine Wk.yes ?_) | (refine Wk.no ?_) | (refine Wk.and ?_)); (conv => whnf)))
            have hu := um_lt wv (n := ws.length + 1) (by omega)
            rw [wrapU (by omega)]
            refine ⟨⟨wrap_nn _, by omega⟩, ?_⟩
            (conv => whnf); (repeat ((first | (refine ⟨rfl, ?_⟩) | (refine ⟨trivial, ?_⟩) | (refine Wk.yes ?_) | (refine Wk.no ?_) | (refine Wk.and ?_)); (conv => whnf)))
            rw [um_wrap _ (by omega) (by omega)]
            generalize um wv (ws.length + 1) = u at hu ⊢
            obtain ⟨v, hv⟩ : ∃ v, v = (w0 :: ws).getD u 0 := ⟨_, rfl⟩
            have hvm : v ∈ mem f := by
              rw [hw0, hv, List.getD_eq_getElem?_getD, List.getElem?_eq_getElem (by simp; omega)]
              exact List.getElem_mem _
            have hat3 : (ints (w0 :: ws)).getD (Int.toNat (u : Int) * 1) (.int .i64 0) = .int .i64 v := by rw [ints_getD, Int.toNat_natCast, Nat.mul_one, hv]
            obtain ⟨w, rfl, hlw, hwb, hkb, hoff, hpo, hk2, hd1, hd2⟩ := wire_facts hgm.ok hf hk hd hvm
            (conv => whnf); (repeat ((first | (refine ⟨rfl, ?_⟩) | (refine ⟨trivial, ?_⟩) | (refine Wk.yes ?_) | (refine Wk.no ?_) | (refine Wk.and ?_)); (conv => whnf)))
            refine ⟨by rw [ints_len, Int.toNat_natCast, List.length_cons]; omega, ?_⟩
            (conv => whnf); (repeat ((first | (refine ⟨rfl, ?_⟩) | (refine ⟨trivial, ?_⟩) | (refine Wk.yes ?_) | (refine Wk.no ?_) | (refine Wk.and ?_)); (conv => whnf)))
            rw [hat3]
            cases V with
            | true =>
              have hns : (goodO g f k true).isSome = false := by
                rw [hW] at hWA
                revert hWA
                cases (goodO g f k true).isSome <;> simp
              have hW2 : W g (offN f w) k false = true := by
                have := goodO_none hns hvm
                simpa using this
              (conv => whnf); (repeat ((first | (refine ⟨rfl, ?_⟩) | (refine ⟨trivial, ?_⟩) | (refine Wk.yes ?_) | (refine Wk.no ?_) | (refine Wk.and ?_)); (conv => whnf)))
              refine CallA.ro [] (.c (.str (posB g.ws.length (offN f w) k))) (put_spec (ch := 45) hgl hlw (pos_cut hgl hf hlw hkb)) (by first | rfl | exact congrArg AV.g (ints_ren _ _) | (simp [ints_ren, AV.ren, ABlk.ren, AC.ren, AE.ren, qq]; done)) rfl (by (repeat (first | exact trivial | refine ⟨⟨(by first | exact .inl (by decide) | exact .inr (by decide)), (by first | rfl | exact congrArg some (ints_ren _ _).symm | exact congrArg ABlk.own (ints_ren _ _).symm | exact congrArg some (tab64_ren _).symm)⟩, ?_⟩))) (by first | rfl | exact congrArg AV.g (ints_ren _ _) | (simp [ints_ren, AV.ren, ABlk.ren, AC.ren, AE.ren, qq]; done)) ?_
              (conv => whnf); (repeat ((first | (refine ⟨rfl, ?_⟩) | (refine ⟨trivial, ?_⟩) | (refine Wk.yes ?_) | (refine Wk.no ?_) | (refine Wk.and ?_)); (conv => whnf)))
              refine Again.mk ((i + 1, offN f w, k, false)) (Sub.nil ⟨rfl, rfl, (by simp [tab64_LL, gC, wB, giC, noneB, gst, tC, pC, gN, gR, rC, rB]), rfl, (by simp [tupA, hpLt, tmLt, AV.lt, AE.lt, AC.lt, LL_cons, LL_nil, idOk, ABlk.lt, ints_LL, GB, tab64_LL, gC, wB, giC, noneB, gst, tC, pC, gN, gR, rC, rB]), (by simp [tupA, hpLt, tmLt, AV.lt, AE.lt, AC.lt, LL_cons, LL_nil, idOk, ABlk.lt, ints_LL, GB, tab64_LL, gC, wB, giC, noneB, gst, tC, pC, gN, gR, rC, rB])⟩ (by (repeat (first | exact trivial | refine ⟨trivial, ?_⟩ | refine ⟨rfl, ?_⟩))) (by (repeat (first | exact trivial | refine ⟨trivial, ?_⟩ | refine ⟨rfl, ?_⟩)))) (⟨by show i + 1 ≤ 10; omega, by show offN f w < _; omega, hk, hd1, hW2, by show pop (offN f w) + (i + 1) ≤ 8; omega⟩) (by omega)
            | false =>
              have hns : (goodO g f k true).isSome = true := by
                rw [hW] at hWA
                revert hWA
                cases (goodO g f k true).isSome <;> simp
              obtain ⟨b, hb, hbm, hWb⟩ := goodO_take hns
              obtain ⟨b, rfl, hlb, hbb, hkb3, hofb, hpob, hkb2, hdb1, hdb2⟩ := wire_facts hgm.ok hf hk hd hbm
              have hW2 : W g (offN f b) k false = false := by
                rw [Int.toNat_natCast] at hWb
                simpa using hWb
              have hpt := pos_at (f := f) (k := k) hlb
              rw [if_pos hbb] at hpt
              rw [hb] at hbp
              (conv => whnf); (repeat ((first | (refine ⟨rfl, ?_⟩) | (refine ⟨trivial, ?_⟩) | (refine Wk.yes ?_) | (refine Wk.no ?_) | (refine Wk.and ?_)); (conv => whnf)))
              refine CallA.ro [5] (.t [.c (.int .i64 b), .c (.bool true), .c (.int .i64 0)]) (hbp) (by first | rfl | exact congrArg AV.g (ints_ren _ _) | (simp [ints_ren, AV.ren, ABlk.ren, AC.ren, AE.ren, qq]; done)) rfl (by (repeat (first | exact trivial | refine ⟨⟨(by first | exact .inl (by decide) | exact .inr (by decide)), (by first | rfl | exact congrArg some (ints_ren _ _).symm | exact congrArg ABlk.own (ints_ren _ _).symm | exact congrArg some (tab64_ren _).symm)⟩, ?_⟩))) (by first | rfl | exact congrArg AV.g (ints_ren _ _) | (simp [ints_ren, AV.ren, ABlk.ren, AC.ren, AE.ren, qq]; done)) ?_
              (conv => whnf); (repeat ((first | (refine ⟨rfl, ?_⟩) | (refine ⟨trivial, ?_⟩) | (refine Wk.yes ?_) | (refine Wk.no ?_) | (refine Wk.and ?_)); (conv => whnf)))
              rw [decide_eq_false (show ¬ (b : Int) < 0 by omega)]
              (conv => whnf); (repeat ((first | (refine ⟨rfl, ?_⟩) | (refine ⟨trivial, ?_⟩) | (refine Wk.yes ?_) | (refine Wk.no ?_) | (refine Wk.and ?_)); (conv => whnf)))
              rw [hsz, decide_eq_false (show ¬ (g.ws.length : Int) ≤ (b : Int) by omega)]
              (conv => whnf); (repeat ((first | (refine ⟨rfl, ?_⟩) | (refine ⟨trivial, ?_⟩) | (refine Wk.yes ?_) | (refine Wk.no ?_) | (refine Wk.and ?_)); (conv => whnf)))
              rw [hpt]
              (conv => whnf); (repeat ((first | (refine ⟨rfl, ?_⟩) | (refine ⟨trivial, ?_⟩) | (refine Wk.yes ?_) | (refine Wk.no ?_) | (refine Wk.and ?_)); (conv => whnf)))
              refine CallA.ro [] (.c (.str (posB g.ws.length (offN f b) k))) (put_spec (ch := 45) hgl hlb (pos_cut hgl hf hlb hkb3)) (by first | rfl | exact congrArg AV.g (ints_ren _ _) | (simp [ints_ren, AV.ren, ABlk.ren, AC.ren, AE.ren, qq]; done)) rfl (by (repeat (first | exact trivial | refine ⟨⟨(by first | exact .inl (by decide) | exact .inr (by decide)), (by first | rfl | exact congrArg some (ints_ren _ _).symm | exact congrArg ABlk.own (ints_ren _ _).symm | exact congrArg some (tab64_ren _).symm)⟩, ?_⟩))) (by first | rfl | exact congrArg AV.g (ints_ren _ _) | (simp [ints_ren, AV.ren, ABlk.ren, AC.ren, AE.ren, qq]; done)) ?_
              (conv => whnf); (repeat ((first | (refine ⟨rfl, ?_⟩) | (refine ⟨trivial, ?_⟩) | (refine Wk.yes ?_) | (refine Wk.no ?_) | (refine Wk.and ?_)); (conv => whnf)))
              refine Again.mk ((i + 1, offN f b, k, false)) (Sub.nil ⟨rfl, rfl, (by simp [tab64_LL, gC, wB, giC, noneB, gst, tC, pC, gN, gR, rC, rB]), rfl, (by simp [tupA, hpLt, tmLt, AV.lt, AE.lt, AC.lt, LL_cons, LL_nil, idOk, ABlk.lt, ints_LL, GB, tab64_LL, gC, wB, giC, noneB, gst, tC, pC, gN, gR, rC, rB]), (by simp [tupA, hpLt, tmLt, AV.lt, AE.lt, AC.lt, LL_cons, LL_nil, idOk, ABlk.lt, ints_LL, GB, tab64_LL, gC, wB, giC, noneB, gst, tC, pC, gN, gR, rC, rB])⟩ (by (repeat (first | exact trivial | refine ⟨trivial, ?_⟩ | refine ⟨rfl, ?_⟩))) (by (repeat (first | exact trivial | refine ⟨trivial, ?_⟩ | refine ⟨rfl, ?_⟩)))) (⟨by show i + 1 ≤ 10; omega, by show offN f b < _; omega, hk, hdb1, hW2, by show pop (offN f b) + (i + 1) ≤ 8; omega⟩) (by omega)
          · rw [decide_eq_false (show ¬ (i : Int) < (L.length : Int) by omega)]
            (conv => whnf); (repeat ((first | (refine ⟨rfl, ?_⟩) | (refine ⟨trivial, ?_⟩) | (refine Wk.yes ?_) | (refine Wk.no ?_) | (refine Wk.and ?_)); (conv => whnf)))
            have hu := um_lt 0 (n := ws.length + 1) (by omega)
            rw [wrapU (by omega)]
            refine ⟨⟨wrap_nn _, by omega⟩, ?_⟩
            (conv => whnf); (repeat ((first | (refine ⟨rfl, ?_⟩) | (refine ⟨trivial, ?_⟩) | (refine Wk.yes ?_) | (refine Wk.no ?_) | (refine Wk.and ?_)); (conv => whnf)))
            rw [um_wrap _ (by omega) (by omega)]
            generalize um 0 (ws.length + 1) = u at hu ⊢
            obtain ⟨v, hv⟩ : ∃ v, v = (w0 :: ws).getD u 0 := ⟨_, rfl⟩
            have hvm : v ∈ mem f := by
              rw [hw0, hv, List.getD_eq_getElem?_getD, List.getElem?_eq_getElem (by simp; omega)]
              exact List.getElem_mem _
            have hat3 : (ints (w0 :: ws)).getD (Int.toNat (u : Int) * 1) (.int .i64 0) = .int .i64 v := by rw [ints_getD, Int.toNat_natCast, Nat.mul_one, hv]
            obtain ⟨w, rfl, hlw, hwb, hkb, hoff, hpo, hk2, hd1, hd2⟩ := wire_facts hgm.ok hf hk hd hvm
            (conv => whnf); (repeat ((first | (refine ⟨rfl, ?_⟩) | (refine ⟨trivial, ?_⟩) | (refine Wk.yes ?_) | (refine Wk.no ?_) | (refine Wk.and ?_)); (conv => whnf)))
            refine ⟨by rw [ints_len, Int.toNat_natCast, List.length_cons]; omega, ?_⟩
            (conv => whnf); (repeat ((first | (refine ⟨rfl, ?_⟩) | (refine ⟨trivial, ?_⟩) | (refine Wk.yes ?_) | (refine Wk.no ?_) | (refine Wk.and ?_)); (conv => whnf)))
            rw [hat3]
            cases V with
            | true =>
              have hns : (goodO g f k true).isSome = false := by
                rw [hW] at hWA
                revert hWA
                cases (goodO g f k true).isSome <;> simp
              have hW2 : W g (offN f w) k false = true := by
                have := goodO_none hns hvm
                simpa using this
              (conv => whnf); (repeat ((first | (refine ⟨rfl, ?_⟩) | (refine ⟨trivial, ?_⟩) | (refine Wk.yes ?_) | (refine Wk.no ?_) | (refine Wk.and ?_)); (conv => whnf)))
              refine CallA.ro [] (.c (.str (posB g.ws.length (offN f w) k))) (put_spec (ch := 45) hgl hlw (pos_cut hgl hf hlw hkb)) (by first | rfl | exact congrArg AV.g (ints_ren _ _) | (simp [ints_ren, AV.ren, ABlk.ren, AC.ren, AE.ren, qq]; done)) rfl (by (repeat (first | exact trivial | refine ⟨⟨(by first | exact .inl (by decide) | exact .inr (by decide)), (by first | rfl | exact congrArg some (ints_ren _ _).symm | exact congrArg ABlk.own (ints_ren _ _).symm | exact congrArg some (tab64_ren _).symm)⟩, ?_⟩))) (by first | rfl | exact congrArg AV.g (ints_ren _ _) | (simp [ints_ren, AV.ren, ABlk.ren, AC.ren, AE.ren, qq]; done)) ?_
              (conv => whnf); (repeat ((first | (refine ⟨rfl, ?_⟩) | (refine ⟨trivial, ?_⟩) | (refine Wk.yes ?_) | (refine Wk.no ?_) | (refine Wk.and ?_)); (conv => whnf)))
              refine Again.mk ((i + 1, offN f w, k, false)) (Sub.nil ⟨rfl, rfl, (by simp [tab64_LL, gC, wB, giC, noneB, gst, tC, pC, gN, gR, rC, rB]), rfl, (by simp [tupA, hpLt, tmLt, AV.lt, AE.lt, AC.lt, LL_cons, LL_nil, idOk, ABlk.lt, ints_LL, GB, tab64_LL, gC, wB, giC, noneB, gst, tC, pC, gN, gR, rC, rB]), (by simp [tupA, hpLt, tmLt, AV.lt, AE.lt, AC.lt, LL_cons, LL_nil, idOk, ABlk.lt, ints_LL, GB, tab64_LL, gC, wB, giC, noneB, gst, tC, pC, gN, gR, rC, rB])⟩ (by (repeat (first | exact trivial | refine ⟨trivial, ?_⟩ | refine ⟨rfl, ?_⟩))) (by (repeat (first | exact trivial | refine ⟨trivial, ?_⟩ | refine ⟨rfl, ?_⟩)))) (⟨by show i + 1 ≤ 10; omega, by show offN f w < _; omega, hk, hd1, hW2, by show pop (offN f w) + (i + 1) ≤ 8; omega⟩) (by omega)
            | false =>
              have hns : (goodO g f k true).isSome = true := by
                rw [hW] at hWA
                revert hWA
                cases (goodO g f k true).isSome <;> simp
              obtain ⟨b, hb, hbm, hWb⟩ := goodO_take hns
              obtain ⟨b, rfl, hlb, hbb, hkb3, hofb, hpob, hkb2, hdb1, hdb2⟩ := wire_facts hgm.ok hf hk hd hbm
              have hW2 : W g (offN f b) k false = false := by
                rw [Int.toNat_natCast] at hWb
                simpa using hWb
              have hpt := pos_at (f := f) (k := k) hlb
              rw [if_pos hbb] at hpt
              rw [hb] at hbp
              (conv => whnf); (repeat ((first | (refine ⟨rfl, ?_⟩) | (refine ⟨trivial, ?_⟩) | (refine Wk.yes ?_) | (refine Wk.no ?_) | (refine Wk.and ?_)); (conv => whnf)))
              refine CallA.ro [5] (.t [.c (.int .i64 b), .c (.bool true), .c (.int .i64 0)]) (hbp) (by first | rfl | exact congrArg AV.g (ints_ren _ _) | (simp [ints_ren, AV.ren, ABlk.ren, AC.ren, AE.ren, qq]; done)) rfl (by (repeat (first | exact trivial | refine ⟨⟨(by first | exact .inl (by decide) | exact .inr (by decide)), (by first | rfl | exact congrArg some (ints_ren _ _).symm | exact congrArg ABlk.own (ints_ren _ _).symm | exact congrArg some (tab64_ren _).symm)⟩, ?_⟩))) (by first | rfl | exact congrArg AV.g (ints_ren _ _) | (simp [ints_ren, AV.ren, ABlk.ren, AC.ren, AE.ren, qq]; done)) ?_
              (conv => whnf); (repeat ((first | (refine ⟨rfl, ?_⟩) | (refine ⟨trivial, ?_⟩) | (refine Wk.yes ?_) | (refine Wk.no ?_) | (refine Wk.and ?_)); (conv => whnf)))
              rw [decide_eq_false (show ¬ (b : Int) < 0 by omega)]
              (conv => whnf); (repeat ((first | (refine ⟨rfl, ?_⟩) | (refine ⟨trivial, ?_⟩) | (refine Wk.yes ?_) | (refine Wk.no ?_) | (refine Wk.and ?_)); (conv => whnf)))
              rw [hsz, decide_eq_false (show ¬ (g.ws.length : Int) ≤ (b : Int) by omega)]
              (conv => whnf); (repeat ((first | (refine ⟨rfl, ?_⟩) | (refine ⟨trivial, ?_⟩) | (refine Wk.yes ?_) | (refine Wk.no ?_) | (refine Wk.and ?_)); (conv => whnf)))
              rw [hpt]
              (conv => whnf); (repeat ((first | (refine ⟨rfl, ?_⟩) | (refine ⟨trivial, ?_⟩) | (refine Wk.yes ?_) | (refine Wk.no ?_) | (refine Wk.and ?_)); (conv => whnf)))
              refine CallA.ro [] (.c (.str (posB g.ws.length (offN f b) k))) (put_spec (ch := 45) hgl hlb (pos_cut hgl hf hlb hkb3)) (by first | rfl | exact congrArg AV.g (ints_ren _ _) | (simp [ints_ren, AV.ren, ABlk.ren, AC.ren, AE.ren, qq]; done)) rfl (by (repeat (first | exact trivial | refine ⟨⟨(by first | exact .inl (by decide) | exact .inr (by decide)), (by first | rfl | exact congrArg some (ints_ren _ _).symm | exact congrArg ABlk.own (ints_ren _ _).symm | exact congrArg some (tab64_ren _).symm)⟩, ?_⟩))) (by first | rfl | exact congrArg AV.g (ints_ren _ _) | (simp [ints_ren, AV.ren, ABlk.ren, AC.ren, AE.ren, qq]; done)) ?_
              (conv => whnf); (repeat ((first | (refine ⟨rfl, ?_⟩) | (refine ⟨trivial, ?_⟩) | (refine Wk.yes ?_) | (refine Wk.no ?_) | (refine Wk.and ?_)); (conv => whnf)))
              refine Again.mk ((i + 1, offN f b, k, false)) (Sub.nil ⟨rfl, rfl, (by simp [tab64_LL, gC, wB, giC, noneB, gst, tC, pC, gN, gR, rC, rB]), rfl, (by simp [tupA, hpLt, tmLt, AV.lt, AE.lt, AC.lt, LL_cons, LL_nil, idOk, ABlk.lt, ints_LL, GB, tab64_LL, gC, wB, giC, noneB, gst, tC, pC, gN, gR, rC, rB]), (by simp [tupA, hpLt, tmLt, AV.lt, AE.lt, AC.lt, LL_cons, LL_nil, idOk, ABlk.lt, ints_LL, GB, tab64_LL, gC, wB, giC, noneB, gst, tC, pC, gN, gR, rC, rB])⟩ (by (repeat (first | exact trivial | refine ⟨trivial, ?_⟩ | refine ⟨rfl, ?_⟩))) (by (repeat (first | exact trivial | refine ⟨trivial, ?_⟩ | refine ⟨rfl, ?_⟩)))) (⟨by show i + 1 ≤ 10; omega, by show offN f b < _; omega, hk, hdb1, hW2, by show pop (offN f b) + (i + 1) ≤ 8; omega⟩) (by omega)
        | false =>
          (conv => whnf); (repeat ((first | (refine ⟨rfl, ?_⟩) | (refine ⟨trivial, ?_⟩) | (refine Wk.yes ?_) | (refine Wk.no ?_) | (refine Wk.and ?_)); (conv => whnf)))
          by_cases hlt : i < L.length
          · rw [decide_eq_true (show (i : Int) < (L.length : Int) by omega)]
            (conv => whnf); (repeat ((first | (refine ⟨rfl, ?_⟩) | (refine ⟨trivial, ?_⟩) | (refine Wk.yes ?_) | (refine Wk.no ?_) | (refine Wk.and ?_)); (conv => whnf)))
            refine ⟨by rw [ints_len, Int.toNat_natCast]; omega, ?_⟩
            rw [show (ints L).getD (0 + (i : Int).toNat * 1) (.int .i64 0) = .int .i64 (L.getD i 0) by rw [ints_getD, Int.toNat_natCast, Nat.mul_one, Nat.zero_add]]
            generalize L.getD i 0 = wv
            (conv => whnf); (repeat ((first | (refine ⟨rfl, ?_⟩) | (refine ⟨trivial, ?_⟩) | (refine Wk.yes ?_) | (refine Wk.no ?_) | (refine Wk.and ?_)); (conv => whnf)))
            have hu := um_lt wv (n := ws.length + 1) (by omega)
            rw [wrapU (by omega)]
            refine ⟨⟨wrap_nn _, by omega⟩, ?_⟩
            (conv => whnf); (repeat ((first | (refine ⟨rfl, ?_⟩) | (refine ⟨trivial, ?_⟩) | (refine Wk.yes ?_) | (refine Wk.no ?_) | (refine Wk.and ?_)); (conv => whnf)))
            rw [um_wrap _ (by omega) (by omega)]
            generalize um wv (ws.length + 1) = u at hu ⊢
            obtain ⟨v, hv⟩ : ∃ v, v = (w0 :: ws).getD u 0 := ⟨_, rfl⟩
            have hvm : v ∈ mem f := by
              rw [hw0, hv, List.getD_eq_getElem?_getD, List.getElem?_eq_getElem (by simp; omega)]
              exact List.getElem_mem _
            have hat3 : (ints (w0 :: ws)).getD (Int.toNat (u : Int) * 1) (.int .i64 0) = .int .i64 v := by rw [ints_getD, Int.toNat_natCast, Nat.mul_one, hv]
            obtain ⟨w, rfl, hlw, hwb, hkb, hoff, hpo, hk2, hd1, hd2⟩ := wire_facts hgm.ok hf hk hd hvm
            (conv => whnf); (repeat ((first | (refine ⟨rfl, ?_⟩) | (refine ⟨trivial, ?_⟩) | (refine Wk.yes ?_) | (refine Wk.no ?_) | (refine Wk.and ?_)); (conv => whnf)))
            refine ⟨by rw [ints_len, Int.toNat_natCast, List.length_cons]; omega, ?_⟩
            (conv => whnf); (repeat ((first | (refine ⟨rfl, ?_⟩) | (refine ⟨trivial, ?_⟩) | (refine Wk.yes ?_) | (refine Wk.no ?_) | (refine Wk.and ?_)); (conv => whnf)))
            rw [hat3]
            cases V with
            | false =>
              have hns : (goodO g f k false).isSome = false := by
                rw [hW] at hWA
                revert hWA
                cases (goodO g f k false).isSome <;> simp
              have hW2 : W g (offN f w) (k ||| 2 ^ w) true = false := by
                have := goodO_none hns hvm
                simpa using this
              (conv => whnf); (repeat ((first | (refine ⟨rfl, ?_⟩) | (refine ⟨trivial, ?_⟩) | (refine Wk.yes ?_) | (refine Wk.no ?_) | (refine Wk.and ?_)); (conv => whnf)))
              refine CallA.ro [] (.c (.str (posB g.ws.length (offN f w) (k ||| 2 ^ w)))) (put_spec (ch := 43) hgl hlw (pos_keep hgl hf hlw)) (by first | rfl | exact congrArg AV.g (ints_ren _ _) | (simp [ints_ren, AV.ren, ABlk.ren, AC.ren, AE.ren, qq]; done)) rfl (by (repeat (first | exact trivial | refine ⟨⟨(by first | exact .inl (by decide) | exact .inr (by decide)), (by first | rfl | exact congrArg some (ints_ren _ _).symm | exact congrArg ABlk.own (ints_ren _ _).symm | exact congrArg some (tab64_ren _).symm)⟩, ?_⟩))) (by first | rfl | exact congrArg AV.g (ints_ren _ _) | (simp [ints_ren, AV.ren, ABlk.ren, AC.ren, AE.ren, qq]; done)) ?_
              (conv => whnf); (repeat ((first | (refine ⟨rfl, ?_⟩) | (refine ⟨trivial, ?_⟩) | (refine Wk.yes ?_) | (refine Wk.no ?_) | (refine Wk.and ?_)); (conv => whnf)))
              refine Again.mk ((i + 1, offN f w, (k ||| 2 ^ w), true)) (Sub.nil ⟨rfl, rfl, (by simp [tab64_LL, gC, wB, giC, noneB, gst, tC, pC, gN, gR, rC, rB]), rfl, (by simp [tupA, hpLt, tmLt, AV.lt, AE.lt, AC.lt, LL_cons, LL_nil, idOk, ABlk.lt, ints_LL, GB, tab64_LL, gC, wB, giC, noneB, gst, tC, pC, gN, gR, rC, rB]), (by simp [tupA, hpLt, tmLt, AV.lt, AE.lt, AC.lt, LL_cons, LL_nil, idOk, ABlk.lt, ints_LL, GB, tab64_LL, gC, wB, giC, noneB, gst, tC, pC, gN, gR, rC, rB])⟩ (by (repeat (first | exact trivial | refine ⟨trivial, ?_⟩ | refine ⟨rfl, ?_⟩))) (by (repeat (first | exact trivial | refine ⟨trivial, ?_⟩ | refine ⟨rfl, ?_⟩)))) (⟨by show i + 1 ≤ 10; omega, by show offN f w < _; omega, hk2, hd2, hW2, by show pop (offN f w) + (i + 1) ≤ 8; omega⟩) (by omega)
            | true =>
              have hns : (goodO g f k false).isSome = true := by
                rw [hW] at hWA
                revert hWA
                cases (goodO g f k false).isSome <;> simp
              obtain ⟨b, hb, hbm, hWb⟩ := goodO_take hns
              obtain ⟨b, rfl, hlb, hbb, hkb3, hofb, hpob, hkb2, hdb1, hdb2⟩ := wire_facts hgm.ok hf hk hd hbm
              have hW2 : W g (offN f b) (k ||| 2 ^ b) true = true := by
                rw [Int.toNat_natCast] at hWb
                simpa using hWb
              have hpt := pos_at (f := f) (k := k) hlb
              rw [if_pos hbb] at hpt
              rw [hb] at hbp
              (conv => whnf); (repeat ((first | (refine ⟨rfl, ?_⟩) | (refine ⟨trivial, ?_⟩) | (refine Wk.yes ?_) | (refine Wk.no ?_) | (refine Wk.and ?_)); (conv => whnf)))
              refine CallA.ro [5] (.t [.c (.int .i64 b), .c (.bool true), .c (.int .i64 0)]) (hbp) (by first | rfl | exact congrArg AV.g (ints_ren _ _) | (simp [ints_ren, AV.ren, ABlk.ren, AC.ren, AE.ren, qq]; done)) rfl (by (repeat (first | exact trivial | refine ⟨⟨(by first | exact .inl (by decide) | exact .inr (by decide)), (by first | rfl | exact congrArg some (ints_ren _ _).symm | exact congrArg ABlk.own (ints_ren _ _).symm | exact congrArg some (tab64_ren _).symm)⟩, ?_⟩))) (by first | rfl | exact congrArg AV.g (ints_ren _ _) | (simp [ints_ren, AV.ren, ABlk.ren, AC.ren, AE.ren, qq]; done)) ?_
              (conv => whnf); (repeat ((first | (refine ⟨rfl, ?_⟩) | (refine ⟨trivial, ?_⟩) | (refine Wk.yes ?_) | (refine Wk.no ?_) | (refine Wk.and ?_)); (conv => whnf)))
              rw [decide_eq_false (show ¬ (b : Int) < 0 by omega)]
              (conv => whnf); (repeat ((first | (refine ⟨rfl, ?_⟩) | (refine ⟨trivial, ?_⟩) | (refine Wk.yes ?_) | (refine Wk.no ?_) | (refine Wk.and ?_)); (conv => whnf)))
              rw [hsz, decide_eq_false (show ¬ (g.ws.length : Int) ≤ (b : Int) by omega)]
              (conv => whnf); (repeat ((first | (refine ⟨rfl, ?_⟩) | (refine ⟨trivial, ?_⟩) | (refine Wk.yes ?_) | (refine Wk.no ?_) | (refine Wk.and ?_)); (conv => whnf)))
              rw [hpt]
              (conv => whnf); (repeat ((first | (refine ⟨rfl, ?_⟩) | (refine ⟨trivial, ?_⟩) | (refine Wk.yes ?_) | (refine Wk.no ?_) | (refine Wk.and ?_)); (conv => whnf)))
              refine CallA.ro [] (.c (.str (posB g.ws.length (offN f b) (k ||| 2 ^ b)))) (put_spec (ch := 43) hgl hlb (pos_keep hgl hf hlb)) (by first | rfl | exact congrArg AV.g (ints_ren _ _) | (simp [ints_ren, AV.ren, ABlk.ren, AC.ren, AE.ren, qq]; done)) rfl (by (repeat (first | exact trivial | refine ⟨⟨(by first | exact .inl (by decide) | exact .inr (by decide)), (by first | rfl | exact congrArg some (ints_ren _ _).symm | exact congrArg ABlk.own (ints_ren _ _).symm | exact congrArg some (tab64_ren _).symm)⟩, ?_⟩))) (by first | rfl | exact congrArg AV.g (ints_ren _ _) | (simp [ints_ren, AV.ren, ABlk.ren, AC.ren, AE.ren, qq]; done)) ?_
              (conv => whnf); (repeat ((first | (refine ⟨rfl, ?_⟩) | (refine ⟨trivial, ?_⟩) | (refine Wk.yes ?_) | (refine Wk.no ?_) | (refine Wk.and ?_)); (conv => whnf)))
              refine Again.mk ((i + 1, offN f b, (k ||| 2 ^ b), true)) (Sub.nil ⟨rfl, rfl, (by simp [tab64_LL, gC, wB, giC, noneB, gst, tC, pC, gN, gR, rC, rB]), rfl, (by simp [tupA, hpLt, tmLt, AV.lt, AE.lt, AC.lt, LL_cons, LL_nil, idOk, ABlk.lt, ints_LL, GB, tab64_LL, gC, wB, giC, noneB, gst, tC, pC, gN, gR, rC, rB]), (by simp [tupA, hpLt, tmLt, AV.lt, AE.lt, AC.lt, LL_cons, LL_nil, idOk, ABlk.lt, ints_LL, GB, tab64_LL, gC, wB, giC, noneB, gst, tC, pC, gN, gR, rC, rB])⟩ (by (repeat (first | exact trivial | refine ⟨trivial, ?_⟩ | refine ⟨rfl, ?_⟩))) (by (repeat (first | exact trivial | refine ⟨trivial, ?_⟩ | refine ⟨rfl, ?_⟩)))) (⟨by show i + 1 ≤ 10; omega, by show offN f b < _; omega, hkb2, hdb2, hW2, by show pop (offN f b) + (i + 1) ≤ 8; omega⟩) (by omega)
          · rw [decide_eq_false (show ¬ (i : Int) < (L.length : Int) by omega)]
            (conv => whnf); (repeat ((first | (refine ⟨rfl, ?_⟩) | (refine ⟨trivial, ?_⟩) | (refine Wk.yes ?_) | (refine Wk.no ?_) | (refine Wk.and ?_)); (conv => whnf)))
            have hu := um_lt 0 (n := ws.length + 1) (by omega)
            rw [wrapU (by omega)]
            refine ⟨⟨wrap_nn _, by omega⟩, ?_⟩
            (conv => whnf); (repeat ((first | (refine ⟨rfl, ?_⟩) | (refine ⟨trivial, ?_⟩) | (refine Wk.yes ?_) | (refine Wk.no ?_) | (refine Wk.and ?_)); (conv => whnf)))
            rw [um_wrap _ (by omega) (by omega)]
            generalize um 0 (ws.length + 1) = u at hu ⊢
            obtain ⟨v, hv⟩ : ∃ v, v = (w0 :: ws).getD u 0 := ⟨_, rfl⟩
            have hvm : v ∈ mem f := by
              rw [hw0, hv, List.getD_eq_getElem?_getD, List.getElem?_eq_getElem (by simp; omega)]
              exact List.getElem_mem _
            have hat3 : (ints (w0 :: ws)).getD (Int.toNat (u : Int) * 1) (.int .i64 0) = .int .i64 v := by rw [ints_getD, Int.toNat_natCast, Nat.mul_one, hv]
            obtain ⟨w, rfl, hlw, hwb, hkb, hoff, hpo, hk2, hd1, hd2⟩ := wire_facts hgm.ok hf hk hd hvm
            (conv => whnf); (repeat ((first | (refine ⟨rfl, ?_⟩) | (refine ⟨trivial, ?_⟩) | (refine Wk.yes ?_) | (refine Wk.no ?_) | (refine Wk.and ?_)); (conv => whnf)))
            refine ⟨by rw [ints_len, Int.toNat_natCast, List.length_cons]; omega, ?_⟩
            (conv => whnf); (repeat ((first | (refine ⟨rfl, ?_⟩) | (refine ⟨trivial, ?_⟩) | (refine Wk.yes ?_) | (refine Wk.no ?_) | (refine Wk.and ?_)); (conv => whnf)))
            rw [hat3]
            cases V with
            | false =>
              have hns : (goodO g f k false).isSome = false := by
                rw [hW] at hWA
                revert hWA
                cases (goodO g f k false).isSome <;> simp
              have hW2 : W g (offN f w) (k ||| 2 ^ w) true = false := by
                have := goodO_none hns hvm
                simpa using this
              (conv => whnf); (repeat ((first | (refine ⟨rfl, ?_⟩) | (refine ⟨trivial, ?_⟩) | (refine Wk.yes ?_) | (refine Wk.no ?_) | (refine Wk.and ?_)); (conv => whnf)))
              refine CallA.ro [] (.c (.str (posB g.ws.length (offN f w) (k ||| 2 ^ w)))) (put_spec (ch := 43) hgl hlw (pos_keep hgl hf hlw)) (by first | rfl | exact congrArg AV.g (ints_ren _ _) | (simp [ints_ren, AV.ren, ABlk.ren, AC.ren, AE.ren, qq]; done)) rfl (by (repeat (first | exact trivial | refine ⟨⟨(by first | exact .inl (by decide) | exact .inr (by decide)), (by first | rfl | exact congrArg some (ints_ren _ _).symm | exact congrArg ABlk.own (ints_ren _ _).symm | exact congrArg some (tab64_ren _).symm)⟩, ?_⟩))) (by first | rfl | exact congrArg AV.g (ints_ren _ _) | (simp [ints_ren, AV.ren, ABlk.ren, AC.ren, AE.ren, qq]; done)) ?_
              (conv => whnf); (repeat ((first | (refine ⟨rfl, ?_⟩) | (refine ⟨trivial, ?_⟩) | (refine Wk.yes ?_) | (refine Wk.no ?_) | (refine Wk.and ?_)); (conv => whnf)))
              refine Again.mk ((i + 1, offN f w, (k ||| 2 ^ w), true)) (Sub.nil ⟨rfl, rfl, (by simp [tab64_LL, gC, wB, giC, noneB, gst, tC, pC, gN, gR, rC, rB]), rfl, (by simp [tupA, hpLt, tmLt, AV.lt, AE.lt, AC.lt, LL_cons, LL_nil, idOk, ABlk.lt, ints_LL, GB, tab64_LL, gC, wB, giC, noneB, gst, tC, pC, gN, gR, rC, rB]), (by simp [tupA, hpLt, tmLt, AV.lt, AE.lt, AC.lt, LL_cons, LL_nil, idOk, ABlk.lt, ints_LL, GB, tab64_LL, gC, wB, giC, noneB, gst, tC, pC, gN, gR, rC, rB])⟩ (by (repeat (first | exact trivial | refine ⟨trivial, ?_⟩ | refine ⟨rfl, ?_⟩))) (by (repeat (first | exact trivial | refine ⟨trivial, ?_⟩ | refine ⟨rfl, ?_⟩)))) (⟨by show i + 1 ≤ 10; omega, by show offN f w < _; omega, hk2, hd2, hW2, by show pop (offN f w) + (i + 1) ≤ 8; omega⟩) (by omega)
            | true =>
              have hns : (goodO g f k false).isSome = true := by
                rw [hW] at hWA
                revert hWA
                cases (goodO g f k false).isSome <;> simp
              obtain ⟨b, hb, hbm, hWb⟩ := goodO_take hns
              obtain ⟨b, rfl, hlb, hbb, hkb3, hofb, hpob, hkb2, hdb1, hdb2⟩ := wire_facts hgm.ok hf hk hd hbm
              have hW2 : W g (offN f b) (k ||| 2 ^ b) true = true := by
                rw [Int.toNat_natCast] at hWb
                simpa using hWb
              have hpt := pos_at (f := f) (k := k) hlb
              rw [if_pos hbb] at hpt
              rw [hb] at hbp
              (conv => whnf); (repeat ((first | (refine ⟨rfl, ?_⟩) | (refine ⟨trivial, ?_⟩) | (refine Wk.yes ?_) | (refine Wk.no ?_) | (refine Wk.and ?_)); (conv => whnf)))
              refine CallA.ro [5] (.t [.c (.int .i64 b), .c (.bool true), .c (.int .i64 0)]) (hbp) (by first | rfl | exact congrArg AV.g (ints_ren _ _) | (simp [ints_ren, AV.ren, ABlk.ren, AC.ren, AE.ren, qq]; done)) rfl (by (repeat (first | exact trivial | refine ⟨⟨(by first | exact .inl (by decide) | exact .inr (by decide)), (by first | rfl | exact congrArg some (ints_ren _ _).symm | exact congrArg ABlk.own (ints_ren _ _).symm | exact congrArg some (tab64_ren _).symm)⟩, ?_⟩))) (by first | rfl | exact congrArg AV.g (ints_ren _ _) | (simp [ints_ren, AV.ren, ABlk.ren, AC.ren, AE.ren, qq]; done)) ?_
              (conv => whnf); (repeat ((first | (refine ⟨rfl, ?_⟩) | (refine ⟨trivial, ?_⟩) | (refine Wk.yes ?_) | (refine Wk.no ?_) | (refine Wk.and ?_)); (conv => whnf)))
              rw [decide_eq_false (show ¬ (b : Int) < 0 by omega)]
              (conv => whnf); (repeat ((first | (refine ⟨rfl, ?_⟩) | (refine ⟨trivial, ?_⟩) | (refine Wk.yes ?_) | (refine Wk.no ?_) | (refine Wk.and ?_)); (conv => whnf)))
              rw [hsz, decide_eq_false (show ¬ (g.ws.length : Int) ≤ (b : Int) by omega)]
              (conv => whnf); (repeat ((first | (refine ⟨rfl, ?_⟩) | (refine ⟨trivial, ?_⟩) | (refine Wk.yes ?_) | (refine Wk.no ?_) | (refine Wk.and ?_)); (conv => whnf)))
              rw [hpt]
              (conv => whnf); (repeat ((first | (refine ⟨rfl, ?_⟩) | (refine ⟨trivial, ?_⟩) | (refine Wk.yes ?_) | (refine Wk.no ?_) | (refine Wk.and ?_)); (conv => whnf)))
              refine CallA.ro [] (.c (.str (posB g.ws.length (offN f b) (k ||| 2 ^ b)))) (put_spec (ch := 43) hgl hlb (pos_keep hgl hf hlb)) (by first | rfl | exact congrArg AV.g (ints_ren _ _) | (simp [ints_ren, AV.ren, ABlk.ren, AC.ren, AE.ren, qq]; done)) rfl (by (repeat (first | exact trivial | refine ⟨⟨(by first | exact .inl (by decide) | exact .inr (by decide)), (by first | rfl | exact congrArg some (ints_ren _ _).symm | exact congrArg ABlk.own (ints_ren _ _).symm | exact congrArg some (tab64_ren _).symm)⟩, ?_⟩))) (by first | rfl | exact congrArg AV.g (ints_ren _ _) | (simp [ints_ren, AV.ren, ABlk.ren, AC.ren, AE.ren, qq]; done)) ?_
              (conv => whnf); (repeat ((first | (refine ⟨rfl, ?_⟩) | (refine ⟨trivial, ?_⟩) | (refine Wk.yes ?_) | (refine Wk.no ?_) | (refine Wk.and ?_)); (conv => whnf)))
              refine Again.mk ((i + 1, offN f b, (k ||| 2 ^ b), true)) (Sub.nil ⟨rfl, rfl, (by simp [tab64_LL, gC, wB, giC, noneB, gst, tC, pC, gN, gR, rC, rB]), rfl, (by simp [tupA, hpLt, tmLt, AV.lt, AE.lt, AC.lt, LL_cons, LL_nil, idOk, ABlk.lt, ints_LL, GB, tab64_LL, gC, wB, giC, noneB, gst, tC, pC, gN, gR, rC, rB]), (by simp [tupA, hpLt, tmLt, AV.lt, AE.lt, AC.lt, LL_cons, LL_nil, idOk, ABlk.lt, ints_LL, GB, tab64_LL, gC, wB, giC, noneB, gst, tC, pC, gN, gR, rC, rB])⟩ (by (repeat (first | exact trivial | refine ⟨trivial, ?_⟩ | refine ⟨rfl, ?_⟩))) (by (repeat (first | exact trivial | refine ⟨trivial, ?_⟩ | refine ⟨rfl, ?_⟩)))) (⟨by show i + 1 ≤ 10; omega, by show offN f b < _; omega, hkb2, hdb2, hW2, by show pop (offN f b) + (i + 1) ≤ 8; omega⟩) (by omega)
    · omega
end Go.Proofs.YtfphkpdobbffeaaDoor
