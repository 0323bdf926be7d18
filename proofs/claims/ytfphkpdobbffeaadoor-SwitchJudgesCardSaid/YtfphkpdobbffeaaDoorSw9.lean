/-
  SwitchJudges: the loop over the wires, of which there are none
-/
import Derived.Test.YtfphkpdobbffeaaDoorSw8
import Derived.Test.YtfphkpdobbffeaaDoorSw7
import Derived.Test.YtfphkpdobbffeaaDoorSw5
set_option linter.unusedSimpArgs false
set_option linter.unusedVariables false
namespace Go.Proofs.YtfphkpdobbffeaaDoor
open Go Go.AH
set_option maxRecDepth 100000
set_option maxHeartbeats 2000000

theorem jd2_n {g : Gm} (L0 L1 : List Int) (r : Int) {Q : Exit → AS → Prop}
    (hQ : Q (.exit 4) ⟨[(4, .c (.ptr 5 0)), (7, .c (.ptr 7 0)), (8, .c (.ptr 9 0)), (9, .c (.ptr 30 0)), (12, .c (.int .i64 r))], hp3n g L0 L1 [] [], 42, 168, 4⟩) :
    Tr Tryd.prog jd2 ⟨[(17, .c (.int .i64 0)), (4, .c (.ptr 5 0)), (7, .c (.ptr 7 0)), (8, .c (.ptr 9 0)), (9, .c (.ptr 30 0)), (12, .c (.int .i64 r))], [(30, .own [.nils, .nils]), (7, .own (gN g)), (9, .own (gN g)), (5, .own [.rs 1 0 L0.length, .rs 2 0 L1.length]), (1, .ro (ints L0)), (2, .ro (ints L1)), (100002, .ro tab64), (100000, noneB)], 40, 168, 4⟩ Q := by
  refine Tr.post ?_
  refine Tr.loop (md := true) (X := Unit) (st := fun _ => ⟨[(17, .c (.int .i64 0)), (4, .c (.ptr 5 0)), (7, .c (.ptr 7 0)), (8, .c (.ptr 9 0)), (9, .c (.ptr 30 0)), (12, .c (.int .i64 r))], [(30, .own [.nils, .nils]), (7, .own (gN g)), (9, .own (gN g)), (5, .own [.rs 1 0 L0.length, .rs 2 0 L1.length]), (1, .ro (ints L0)), (2, .ro (ints L1)), (100002, .ro tab64), (100000, noneB)], 40, 168, 4⟩) (inv := fun _ => True) (μ := fun _ => 0) (x0 := ()) (l := []) tok trivial ?_ ?_
  · exact Sub.nil ⟨rfl, rfl, (by simp [tab64_LL, gC, wB, giC, noneB, gst, tC, pC, gN, gR, rC, rB, tvC_LL, hp3n]), rfl, (by simp [tupA, hpLt, tmLt, AV.lt, AE.lt, AC.lt, LL_cons, LL_nil, idOk, ABlk.lt, ints_LL, GB, tab64_LL, gC, wB, giC, noneB, gst, tC, pC, gN, gR, rC, rB, tvC_LL, hp3n]), (by simp [tupA, hpLt, tmLt, AV.lt, AE.lt, AC.lt, LL_cons, LL_nil, idOk, ABlk.lt, ints_LL, GB, tab64_LL, gC, wB, giC, noneB, gst, tC, pC, gN, gR, rC, rB, tvC_LL, hp3n])⟩ (by (repeat (first | exact trivial | refine ⟨trivial, ?_⟩ | refine ⟨rfl, ?_⟩))) (by (repeat (first | exact trivial | refine ⟨trivial, ?_⟩ | refine ⟨rfl, ?_⟩)))
  intro _ _
  refine Wk.on ?_
  refine ⟨_, ?_, hQ⟩
  exact Under.trans (Under.empty (j0 := 1) rfl (Nat.le_of_ble_eq_true rfl)) (Under.trans (Under.empty (j0 := 1) rfl (Nat.le_of_ble_eq_true rfl)) (Under.wk [(31, 40), (32, 41)] ⟨rfl, rfl, Nat.le_of_ble_eq_true rfl, Nat.le_of_ble_eq_true rfl⟩ rfl (by repeat (first | exact trivial | refine ⟨?_, ?_⟩ | exact Or.inl rfl | exact Or.inr ⟨⟨rfl, rfl, rfl⟩, trivial⟩ | exact Or.inr rfl)) (by repeat (first | exact trivial | refine ⟨?_, ?_⟩ | exact Or.inl rfl | exact Or.inl (tab64_ren _).symm | exact Or.inl (congrArg ABlk.ro (tvC_ren _ _).symm) | exact Or.inl (congrArg ABlk.ro (ints_ren _ _).symm) | exact Or.inl (congrArg (ABlk.row 60 2) (ints_ren _ _).symm) | exact Or.inr (Or.inl (Or.inl (ints_ren _ _).symm)) | exact Or.inr (Or.inl (Or.inl (tvC_ren _ _).symm)) | exact Or.inr (Or.inl (Or.inr ⟨⟨⟨rfl, rfl, rfl⟩, trivial⟩, ⟨⟨rfl, rfl, rfl⟩, trivial⟩, trivial⟩)) | exact Or.inr (Or.inl (Or.inr ⟨⟨⟨rfl, rfl, rfl⟩, trivial⟩, rfl, trivial⟩)) | exact Or.inr (Or.inl (Or.inr ⟨rfl, ⟨⟨rfl, rfl, rfl⟩, trivial⟩, trivial⟩)) | exact Or.inr (Or.inl (Or.inr ⟨rfl, rfl, trivial⟩)) | exact Or.inr (Or.inr ⟨rfl, rfl⟩))) rfl (by simp [tupA, hpLt, tmLt, AV.lt, AE.lt, AC.lt, LL_cons, LL_nil, idOk, ABlk.lt, ints_LL, GB, tab64_LL, gC, wB, giC, noneB, gst, tC, pC, gN, gR, rC, rB, tvC_LL, hp3n]) (by simp [tupA, hpLt, tmLt, AV.lt, AE.lt, AC.lt, LL_cons, LL_nil, idOk, ABlk.lt, ints_LL, GB, tab64_LL, gC, wB, giC, noneB, gst, tC, pC, gN, gR, rC, rB, tvC_LL, hp3n])))
end Go.Proofs.YtfphkpdobbffeaaDoor

/-
  SwitchJudges: the rounds (no wires)
-/
namespace Go.Proofs.YtfphkpdobbffeaaDoor
open Go Go.AH
set_option maxRecDepth 100000
set_option maxHeartbeats 2000000

def jst_n (g : Gm) (L0 L1 : List Int) (x : Nat × List Int × List Int × List (List Int)) : AS := ⟨[(10, .c (.rs 40 0 x.2.2.2.length)), (12, .c (.int .i64 x.1)), (4, .c (.ptr 5 0)), (7, .c (.ptr 7 0)), (8, .c (.ptr 9 0)), (9, .c (.ptr 30 0))], (40, .ro (tvC x.2.2.2)) :: hp3n g L0 L1 x.2.1 x.2.2.1, 41, 168, 4⟩
theorem jd1_n {g : Gm} (hgm : g.game) (hws : g.ws = []) (L0 L1 : List Int) (hL0 : L0.length ≤ 9223372036854775807) (hL1 : L1.length ≤ 9223372036854775807) (A B : List Int) (V : List (List Int)) (hI : JI (0, A, B, V)) {Q : Exit → AS → Prop}
    (hQ : ∀ A B V, Q (.exit 2) (jst_n g L0 L1 (2, A, B, V))) : Tr Tryd.prog jd1 (jst_n g L0 L1 (0, A, B, V)) Q := by
  refine Tr.post ?_
  refine Tr.loop (md := true) (X := Nat × List Int × List Int × List (List Int)) (st := jst_n g L0 L1) (inv := JI) (μ := fun x => 2 - x.1) (x0 := (0, A, B, V)) (l := []) tok hI (Sub.nil ⟨rfl, rfl, (by simp [jst_n]), rfl, (by simp [tupA, hpLt, tmLt, AV.lt, AE.lt, AC.lt, LL_cons, LL_nil, idOk, ABlk.lt, ints_LL, GB, tab64_LL, gC, wB, giC, noneB, gst, tC, pC, gN, gR, rC, rB, tvC_LL, hp3n, jst_n]), (by simp [tupA, hpLt, tmLt, AV.lt, AE.lt, AC.lt, LL_cons, LL_nil, idOk, ABlk.lt, ints_LL, GB, tab64_LL, gC, wB, giC, noneB, gst, tC, pC, gN, gR, rC, rB, tvC_LL, hp3n, jst_n])⟩ (by (repeat (first | exact trivial | refine ⟨trivial, ?_⟩ | refine ⟨rfl, ?_⟩))) (by (repeat (first | exact trivial | refine ⟨trivial, ?_⟩ | refine ⟨rfl, ?_⟩)))) ?_
  rintro ⟨r, A, B, V⟩ ⟨i1, i2, i3, i4, i5⟩
  dsimp only at i1 i2 i3 i4 i5
  by_cases h2 : r < 2
  rotate_left
  · obtain rfl : r = 2 := by omega
    refine Wk.on ?_
    intro _
    refine Wk.on ?_
    refine ⟨_, ?_, hQ A B V⟩
    exact Under.wk [] ⟨rfl, rfl, Nat.le_of_ble_eq_true rfl, Nat.le_of_ble_eq_true rfl⟩ rfl (by repeat (first | exact trivial | refine ⟨?_, ?_⟩ | exact Or.inl rfl | exact Or.inr ⟨⟨rfl, rfl, rfl⟩, trivial⟩ | exact Or.inr rfl)) (by repeat (first | exact trivial | refine ⟨?_, ?_⟩ | exact Or.inl rfl | exact Or.inl (tab64_ren _).symm | exact Or.inl (congrArg ABlk.ro (tvC_ren _ _).symm) | exact Or.inl (congrArg ABlk.ro (ints_ren _ _).symm) | exact Or.inl (congrArg (ABlk.row 60 2) (ints_ren _ _).symm) | exact Or.inr (Or.inl (Or.inl (ints_ren _ _).symm)) | exact Or.inr (Or.inl (Or.inl (tvC_ren _ _).symm)) | exact Or.inr (Or.inl (Or.inr ⟨⟨⟨rfl, rfl, rfl⟩, trivial⟩, ⟨⟨rfl, rfl, rfl⟩, trivial⟩, trivial⟩)) | exact Or.inr (Or.inl (Or.inr ⟨⟨⟨rfl, rfl, rfl⟩, trivial⟩, rfl, trivial⟩)) | exact Or.inr (Or.inl (Or.inr ⟨rfl, ⟨⟨rfl, rfl, rfl⟩, trivial⟩, trivial⟩)) | exact Or.inr (Or.inl (Or.inr ⟨rfl, rfl, trivial⟩)) | exact Or.inr (Or.inr ⟨rfl, rfl⟩))) rfl (by simp [tupA, hpLt, tmLt, AV.lt, AE.lt, AC.lt, LL_cons, LL_nil, idOk, ABlk.lt, ints_LL, GB, tab64_LL, gC, wB, giC, noneB, gst, tC, pC, gN, gR, rC, rB, tvC_LL, hp3n, jst_n]) (by simp [tupA, hpLt, tmLt, AV.lt, AE.lt, AC.lt, LL_cons, LL_nil, idOk, ABlk.lt, ints_LL, GB, tab64_LL, gC, wB, giC, noneB, gst, tC, pC, gN, gR, rC, rB, tvC_LL, hp3n, jst_n])
  have hg := hgm.ok
  have hn8 := hg.n8
  have e1 := IsTrees_spec hgm A B (by omega) (by omega)
  have e2 := isBar_spec hgm V (by omega) (fun a ha => by have := i5 a ha; omega)
  have e3 := isTreesR_spec hg A B (by omega) (by omega)
  have e4 := isBarR_spec hg V (by omega) (fun a ha => by have := i5 a ha; omega)
  rw [← are_eq hg hgm.ends (setV_lt _ _) (setV_lt _ _)] at e3
  rw [← isBar_eq hg] at e4
  generalize areB g (setOk g.ws.length A) (setOk g.ws.length B) (setV g.ws.length A) (setV g.ws.length B) = b1 at *
  generalize isBar g V = b2 at *
  have hwB : wB g = .ro [] := by rw [wB, hws]; rfl
  have hl0 : g.ws.length = 0 := by rw [hws]; rfl
  have e1 := FDet.wk e1 (args' := [.g (gN g), .g [.rs 1 0 A.length, .rs 2 0 B.length]]) (hp' := [(0, .ro []), (1, .ro (ints A)), (2, .ro (ints B)), (100002, .ro tab64)]) ⟨.inr ⟨rfl, rfl, rfl, hl0, trivial⟩, .inl rfl, trivial⟩ ⟨by rw [hwB]; exact .inl rfl, .inl rfl, .inl rfl, .inl rfl, trivial⟩
  have e2 := FDet.wk e2 (args' := [.g (gN g), .c (.rs 1 0 V.length)]) (hp' := [(0, .ro []), (1, .ro (tvC V))]) ⟨.inr ⟨rfl, rfl, rfl, hl0, trivial⟩, rfl, trivial⟩ ⟨by rw [hwB]; exact .inl rfl, .inl rfl, trivial⟩
  have e3 := FDet.wk e3 (args' := [.g (gN g), .g [.rs 1 0 A.length, .rs 2 0 B.length], .c (.bool false)]) (hp' := [(0, .ro []), (1, .ro (ints A)), (2, .ro (ints B))]) ⟨.inr ⟨rfl, rfl, rfl, hl0, trivial⟩, .inl rfl, rfl, trivial⟩ ⟨by rw [hwB]; exact .inl rfl, .inl rfl, .inl rfl, trivial⟩
  have e4 := FDet.wk e4 (args' := [.g (gN g), .c (.rs 1 0 V.length)]) (hp' := [(0, .ro []), (1, .ro (tvC V))]) ⟨.inr ⟨rfl, rfl, rfl, hl0, trivial⟩, rfl, trivial⟩ ⟨by rw [hwB]; exact .inl rfl, .inl rfl, trivial⟩
  refine Wk.on ?_
  rw [decide_eq_true (show ((r : Nat) : Int) < 2 by omega)]
  refine Wk.on ?_
  refine CallA.ro2 [1, 31, 32] (.t [.c (.bool b1), .c (.int .i64 0)]) (e1) ?_
  refine Wk.on ?_
  refine CallA.ro2 [1, 40] (.t [.c (.bool b2), .c (.int .i64 0)]) (e2) ?_
  refine Wk.on ?_
  refine CallA.ro2 [1, 31, 32] (.c (.bool b1)) (e3) ?_
  refine Wk.on ?_
  rw [bne_self_eq_false]
  refine Wk.on ?_
  refine CallA.ro2 [1, 40] (.c (.bool b2)) (e4) ?_
  refine Wk.on ?_
  rw [bne_self_eq_false]
  refine Wk.on ?_
  intro _
  refine Wk.on ?_
  refine Tr.tell (t := ⟨[(17, .c (.int .i64 0)), (4, .c (.ptr 5 0)), (7, .c (.ptr 7 0)), (8, .c (.ptr 9 0)), (9, .c (.ptr 30 0)), (12, .c (.int .i64 r))], (30, .own [.nils, .nils]) :: [(7, .own (gN g)), (9, .own (gN g)), (5, .own [.rs 1 0 L0.length, .rs 2 0 L1.length]), (1, .ro (ints L0)), (2, .ro (ints L1)), (100002, .ro tab64), (100000, noneB)], 40, 168, 4⟩) (Under.wk [] ⟨rfl, rfl, Nat.le_of_ble_eq_true rfl, Nat.le_of_ble_eq_true rfl⟩ rfl (by repeat (first | exact trivial | refine ⟨?_, ?_⟩ | exact Or.inl rfl | exact Or.inr ⟨⟨rfl, rfl, rfl⟩, trivial⟩ | exact Or.inr rfl)) (by repeat (first | exact trivial | refine ⟨?_, ?_⟩ | exact Or.inl rfl | exact Or.inl (tab64_ren _).symm | exact Or.inl (congrArg ABlk.ro (tvC_ren _ _).symm) | exact Or.inl (congrArg ABlk.ro (ints_ren _ _).symm) | exact Or.inl (congrArg (ABlk.row 60 2) (ints_ren _ _).symm) | exact Or.inr (Or.inl (Or.inl (ints_ren _ _).symm)) | exact Or.inr (Or.inl (Or.inl (tvC_ren _ _).symm)) | exact Or.inr (Or.inl (Or.inr ⟨⟨⟨rfl, rfl, rfl⟩, trivial⟩, ⟨⟨rfl, rfl, rfl⟩, trivial⟩, trivial⟩)) | exact Or.inr (Or.inl (Or.inr ⟨⟨⟨rfl, rfl, rfl⟩, trivial⟩, rfl, trivial⟩)) | exact Or.inr (Or.inl (Or.inr ⟨rfl, ⟨⟨rfl, rfl, rfl⟩, trivial⟩, trivial⟩)) | exact Or.inr (Or.inl (Or.inr ⟨rfl, rfl, trivial⟩)) | exact Or.inr (Or.inr ⟨rfl, rfl⟩))) rfl (by simp [tupA, hpLt, tmLt, AV.lt, AE.lt, AC.lt, LL_cons, LL_nil, idOk, ABlk.lt, ints_LL, GB, tab64_LL, gC, wB, giC, noneB, gst, tC, pC, gN, gR, rC, rB, tvC_LL, hp3n, jst_n]) (by simp [tupA, hpLt, tmLt, AV.lt, AE.lt, AC.lt, LL_cons, LL_nil, idOk, ABlk.lt, ints_LL, GB, tab64_LL, gC, wB, giC, noneB, gst, tC, pC, gN, gR, rC, rB, tvC_LL, hp3n, jst_n])) ?_
  refine jd2_n L0 L1 r ?_
  refine Wk.on ?_
  refine Tr.tell (t := ⟨[(20, .c .nils), (21, .c (.int .i64 0)), (4, .c (.ptr 5 0)), (7, .c (.ptr 7 0)), (8, .c (.ptr 9 0)), (9, .c (.ptr 30 0)), (12, .c (.int .i64 r))], hp3n g L0 L1 [] [], 50, 168, 4⟩) (Under.wk [] ⟨rfl, rfl, Nat.le_of_ble_eq_true rfl, Nat.le_of_ble_eq_true rfl⟩ rfl (by repeat (first | exact trivial | refine ⟨?_, ?_⟩ | exact Or.inl rfl | exact Or.inr ⟨⟨rfl, rfl, rfl⟩, trivial⟩ | exact Or.inr rfl)) (by repeat (first | exact trivial | refine ⟨?_, ?_⟩ | exact Or.inl rfl | exact Or.inl (tab64_ren _).symm | exact Or.inl (congrArg ABlk.ro (tvC_ren _ _).symm) | exact Or.inl (congrArg ABlk.ro (ints_ren _ _).symm) | exact Or.inl (congrArg (ABlk.row 60 2) (ints_ren _ _).symm) | exact Or.inr (Or.inl (Or.inl (ints_ren _ _).symm)) | exact Or.inr (Or.inl (Or.inl (tvC_ren _ _).symm)) | exact Or.inr (Or.inl (Or.inr ⟨⟨⟨rfl, rfl, rfl⟩, trivial⟩, ⟨⟨rfl, rfl, rfl⟩, trivial⟩, trivial⟩)) | exact Or.inr (Or.inl (Or.inr ⟨⟨⟨rfl, rfl, rfl⟩, trivial⟩, rfl, trivial⟩)) | exact Or.inr (Or.inl (Or.inr ⟨rfl, ⟨⟨rfl, rfl, rfl⟩, trivial⟩, trivial⟩)) | exact Or.inr (Or.inl (Or.inr ⟨rfl, rfl, trivial⟩)) | exact Or.inr (Or.inr ⟨rfl, rfl⟩))) rfl (by simp [tupA, hpLt, tmLt, AV.lt, AE.lt, AC.lt, LL_cons, LL_nil, idOk, ABlk.lt, ints_LL, GB, tab64_LL, gC, wB, giC, noneB, gst, tC, pC, gN, gR, rC, rB, tvC_LL, hp3n, jst_n]) (by simp [tupA, hpLt, tmLt, AV.lt, AE.lt, AC.lt, LL_cons, LL_nil, idOk, ABlk.lt, ints_LL, GB, tab64_LL, gC, wB, giC, noneB, gst, tC, pC, gN, gR, rC, rB, tvC_LL, hp3n, jst_n])) ?_
  refine jd3_n (by have := hgm.ends; have := hg.s; have := hg.t; omega) hn8 L0 L1 [] [] hL1 r ?_
  intro V2 hV2 hVa2
  refine Wk.on ?_
  exact Again.under (r + 1, [], [], V2) (Under.wk [] ⟨rfl, rfl, Nat.le_of_ble_eq_true rfl, Nat.le_of_ble_eq_true rfl⟩ rfl (by repeat (first | exact trivial | refine ⟨?_, ?_⟩ | exact Or.inl rfl | exact Or.inr ⟨⟨rfl, rfl, rfl⟩, trivial⟩ | exact Or.inr rfl)) (by repeat (first | exact trivial | refine ⟨?_, ?_⟩ | exact Or.inl rfl | exact Or.inl (tab64_ren _).symm | exact Or.inl (congrArg ABlk.ro (tvC_ren _ _).symm) | exact Or.inl (congrArg ABlk.ro (ints_ren _ _).symm) | exact Or.inl (congrArg (ABlk.row 60 2) (ints_ren _ _).symm) | exact Or.inr (Or.inl (Or.inl (ints_ren _ _).symm)) | exact Or.inr (Or.inl (Or.inl (tvC_ren _ _).symm)) | exact Or.inr (Or.inl (Or.inr ⟨⟨⟨rfl, rfl, rfl⟩, trivial⟩, ⟨⟨rfl, rfl, rfl⟩, trivial⟩, trivial⟩)) | exact Or.inr (Or.inl (Or.inr ⟨⟨⟨rfl, rfl, rfl⟩, trivial⟩, rfl, trivial⟩)) | exact Or.inr (Or.inl (Or.inr ⟨rfl, ⟨⟨rfl, rfl, rfl⟩, trivial⟩, trivial⟩)) | exact Or.inr (Or.inl (Or.inr ⟨rfl, rfl, trivial⟩)) | exact Or.inr (Or.inr ⟨rfl, rfl⟩))) rfl (by simp [tupA, hpLt, tmLt, AV.lt, AE.lt, AC.lt, LL_cons, LL_nil, idOk, ABlk.lt, ints_LL, GB, tab64_LL, gC, wB, giC, noneB, gst, tC, pC, gN, gR, rC, rB, tvC_LL, hp3n, jst_n]) (by simp [tupA, hpLt, tmLt, AV.lt, AE.lt, AC.lt, LL_cons, LL_nil, idOk, ABlk.lt, ints_LL, GB, tab64_LL, gC, wB, giC, noneB, gst, tC, pC, gN, gR, rC, rB, tvC_LL, hp3n, jst_n])) ⟨by show r + 1 ≤ 2; omega, by simp, by simp, by show V2.length ≤ 10; omega, fun a ha => by have := hVa2 a ha; omega⟩ (by show 2 - (r + 1) < 2 - r; omega)
end Go.Proofs.YtfphkpdobbffeaaDoor

/-
  SwitchJudges: the loop over the lists
-/
namespace Go.Proofs.YtfphkpdobbffeaaDoor
open Go Go.AH
set_option maxRecDepth 100000
set_option maxHeartbeats 2000000

theorem jd0_r {g : Gm} (L0 L1 A B : List Int) (P : List (List Int)) (hP : P.length ≤ 9223372036854775807) (hPa : ∀ a ∈ P, a.length ≤ 9223372036854775807) {Q : Exit → AS → Prop}
    (hQ : Q (.exit 0) ⟨[(10, .c (.rs 40 0 (pW P).length)), (4, .c (.ptr 5 0)), (7, .c (.ptr 7 0)), (8, .c (.ptr 9 0)), (9, .c (.ptr 30 0))], [(40, .ro (tvC (pW P))), (30, .own [.rs 31 0 A.length, .rs 32 0 B.length]), (31, .ro (ints A)), (32, .ro (ints B)), (7, .own (gC g 6)), (9, .own (gC g 8)), (5, .own [.rs 1 0 L0.length, .rs 2 0 L1.length]), (1, .ro (ints L0)), (2, .ro (ints L1)), (6, .row 60 2 (ints (fl g.ws))), (8, .row 60 2 (ints (fl g.ws))), (100002, .ro tab64), (100000, noneB)], 41, 168, 4⟩) :
    Tr Tryd.prog jd0 ⟨[(10, .c .nils), (11, .c (.int .i64 0)), (2, .c (.rs 3 0 P.length)), (4, .c (.ptr 5 0)), (7, .c (.ptr 7 0)), (8, .c (.ptr 9 0)), (9, .c (.ptr 30 0))], [(3, .ro (tvC P)), (30, .own [.rs 31 0 A.length, .rs 32 0 B.length]), (31, .ro (ints A)), (32, .ro (ints B)), (7, .own (gC g 6)), (9, .own (gC g 8)), (5, .own [.rs 1 0 L0.length, .rs 2 0 L1.length]), (1, .ro (ints L0)), (2, .ro (ints L1)), (6, .row 60 2 (ints (fl g.ws))), (8, .row 60 2 (ints (fl g.ws))), (100002, .ro tab64), (100000, noneB)], 40, 168, 4⟩ Q := by
  have hWl : (pW P).length = min 10 P.length := by simp [pW]
  refine Tr.post ?_
  refine Tr.loopU (md := true) (X := Nat) (st := fun x => ⟨[(10, .c (match x with | 0 => .nils | j + 1 => .row 40 (j + 1))), (11, .c (.int .i64 x)), (2, .c (.rs 3 0 P.length)), (4, .c (.ptr 5 0)), (7, .c (.ptr 7 0)), (8, .c (.ptr 9 0)), (9, .c (.ptr 30 0))], (match x with | 0 => [(3, .ro (tvC P)), (30, .own [.rs 31 0 A.length, .rs 32 0 B.length]), (31, .ro (ints A)), (32, .ro (ints B)), (7, .own (gC g 6)), (9, .own (gC g 8)), (5, .own [.rs 1 0 L0.length, .rs 2 0 L1.length]), (1, .ro (ints L0)), (2, .ro (ints L1)), (6, .row 60 2 (ints (fl g.ws))), (8, .row 60 2 (ints (fl g.ws))), (100002, .ro tab64), (100000, noneB)] | j + 1 => (40, .row 37 1 (tvC ((pW P).take (j + 1)))) :: [(3, .ro (tvC P)), (30, .own [.rs 31 0 A.length, .rs 32 0 B.length]), (31, .ro (ints A)), (32, .ro (ints B)), (7, .own (gC g 6)), (9, .own (gC g 8)), (5, .own [.rs 1 0 L0.length, .rs 2 0 L1.length]), (1, .ro (ints L0)), (2, .ro (ints L1)), (6, .row 60 2 (ints (fl g.ws))), (8, .row 60 2 (ints (fl g.ws))), (100002, .ro tab64), (100000, noneB)]), 41, 168, 4⟩) (inv := fun x => x ≤ (pW P).length) (μ := fun x => (pW P).length - x) (x0 := 0) tok (by omega) (Under.wk [] ⟨rfl, rfl, Nat.le_of_ble_eq_true rfl, Nat.le_of_ble_eq_true rfl⟩ rfl (by repeat (first | exact trivial | refine ⟨?_, ?_⟩ | exact Or.inl rfl | exact Or.inr ⟨⟨rfl, rfl, rfl⟩, trivial⟩ | exact Or.inr rfl)) (by repeat (first | exact trivial | refine ⟨?_, ?_⟩ | exact Or.inl rfl | exact Or.inl (tab64_ren _).symm | exact Or.inl (congrArg ABlk.ro (tvC_ren _ _).symm) | exact Or.inl (congrArg ABlk.ro (ints_ren _ _).symm) | exact Or.inl (congrArg (ABlk.row 60 2) (ints_ren _ _).symm) | exact Or.inr (Or.inl (Or.inl (ints_ren _ _).symm)) | exact Or.inr (Or.inl (Or.inl (tvC_ren _ _).symm)) | exact Or.inr (Or.inl (Or.inr ⟨⟨⟨rfl, rfl, rfl⟩, trivial⟩, ⟨⟨rfl, rfl, rfl⟩, trivial⟩, trivial⟩)) | exact Or.inr (Or.inl (Or.inr ⟨⟨⟨rfl, rfl, rfl⟩, trivial⟩, rfl, trivial⟩)) | exact Or.inr (Or.inl (Or.inr ⟨rfl, ⟨⟨rfl, rfl, rfl⟩, trivial⟩, trivial⟩)) | exact Or.inr (Or.inl (Or.inr ⟨rfl, rfl, trivial⟩)) | exact Or.inr (Or.inr ⟨rfl, rfl⟩))) rfl (by simp [tupA, hpLt, tmLt, AV.lt, AE.lt, AC.lt, LL_cons, LL_nil, idOk, ABlk.lt, ints_LL, GB, tab64_LL, gC, wB, giC, noneB, gst, tC, pC, gN, gR, rC, rB, tvC_LL]) (by simp [tupA, hpLt, tmLt, AV.lt, AE.lt, AC.lt, LL_cons, LL_nil, idOk, ABlk.lt, ints_LL, GB, tab64_LL, gC, wB, giC, noneB, gst, tC, pC, gN, gR, rC, rB, tvC_LL])) ?_
  rintro i hi
  have hnext : ∀ h : i < P.length, i < 10 → tvC ((pW P).take (i + 1)) = tvC ((pW P).take i) ++ [.tv (.leaf 1 ((P.getD i []).take 10).length ((P.getD i []).take 10))] := fun h h2 => by
    rw [List.take_add_one]
    simp [tvC, pW, List.getElem?_take, h2, h, List.getD_eq_getElem?_getD]
  have hPi : ∀ h : i < P.length, (P.getD i []).length ≤ 9223372036854775807 := fun h => hPa _ (by simp [List.getD_eq_getElem?_getD, h])
  rcases i with _ | i
  · refine Wk.on ?_
    by_cases h1 : 0 < P.length
    rotate_left
    · rw [decide_eq_false (show ¬ ((0 : Nat) : Int) < ((P.length : Nat) : Int) by omega)]
      refine Wk.on ?_
      have hV0 : pW P = [] := List.length_eq_zero_iff.1 (by omega)
      rw [hV0] at hQ
      refine ⟨_, ?_, hQ⟩
      exact Under.trans (Under.empty (j0 := 3) rfl (Nat.le_of_ble_eq_true rfl)) (Under.wk [(40, 41)] ⟨rfl, rfl, Nat.le_of_ble_eq_true rfl, Nat.le_of_ble_eq_true rfl⟩ rfl (by repeat (first | exact trivial | refine ⟨?_, ?_⟩ | exact Or.inl rfl | exact Or.inr ⟨⟨rfl, rfl, rfl⟩, trivial⟩ | exact Or.inr rfl)) (by repeat (first | exact trivial | refine ⟨?_, ?_⟩ | exact Or.inl rfl | exact Or.inl (tab64_ren _).symm | exact Or.inl (congrArg ABlk.ro (tvC_ren _ _).symm) | exact Or.inl (congrArg ABlk.ro (ints_ren _ _).symm) | exact Or.inl (congrArg (ABlk.row 60 2) (ints_ren _ _).symm) | exact Or.inr (Or.inl (Or.inl (ints_ren _ _).symm)) | exact Or.inr (Or.inl (Or.inl (tvC_ren _ _).symm)) | exact Or.inr (Or.inl (Or.inr ⟨⟨⟨rfl, rfl, rfl⟩, trivial⟩, ⟨⟨rfl, rfl, rfl⟩, trivial⟩, trivial⟩)) | exact Or.inr (Or.inl (Or.inr ⟨⟨⟨rfl, rfl, rfl⟩, trivial⟩, rfl, trivial⟩)) | exact Or.inr (Or.inl (Or.inr ⟨rfl, ⟨⟨rfl, rfl, rfl⟩, trivial⟩, trivial⟩)) | exact Or.inr (Or.inl (Or.inr ⟨rfl, rfl, trivial⟩)) | exact Or.inr (Or.inr ⟨rfl, rfl⟩))) rfl (by simp [tupA, hpLt, tmLt, AV.lt, AE.lt, AC.lt, LL_cons, LL_nil, idOk, ABlk.lt, ints_LL, GB, tab64_LL, gC, wB, giC, noneB, gst, tC, pC, gN, gR, rC, rB, tvC_LL]) (by simp [tupA, hpLt, tmLt, AV.lt, AE.lt, AC.lt, LL_cons, LL_nil, idOk, ABlk.lt, ints_LL, GB, tab64_LL, gC, wB, giC, noneB, gst, tC, pC, gN, gR, rC, rB, tvC_LL]))
    rw [decide_eq_true (show ((0 : Nat) : Int) < ((P.length : Nat) : Int) by omega)]
    refine Wk.on ?_
    refine ⟨by simp [tvC]; omega, ?_⟩
    rw [Int.toNat_natCast, tvC_get h1]
    refine Wk.on ?_
    refine CallA.ro2 [100002] (.c (.tv (.leaf 1 ((P.getD (0) []).take 10).length ((P.getD (0) []).take 10)))) (few10 (P.getD (0) []) (hPi h1)) ?_
    refine Wk.on ?_

    exact Again.mk (0 + 1) (Sub.new [(40, 42)] ⟨rfl, rfl, (by simp [tupA, hpLt, tmLt, AV.lt, AE.lt, AC.lt, LL_cons, LL_nil, idOk, ABlk.lt, ints_LL, GB, tab64_LL, gC, wB, giC, noneB, gst, tC, pC, gN, gR, rC, rB, tvC_LL])⟩ rfl (by (repeat (first | exact trivial | refine ⟨trivial, ?_⟩ | refine ⟨rfl, ?_⟩))) ⟨congrArg (fun c => some (ABlk.row 37 1 c)) ((hnext h1 (by omega)).symm.trans (tvC_ren _ _).symm), congrArg (fun c => some (ABlk.ro c)) (tvC_ren _ _).symm, rfl, congrArg (fun c => some (ABlk.ro c)) (ints_ren _ _).symm, congrArg (fun c => some (ABlk.ro c)) (ints_ren _ _).symm, rfl, rfl, rfl, congrArg (fun c => some (ABlk.ro c)) (ints_ren _ _).symm, congrArg (fun c => some (ABlk.ro c)) (ints_ren _ _).symm, congrArg (fun c => some (ABlk.row 60 2 c)) (ints_ren _ _).symm, congrArg (fun c => some (ABlk.row 60 2 c)) (ints_ren _ _).symm, congrArg (fun c => some (ABlk.ro c)) (tab64_ren _).symm, rfl, trivial⟩ rfl (by simp [tupA, hpLt, tmLt, AV.lt, AE.lt, AC.lt, LL_cons, LL_nil, idOk, ABlk.lt, ints_LL, GB, tab64_LL, gC, wB, giC, noneB, gst, tC, pC, gN, gR, rC, rB, tvC_LL]) (by simp [tupA, hpLt, tmLt, AV.lt, AE.lt, AC.lt, LL_cons, LL_nil, idOk, ABlk.lt, ints_LL, GB, tab64_LL, gC, wB, giC, noneB, gst, tC, pC, gN, gR, rC, rB, tvC_LL])) (by show 0 + 1 ≤ (pW P).length; omega) (by show (pW P).length - (0 + 1) < (pW P).length - (0); omega)
  · refine Wk.on ?_
    by_cases h1 : i + 1 < P.length
    rotate_left
    · rw [decide_eq_false (show ¬ ((i + 1 : Nat) : Int) < ((P.length : Nat) : Int) by omega)]
      refine Wk.on ?_
      have hVi : (pW P).length = i + 1 := by omega
      have ht : (pW P).take (i + 1) = pW P := List.take_of_length_le (by omega)
      rw [hVi] at hQ
      refine ⟨_, ?_, hQ⟩
      dsimp only
      rw [ht]
      exact Under.wk [] ⟨rfl, rfl, Nat.le_of_ble_eq_true rfl, Nat.le_of_ble_eq_true rfl⟩ rfl (by repeat (first | exact trivial | refine ⟨?_, ?_⟩ | exact Or.inl rfl | exact Or.inr ⟨⟨rfl, rfl, rfl⟩, trivial⟩ | exact Or.inr rfl)) (by repeat (first | exact trivial | refine ⟨?_, ?_⟩ | exact Or.inl rfl | exact Or.inl (tab64_ren _).symm | exact Or.inl (congrArg ABlk.ro (tvC_ren _ _).symm) | exact Or.inl (congrArg ABlk.ro (ints_ren _ _).symm) | exact Or.inl (congrArg (ABlk.row 60 2) (ints_ren _ _).symm) | exact Or.inr (Or.inl (Or.inl (ints_ren _ _).symm)) | exact Or.inr (Or.inl (Or.inl (tvC_ren _ _).symm)) | exact Or.inr (Or.inl (Or.inr ⟨⟨⟨rfl, rfl, rfl⟩, trivial⟩, ⟨⟨rfl, rfl, rfl⟩, trivial⟩, trivial⟩)) | exact Or.inr (Or.inl (Or.inr ⟨⟨⟨rfl, rfl, rfl⟩, trivial⟩, rfl, trivial⟩)) | exact Or.inr (Or.inl (Or.inr ⟨rfl, ⟨⟨rfl, rfl, rfl⟩, trivial⟩, trivial⟩)) | exact Or.inr (Or.inl (Or.inr ⟨rfl, rfl, trivial⟩)) | exact Or.inr (Or.inr ⟨rfl, rfl⟩))) rfl (by simp [tupA, hpLt, tmLt, AV.lt, AE.lt, AC.lt, LL_cons, LL_nil, idOk, ABlk.lt, ints_LL, GB, tab64_LL, gC, wB, giC, noneB, gst, tC, pC, gN, gR, rC, rB, tvC_LL]) (by simp [tupA, hpLt, tmLt, AV.lt, AE.lt, AC.lt, LL_cons, LL_nil, idOk, ABlk.lt, ints_LL, GB, tab64_LL, gC, wB, giC, noneB, gst, tC, pC, gN, gR, rC, rB, tvC_LL])
    rw [decide_eq_true (show ((i + 1 : Nat) : Int) < ((P.length : Nat) : Int) by omega)]
    refine Wk.on ?_
    by_cases h2 : i + 1 < 10
    rotate_left
    · rw [decide_eq_false (show ¬ ((i + 1 : Nat) : Int) < 10 by omega)]
      refine Wk.on ?_
      have hVi : (pW P).length = i + 1 := by omega
      have ht : (pW P).take (i + 1) = pW P := List.take_of_length_le (by omega)
      rw [hVi] at hQ
      refine ⟨_, ?_, hQ⟩
      dsimp only
      rw [ht]
      exact Under.wk [] ⟨rfl, rfl, Nat.le_of_ble_eq_true rfl, Nat.le_of_ble_eq_true rfl⟩ rfl (by repeat (first | exact trivial | refine ⟨?_, ?_⟩ | exact Or.inl rfl | exact Or.inr ⟨⟨rfl, rfl, rfl⟩, trivial⟩ | exact Or.inr rfl)) (by repeat (first | exact trivial | refine ⟨?_, ?_⟩ | exact Or.inl rfl | exact Or.inl (tab64_ren _).symm | exact Or.inl (congrArg ABlk.ro (tvC_ren _ _).symm) | exact Or.inl (congrArg ABlk.ro (ints_ren _ _).symm) | exact Or.inl (congrArg (ABlk.row 60 2) (ints_ren _ _).symm) | exact Or.inr (Or.inl (Or.inl (ints_ren _ _).symm)) | exact Or.inr (Or.inl (Or.inl (tvC_ren _ _).symm)) | exact Or.inr (Or.inl (Or.inr ⟨⟨⟨rfl, rfl, rfl⟩, trivial⟩, ⟨⟨rfl, rfl, rfl⟩, trivial⟩, trivial⟩)) | exact Or.inr (Or.inl (Or.inr ⟨⟨⟨rfl, rfl, rfl⟩, trivial⟩, rfl, trivial⟩)) | exact Or.inr (Or.inl (Or.inr ⟨rfl, ⟨⟨rfl, rfl, rfl⟩, trivial⟩, trivial⟩)) | exact Or.inr (Or.inl (Or.inr ⟨rfl, rfl, trivial⟩)) | exact Or.inr (Or.inr ⟨rfl, rfl⟩))) rfl (by simp [tupA, hpLt, tmLt, AV.lt, AE.lt, AC.lt, LL_cons, LL_nil, idOk, ABlk.lt, ints_LL, GB, tab64_LL, gC, wB, giC, noneB, gst, tC, pC, gN, gR, rC, rB, tvC_LL]) (by simp [tupA, hpLt, tmLt, AV.lt, AE.lt, AC.lt, LL_cons, LL_nil, idOk, ABlk.lt, ints_LL, GB, tab64_LL, gC, wB, giC, noneB, gst, tC, pC, gN, gR, rC, rB, tvC_LL])
    rw [decide_eq_true (show ((i + 1 : Nat) : Int) < 10 by omega)]
    refine Wk.on ?_
    refine ⟨by simp [tvC]; omega, ?_⟩
    rw [Int.toNat_natCast, tvC_get h1]
    refine Wk.on ?_
    refine CallA.ro2 [100002] (.c (.tv (.leaf 1 ((P.getD (i + 1) []).take 10).length ((P.getD (i + 1) []).take 10)))) (few10 (P.getD (i + 1) []) (hPi h1)) ?_
    refine Wk.on ?_
    refine ⟨⟨Nat.le_of_ble_eq_true rfl, rfl, rfl, by simp [tvC]; omega, by show ((i + 1 + 1 : Nat) : Int) * 24 ≤ _; omega, by omega⟩, ?_⟩
    refine Wk.on ?_
    exact Again.mk (i + 1 + 1) (Sub.new [(40, 42)] ⟨rfl, rfl, (by simp [tupA, hpLt, tmLt, AV.lt, AE.lt, AC.lt, LL_cons, LL_nil, idOk, ABlk.lt, ints_LL, GB, tab64_LL, gC, wB, giC, noneB, gst, tC, pC, gN, gR, rC, rB, tvC_LL])⟩ rfl (by (repeat (first | exact trivial | refine ⟨trivial, ?_⟩ | refine ⟨rfl, ?_⟩))) ⟨congrArg (fun c => some (ABlk.row 37 1 c)) ((hnext h1 h2).symm.trans (tvC_ren _ _).symm), congrArg (fun c => some (ABlk.ro c)) (tvC_ren _ _).symm, rfl, congrArg (fun c => some (ABlk.ro c)) (ints_ren _ _).symm, congrArg (fun c => some (ABlk.ro c)) (ints_ren _ _).symm, rfl, rfl, rfl, congrArg (fun c => some (ABlk.ro c)) (ints_ren _ _).symm, congrArg (fun c => some (ABlk.ro c)) (ints_ren _ _).symm, congrArg (fun c => some (ABlk.row 60 2 c)) (ints_ren _ _).symm, congrArg (fun c => some (ABlk.row 60 2 c)) (ints_ren _ _).symm, congrArg (fun c => some (ABlk.ro c)) (tab64_ren _).symm, rfl, trivial⟩ rfl (by simp [tupA, hpLt, tmLt, AV.lt, AE.lt, AC.lt, LL_cons, LL_nil, idOk, ABlk.lt, ints_LL, GB, tab64_LL, gC, wB, giC, noneB, gst, tC, pC, gN, gR, rC, rB, tvC_LL]) (by simp [tupA, hpLt, tmLt, AV.lt, AE.lt, AC.lt, LL_cons, LL_nil, idOk, ABlk.lt, ints_LL, GB, tab64_LL, gC, wB, giC, noneB, gst, tC, pC, gN, gR, rC, rB, tvC_LL])) (by show i + 1 + 1 ≤ (pW P).length; omega) (by show (pW P).length - (i + 1 + 1) < (pW P).length - (i + 1); omega)
end Go.Proofs.YtfphkpdobbffeaaDoor

/-
  SwitchJudges: the loop over the lists (no wires)
-/
namespace Go.Proofs.YtfphkpdobbffeaaDoor
open Go Go.AH
set_option maxRecDepth 100000
set_option maxHeartbeats 2000000

theorem jd0_n {g : Gm} (L0 L1 A B : List Int) (P : List (List Int)) (hP : P.length ≤ 9223372036854775807) (hPa : ∀ a ∈ P, a.length ≤ 9223372036854775807) {Q : Exit → AS → Prop}
    (hQ : Q (.exit 0) ⟨[(10, .c (.rs 40 0 (pW P).length)), (4, .c (.ptr 5 0)), (7, .c (.ptr 7 0)), (8, .c (.ptr 9 0)), (9, .c (.ptr 30 0))], [(40, .ro (tvC (pW P))), (30, .own [.rs 31 0 A.length, .rs 32 0 B.length]), (31, .ro (ints A)), (32, .ro (ints B)), (7, .own (gN g)), (9, .own (gN g)), (5, .own [.rs 1 0 L0.length, .rs 2 0 L1.length]), (1, .ro (ints L0)), (2, .ro (ints L1)), (100002, .ro tab64), (100000, noneB)], 41, 168, 4⟩) :
    Tr Tryd.prog jd0 ⟨[(10, .c .nils), (11, .c (.int .i64 0)), (2, .c (.rs 3 0 P.length)), (4, .c (.ptr 5 0)), (7, .c (.ptr 7 0)), (8, .c (.ptr 9 0)), (9, .c (.ptr 30 0))], [(3, .ro (tvC P)), (30, .own [.rs 31 0 A.length, .rs 32 0 B.length]), (31, .ro (ints A)), (32, .ro (ints B)), (7, .own (gN g)), (9, .own (gN g)), (5, .own [.rs 1 0 L0.length, .rs 2 0 L1.length]), (1, .ro (ints L0)), (2, .ro (ints L1)), (100002, .ro tab64), (100000, noneB)], 40, 168, 4⟩ Q := by
  have hWl : (pW P).length = min 10 P.length := by simp [pW]
  refine Tr.post ?_
  refine Tr.loopU (md := true) (X := Nat) (st := fun x => ⟨[(10, .c (match x with | 0 => .nils | j + 1 => .row 40 (j + 1))), (11, .c (.int .i64 x)), (2, .c (.rs 3 0 P.length)), (4, .c (.ptr 5 0)), (7, .c (.ptr 7 0)), (8, .c (.ptr 9 0)), (9, .c (.ptr 30 0))], (match x with | 0 => [(3, .ro (tvC P)), (30, .own [.rs 31 0 A.length, .rs 32 0 B.length]), (31, .ro (ints A)), (32, .ro (ints B)), (7, .own (gN g)), (9, .own (gN g)), (5, .own [.rs 1 0 L0.length, .rs 2 0 L1.length]), (1, .ro (ints L0)), (2, .ro (ints L1)), (100002, .ro tab64), (100000, noneB)] | j + 1 => (40, .row 37 1 (tvC ((pW P).take (j + 1)))) :: [(3, .ro (tvC P)), (30, .own [.rs 31 0 A.length, .rs 32 0 B.length]), (31, .ro (ints A)), (32, .ro (ints B)), (7, .own (gN g)), (9, .own (gN g)), (5, .own [.rs 1 0 L0.length, .rs 2 0 L1.length]), (1, .ro (ints L0)), (2, .ro (ints L1)), (100002, .ro tab64), (100000, noneB)]), 41, 168, 4⟩) (inv := fun x => x ≤ (pW P).length) (μ := fun x => (pW P).length - x) (x0 := 0) tok (by omega) (Under.wk [] ⟨rfl, rfl, Nat.le_of_ble_eq_true rfl, Nat.le_of_ble_eq_true rfl⟩ rfl (by repeat (first | exact trivial | refine ⟨?_, ?_⟩ | exact Or.inl rfl | exact Or.inr ⟨⟨rfl, rfl, rfl⟩, trivial⟩ | exact Or.inr rfl)) (by repeat (first | exact trivial | refine ⟨?_, ?_⟩ | exact Or.inl rfl | exact Or.inl (tab64_ren _).symm | exact Or.inl (congrArg ABlk.ro (tvC_ren _ _).symm) | exact Or.inl (congrArg ABlk.ro (ints_ren _ _).symm) | exact Or.inl (congrArg (ABlk.row 60 2) (ints_ren _ _).symm) | exact Or.inr (Or.inl (Or.inl (ints_ren _ _).symm)) | exact Or.inr (Or.inl (Or.inl (tvC_ren _ _).symm)) | exact Or.inr (Or.inl (Or.inr ⟨⟨⟨rfl, rfl, rfl⟩, trivial⟩, ⟨⟨rfl, rfl, rfl⟩, trivial⟩, trivial⟩)) | exact Or.inr (Or.inl (Or.inr ⟨⟨⟨rfl, rfl, rfl⟩, trivial⟩, rfl, trivial⟩)) | exact Or.inr (Or.inl (Or.inr ⟨rfl, ⟨⟨rfl, rfl, rfl⟩, trivial⟩, trivial⟩)) | exact Or.inr (Or.inl (Or.inr ⟨rfl, rfl, trivial⟩)) | exact Or.inr (Or.inr ⟨rfl, rfl⟩))) rfl (by simp [tupA, hpLt, tmLt, AV.lt, AE.lt, AC.lt, LL_cons, LL_nil, idOk, ABlk.lt, ints_LL, GB, tab64_LL, gC, wB, giC, noneB, gst, tC, pC, gN, gR, rC, rB, tvC_LL]) (by simp [tupA, hpLt, tmLt, AV.lt, AE.lt, AC.lt, LL_cons, LL_nil, idOk, ABlk.lt, ints_LL, GB, tab64_LL, gC, wB, giC, noneB, gst, tC, pC, gN, gR, rC, rB, tvC_LL])) ?_
  rintro i hi
  have hnext : ∀ h : i < P.length, i < 10 → tvC ((pW P).take (i + 1)) = tvC ((pW P).take i) ++ [.tv (.leaf 1 ((P.getD i []).take 10).length ((P.getD i []).take 10))] := fun h h2 => by
    rw [List.take_add_one]
    simp [tvC, pW, List.getElem?_take, h2, h, List.getD_eq_getElem?_getD]
  have hPi : ∀ h : i < P.length, (P.getD i []).length ≤ 9223372036854775807 := fun h => hPa _ (by simp [List.getD_eq_getElem?_getD, h])
  rcases i with _ | i
  · refine Wk.on ?_
    by_cases h1 : 0 < P.length
    rotate_left
    · rw [decide_eq_false (show ¬ ((0 : Nat) : Int) < ((P.length : Nat) : Int) by omega)]
      refine Wk.on ?_
      have hV0 : pW P = [] := List.length_eq_zero_iff.1 (by omega)
      rw [hV0] at hQ
      refine ⟨_, ?_, hQ⟩
      exact Under.trans (Under.empty (j0 := 3) rfl (Nat.le_of_ble_eq_true rfl)) (Under.wk [(40, 41)] ⟨rfl, rfl, Nat.le_of_ble_eq_true rfl, Nat.le_of_ble_eq_true rfl⟩ rfl (by repeat (first | exact trivial | refine ⟨?_, ?_⟩ | exact Or.inl rfl | exact Or.inr ⟨⟨rfl, rfl, rfl⟩, trivial⟩ | exact Or.inr rfl)) (by repeat (first | exact trivial | refine ⟨?_, ?_⟩ | exact Or.inl rfl | exact Or.inl (tab64_ren _).symm | exact Or.inl (congrArg ABlk.ro (tvC_ren _ _).symm) | exact Or.inl (congrArg ABlk.ro (ints_ren _ _).symm) | exact Or.inl (congrArg (ABlk.row 60 2) (ints_ren _ _).symm) | exact Or.inr (Or.inl (Or.inl (ints_ren _ _).symm)) | exact Or.inr (Or.inl (Or.inl (tvC_ren _ _).symm)) | exact Or.inr (Or.inl (Or.inr ⟨⟨⟨rfl, rfl, rfl⟩, trivial⟩, ⟨⟨rfl, rfl, rfl⟩, trivial⟩, trivial⟩)) | exact Or.inr (Or.inl (Or.inr ⟨⟨⟨rfl, rfl, rfl⟩, trivial⟩, rfl, trivial⟩)) | exact Or.inr (Or.inl (Or.inr ⟨rfl, ⟨⟨rfl, rfl, rfl⟩, trivial⟩, trivial⟩)) | exact Or.inr (Or.inl (Or.inr ⟨rfl, rfl, trivial⟩)) | exact Or.inr (Or.inr ⟨rfl, rfl⟩))) rfl (by simp [tupA, hpLt, tmLt, AV.lt, AE.lt, AC.lt, LL_cons, LL_nil, idOk, ABlk.lt, ints_LL, GB, tab64_LL, gC, wB, giC, noneB, gst, tC, pC, gN, gR, rC, rB, tvC_LL]) (by simp [tupA, hpLt, tmLt, AV.lt, AE.lt, AC.lt, LL_cons, LL_nil, idOk, ABlk.lt, ints_LL, GB, tab64_LL, gC, wB, giC, noneB, gst, tC, pC, gN, gR, rC, rB, tvC_LL]))
    rw [decide_eq_true (show ((0 : Nat) : Int) < ((P.length : Nat) : Int) by omega)]
    refine Wk.on ?_
    refine ⟨by simp [tvC]; omega, ?_⟩
    rw [Int.toNat_natCast, tvC_get h1]
    refine Wk.on ?_
    refine CallA.ro2 [100002] (.c (.tv (.leaf 1 ((P.getD (0) []).take 10).length ((P.getD (0) []).take 10)))) (few10 (P.getD (0) []) (hPi h1)) ?_
    refine Wk.on ?_

    exact Again.mk (0 + 1) (Sub.new [(40, 42)] ⟨rfl, rfl, (by simp [tupA, hpLt, tmLt, AV.lt, AE.lt, AC.lt, LL_cons, LL_nil, idOk, ABlk.lt, ints_LL, GB, tab64_LL, gC, wB, giC, noneB, gst, tC, pC, gN, gR, rC, rB, tvC_LL])⟩ rfl (by (repeat (first | exact trivial | refine ⟨trivial, ?_⟩ | refine ⟨rfl, ?_⟩))) ⟨congrArg (fun c => some (ABlk.row 37 1 c)) ((hnext h1 (by omega)).symm.trans (tvC_ren _ _).symm), congrArg (fun c => some (ABlk.ro c)) (tvC_ren _ _).symm, rfl, congrArg (fun c => some (ABlk.ro c)) (ints_ren _ _).symm, congrArg (fun c => some (ABlk.ro c)) (ints_ren _ _).symm, rfl, rfl, rfl, congrArg (fun c => some (ABlk.ro c)) (ints_ren _ _).symm, congrArg (fun c => some (ABlk.ro c)) (ints_ren _ _).symm, congrArg (fun c => some (ABlk.ro c)) (tab64_ren _).symm, rfl, trivial⟩ rfl (by simp [tupA, hpLt, tmLt, AV.lt, AE.lt, AC.lt, LL_cons, LL_nil, idOk, ABlk.lt, ints_LL, GB, tab64_LL, gC, wB, giC, noneB, gst, tC, pC, gN, gR, rC, rB, tvC_LL]) (by simp [tupA, hpLt, tmLt, AV.lt, AE.lt, AC.lt, LL_cons, LL_nil, idOk, ABlk.lt, ints_LL, GB, tab64_LL, gC, wB, giC, noneB, gst, tC, pC, gN, gR, rC, rB, tvC_LL])) (by show 0 + 1 ≤ (pW P).length; omega) (by show (pW P).length - (0 + 1) < (pW P).length - (0); omega)
  · refine Wk.on ?_
    by_cases h1 : i + 1 < P.length
    rotate_left
    · rw [decide_eq_false (show ¬ ((i + 1 : Nat) : Int) < ((P.length : Nat) : Int) by omega)]
      refine Wk.on ?_
      have hVi : (pW P).length = i + 1 := by omega
      have ht : (pW P).take (i + 1) = pW P := List.take_of_length_le (by omega)
      rw [hVi] at hQ
      refine ⟨_, ?_, hQ⟩
      dsimp only
      rw [ht]
      exact Under.wk [] ⟨rfl, rfl, Nat.le_of_ble_eq_true rfl, Nat.le_of_ble_eq_true rfl⟩ rfl (by repeat (first | exact trivial | refine ⟨?_, ?_⟩ | exact Or.inl rfl | exact Or.inr ⟨⟨rfl, rfl, rfl⟩, trivial⟩ | exact Or.inr rfl)) (by repeat (first | exact trivial | refine ⟨?_, ?_⟩ | exact Or.inl rfl | exact Or.inl (tab64_ren _).symm | exact Or.inl (congrArg ABlk.ro (tvC_ren _ _).symm) | exact Or.inl (congrArg ABlk.ro (ints_ren _ _).symm) | exact Or.inl (congrArg (ABlk.row 60 2) (ints_ren _ _).symm) | exact Or.inr (Or.inl (Or.inl (ints_ren _ _).symm)) | exact Or.inr (Or.inl (Or.inl (tvC_ren _ _).symm)) | exact Or.inr (Or.inl (Or.inr ⟨⟨⟨rfl, rfl, rfl⟩, trivial⟩, ⟨⟨rfl, rfl, rfl⟩, trivial⟩, trivial⟩)) | exact Or.inr (Or.inl (Or.inr ⟨⟨⟨rfl, rfl, rfl⟩, trivial⟩, rfl, trivial⟩)) | exact Or.inr (Or.inl (Or.inr ⟨rfl, ⟨⟨rfl, rfl, rfl⟩, trivial⟩, trivial⟩)) | exact Or.inr (Or.inl (Or.inr ⟨rfl, rfl, trivial⟩)) | exact Or.inr (Or.inr ⟨rfl, rfl⟩))) rfl (by simp [tupA, hpLt, tmLt, AV.lt, AE.lt, AC.lt, LL_cons, LL_nil, idOk, ABlk.lt, ints_LL, GB, tab64_LL, gC, wB, giC, noneB, gst, tC, pC, gN, gR, rC, rB, tvC_LL]) (by simp [tupA, hpLt, tmLt, AV.lt, AE.lt, AC.lt, LL_cons, LL_nil, idOk, ABlk.lt, ints_LL, GB, tab64_LL, gC, wB, giC, noneB, gst, tC, pC, gN, gR, rC, rB, tvC_LL])
    rw [decide_eq_true (show ((i + 1 : Nat) : Int) < ((P.length : Nat) : Int) by omega)]
    refine Wk.on ?_
    by_cases h2 : i + 1 < 10
    rotate_left
    · rw [decide_eq_false (show ¬ ((i + 1 : Nat) : Int) < 10 by omega)]
      refine Wk.on ?_
      have hVi : (pW P).length = i + 1 := by omega
      have ht : (pW P).take (i + 1) = pW P := List.take_of_length_le (by omega)
      rw [hVi] at hQ
      refine ⟨_, ?_, hQ⟩
      dsimp only
      rw [ht]
      exact Under.wk [] ⟨rfl, rfl, Nat.le_of_ble_eq_true rfl, Nat.le_of_ble_eq_true rfl⟩ rfl (by repeat (first | exact trivial | refine ⟨?_, ?_⟩ | exact Or.inl rfl | exact Or.inr ⟨⟨rfl, rfl, rfl⟩, trivial⟩ | exact Or.inr rfl)) (by repeat (first | exact trivial | refine ⟨?_, ?_⟩ | exact Or.inl rfl | exact Or.inl (tab64_ren _).symm | exact Or.inl (congrArg ABlk.ro (tvC_ren _ _).symm) | exact Or.inl (congrArg ABlk.ro (ints_ren _ _).symm) | exact Or.inl (congrArg (ABlk.row 60 2) (ints_ren _ _).symm) | exact Or.inr (Or.inl (Or.inl (ints_ren _ _).symm)) | exact Or.inr (Or.inl (Or.inl (tvC_ren _ _).symm)) | exact Or.inr (Or.inl (Or.inr ⟨⟨⟨rfl, rfl, rfl⟩, trivial⟩, ⟨⟨rfl, rfl, rfl⟩, trivial⟩, trivial⟩)) | exact Or.inr (Or.inl (Or.inr ⟨⟨⟨rfl, rfl, rfl⟩, trivial⟩, rfl, trivial⟩)) | exact Or.inr (Or.inl (Or.inr ⟨rfl, ⟨⟨rfl, rfl, rfl⟩, trivial⟩, trivial⟩)) | exact Or.inr (Or.inl (Or.inr ⟨rfl, rfl, trivial⟩)) | exact Or.inr (Or.inr ⟨rfl, rfl⟩))) rfl (by simp [tupA, hpLt, tmLt, AV.lt, AE.lt, AC.lt, LL_cons, LL_nil, idOk, ABlk.lt, ints_LL, GB, tab64_LL, gC, wB, giC, noneB, gst, tC, pC, gN, gR, rC, rB, tvC_LL]) (by simp [tupA, hpLt, tmLt, AV.lt, AE.lt, AC.lt, LL_cons, LL_nil, idOk, ABlk.lt, ints_LL, GB, tab64_LL, gC, wB, giC, noneB, gst, tC, pC, gN, gR, rC, rB, tvC_LL])
    rw [decide_eq_true (show ((i + 1 : Nat) : Int) < 10 by omega)]
    refine Wk.on ?_
    refine ⟨by simp [tvC]; omega, ?_⟩
    rw [Int.toNat_natCast, tvC_get h1]
    refine Wk.on ?_
    refine CallA.ro2 [100002] (.c (.tv (.leaf 1 ((P.getD (i + 1) []).take 10).length ((P.getD (i + 1) []).take 10)))) (few10 (P.getD (i + 1) []) (hPi h1)) ?_
    refine Wk.on ?_
    refine ⟨⟨Nat.le_of_ble_eq_true rfl, rfl, rfl, by simp [tvC]; omega, by show ((i + 1 + 1 : Nat) : Int) * 24 ≤ _; omega, by omega⟩, ?_⟩
    refine Wk.on ?_
    exact Again.mk (i + 1 + 1) (Sub.new [(40, 42)] ⟨rfl, rfl, (by simp [tupA, hpLt, tmLt, AV.lt, AE.lt, AC.lt, LL_cons, LL_nil, idOk, ABlk.lt, ints_LL, GB, tab64_LL, gC, wB, giC, noneB, gst, tC, pC, gN, gR, rC, rB, tvC_LL])⟩ rfl (by (repeat (first | exact trivial | refine ⟨trivial, ?_⟩ | refine ⟨rfl, ?_⟩))) ⟨congrArg (fun c => some (ABlk.row 37 1 c)) ((hnext h1 h2).symm.trans (tvC_ren _ _).symm), congrArg (fun c => some (ABlk.ro c)) (tvC_ren _ _).symm, rfl, congrArg (fun c => some (ABlk.ro c)) (ints_ren _ _).symm, congrArg (fun c => some (ABlk.ro c)) (ints_ren _ _).symm, rfl, rfl, rfl, congrArg (fun c => some (ABlk.ro c)) (ints_ren _ _).symm, congrArg (fun c => some (ABlk.ro c)) (ints_ren _ _).symm, congrArg (fun c => some (ABlk.ro c)) (tab64_ren _).symm, rfl, trivial⟩ rfl (by simp [tupA, hpLt, tmLt, AV.lt, AE.lt, AC.lt, LL_cons, LL_nil, idOk, ABlk.lt, ints_LL, GB, tab64_LL, gC, wB, giC, noneB, gst, tC, pC, gN, gR, rC, rB, tvC_LL]) (by simp [tupA, hpLt, tmLt, AV.lt, AE.lt, AC.lt, LL_cons, LL_nil, idOk, ABlk.lt, ints_LL, GB, tab64_LL, gC, wB, giC, noneB, gst, tC, pC, gN, gR, rC, rB, tvC_LL])) (by show i + 1 + 1 ≤ (pW P).length; omega) (by show (pW P).length - (i + 1 + 1) < (pW P).length - (i + 1); omega)
end Go.Proofs.YtfphkpdobbffeaaDoor

/-
  SwitchJudges: the law
-/
namespace Go.Proofs.YtfphkpdobbffeaaDoor
open Go Go.AH
set_option maxRecDepth 100000
set_option maxHeartbeats 2000000

theorem judges_r (x : Rw) (L0 L1 : List Int) (P : List (List Int)) (h4 : x.ws.length ≤ 9223372036854775807) (hL0 : L0.length ≤ 9223372036854775807) (hL1 : L1.length ≤ 9223372036854775807) (hP : P.length ≤ 9223372036854775807) (hPa : ∀ a ∈ P, a.length ≤ 9223372036854775807) (hws : ¬ (tame x 8 10).ws = []) : FDet Tryd.prog 7 [.g (rC x 0), .g [.rs 1 0 L0.length, .rs 2 0 L1.length], .c (.rs 3 0 P.length)] [(0, rB x), (1, .ro (ints L0)), (2, .ro (ints L1)), (3, .ro (tvC P)), (100002, .ro tab64), (100000, noneB)] 4 (.c (.bool true)) [] 4 := by
  have hgm := tame_game x (pl := 8) (most := 10) (by omega) (by omega) (by omega)
  have hgl := hgm.ok.len
  have hpos := List.length_pos_iff.2 hws
  have ht := tame_rs (x := x) (pl := 8) (most := 10) (by omega) (by omega) (by omega) h4 hpos
  have hgv := given_rs hpos hgl
  generalize tame x 8 10 = g at *
  have f0 := few12 L0 hL0
  have f1 := few12 L1 hL1
  have hJ : ∀ W : List (List Int), W = pW P → JI (0, L0.take 12, L1.take 12, W) := fun W hW => ⟨by omega, by simp; omega, by simp; omega, by subst hW; simp [pW]; omega, fun a ha => by subst hW; simp only [pW, List.mem_map] at ha; obtain ⟨b, _, rfl⟩ := ha; simp; omega⟩
  refine FSpec.of_body tok true Tryd.func7 rfl (by kernel_rfl) (by decide) (by simp [tupA, hpLt, tmLt, AV.lt, AE.lt, AC.lt, LL_cons, LL_nil, idOk, ABlk.lt, ints_LL, GB, tab64_LL, gC, wB, giC, noneB, gst, tC, pC, gN, gR, rC, rB, tvC_LL, hp3r, hp3n, jst_r, jst_n]) (by simp [tupA, hpLt, tmLt, AV.lt, AE.lt, AC.lt, LL_cons, LL_nil, idOk, ABlk.lt, ints_LL, GB, tab64_LL, gC, wB, giC, noneB, gst, tC, pC, gN, gR, rC, rB, tvC_LL, hp3r, hp3n, jst_r, jst_n]) (by show 3 ≤ _; decide) ?_
  refine Wk.on ?_
  refine CallA.det2 [0] (.g (gC g 6)) ([(5, .own [.rs 1 0 L0.length, .rs 2 0 L1.length]), (4, .own (rC x 0)), (0, rB x), (1, .ro (ints L0)), (2, .ro (ints L1)), (3, .ro (tvC P)), (100002, .ro tab64), (100000, noneB), (6, .row 60 2 (ints (fl g.ws)))]) (ht) ?_
  refine Wk.on ?_
  refine CallA.det2 [6] (.g (gC g 8)) ([(7, .own (gC g 6)), (5, .own [.rs 1 0 L0.length, .rs 2 0 L1.length]), (4, .own (rC x 0)), (0, rB x), (1, .ro (ints L0)), (2, .ro (ints L1)), (3, .ro (tvC P)), (100002, .ro tab64), (100000, noneB), (6, .row 60 2 (ints (fl g.ws))), (8, .row 60 2 (ints (fl g.ws)))]) (hgv) ?_
  refine Wk.on ?_
  refine Tr.draw (md := true) [⟨[], [9, 31, 32], [], [], []⟩, ⟨[0], [9, 31, 32], [], [], []⟩, ⟨[0, 1], [9, 31, 32], [], [], []⟩, ⟨[], [9, 28, 29, 30], [0, 1, 2], [], []⟩, ⟨[3], [9, 28, 29, 30], [0, 1, 2], [], []⟩, ⟨[0, 1, 2, 3, 4], [9], [], [], []⟩, ⟨[0, 1, 2, 3, 4, 5], [9], [], [], []⟩, ⟨[], [28, 29, 30, 31, 32, 33, 34], [0, 1, 2, 3, 4, 5, 6], [], []⟩] tok (by kernel_rfl) (by kernel_rfl) ?_
  refine Wk.on ?_
  refine CallQ.ro2 [1] (.c (.tv (.leaf 1 (L0.take 12).length (L0.take 12)))) (f0) ?_
  refine Wk.on ?_
  refine CallQ.ro2 [2] (.c (.tv (.leaf 1 (L1.take 12).length (L1.take 12)))) (f1) ?_
  refine Wk.on ?_
  refine Tr.tell (t := ⟨[(10, .c .nils), (11, .c (.int .i64 0)), (2, .c (.rs 3 0 P.length)), (4, .c (.ptr 5 0)), (7, .c (.ptr 7 0)), (8, .c (.ptr 9 0)), (9, .c (.ptr 30 0))], [(3, .ro (tvC P)), (30, .own [.rs 31 0 (L0.take 12).length, .rs 32 0 (L1.take 12).length]), (31, .ro (ints (L0.take 12))), (32, .ro (ints (L1.take 12))), (7, .own (gC g 6)), (9, .own (gC g 8)), (5, .own [.rs 1 0 L0.length, .rs 2 0 L1.length]), (1, .ro (ints L0)), (2, .ro (ints L1)), (6, .row 60 2 (ints (fl g.ws))), (8, .row 60 2 (ints (fl g.ws))), (100002, .ro tab64), (100000, noneB)], 40, 168, 4⟩) (Under.trans (t := ⟨[(10, .c .nils), (11, .c (.int .i64 0)), (2, .c (.rs 3 0 P.length)), (4, .c (.ptr 5 0)), (7, .c (.ptr 7 0)), (8, .c (.ptr 9 0)), (9, .c (.ptr 30 0))], [(30, .own [.tv (.leaf 1 (L0.take 12).length (L0.take 12)), .tv (.leaf 1 (L1.take 12).length (L1.take 12))]), (3, .ro (tvC P)), (7, .own (gC g 6)), (9, .own (gC g 8)), (5, .own [.rs 1 0 L0.length, .rs 2 0 L1.length]), (1, .ro (ints L0)), (2, .ro (ints L1)), (6, .row 60 2 (ints (fl g.ws))), (8, .row 60 2 (ints (fl g.ws))), (100002, .ro tab64), (100000, noneB)], 31, 168, 4⟩) (Under.wk [(30, 10)] ⟨rfl, rfl, Nat.le_of_ble_eq_true rfl, Nat.le_of_ble_eq_true rfl⟩ rfl (by repeat (first | exact trivial | refine ⟨?_, ?_⟩ | exact Or.inl rfl | exact Or.inr ⟨⟨rfl, rfl, rfl⟩, trivial⟩ | exact Or.inr rfl)) (by repeat (first | exact trivial | refine ⟨?_, ?_⟩ | exact Or.inl rfl | exact Or.inl (tab64_ren _).symm | exact Or.inl (congrArg ABlk.ro (tvC_ren _ _).symm) | exact Or.inl (congrArg ABlk.ro (ints_ren _ _).symm) | exact Or.inl (congrArg (ABlk.row 60 2) (ints_ren _ _).symm) | exact Or.inr (Or.inl (Or.inl (ints_ren _ _).symm)) | exact Or.inr (Or.inl (Or.inl (tvC_ren _ _).symm)) | exact Or.inr (Or.inl (Or.inr ⟨⟨⟨rfl, rfl, rfl⟩, trivial⟩, ⟨⟨rfl, rfl, rfl⟩, trivial⟩, trivial⟩)) | exact Or.inr (Or.inl (Or.inr ⟨⟨⟨rfl, rfl, rfl⟩, trivial⟩, rfl, trivial⟩)) | exact Or.inr (Or.inl (Or.inr ⟨rfl, ⟨⟨rfl, rfl, rfl⟩, trivial⟩, trivial⟩)) | exact Or.inr (Or.inl (Or.inr ⟨rfl, rfl, trivial⟩)) | exact Or.inr (Or.inr ⟨rfl, rfl⟩))) rfl (by simp [tupA, hpLt, tmLt, AV.lt, AE.lt, AC.lt, LL_cons, LL_nil, idOk, ABlk.lt, ints_LL, GB, tab64_LL, gC, wB, giC, noneB, gst, tC, pC, gN, gR, rC, rB, tvC_LL, hp3r, hp3n, jst_r, jst_n]) (by simp [tupA, hpLt, tmLt, AV.lt, AE.lt, AC.lt, LL_cons, LL_nil, idOk, ABlk.lt, ints_LL, GB, tab64_LL, gC, wB, giC, noneB, gst, tC, pC, gN, gR, rC, rB, tvC_LL, hp3r, hp3n, jst_r, jst_n])) (Under.trans (Under.thawIn (o := 30) (q := 0) (j0 := 1) rfl rfl rfl (Nat.le_of_ble_eq_true rfl)) (Under.trans (Under.thawIn (o := 30) (q := 1) (j0 := 1) rfl rfl rfl (Nat.le_of_ble_eq_true rfl)) (Under.wk [] ⟨rfl, rfl, Nat.le_of_ble_eq_true rfl, Nat.le_of_ble_eq_true rfl⟩ rfl (by repeat (first | exact trivial | refine ⟨?_, ?_⟩ | exact Or.inl rfl | exact Or.inr ⟨⟨rfl, rfl, rfl⟩, trivial⟩ | exact Or.inr rfl)) (by repeat (first | exact trivial | refine ⟨?_, ?_⟩ | exact Or.inl rfl | exact Or.inl (tab64_ren _).symm | exact Or.inl (congrArg ABlk.ro (tvC_ren _ _).symm) | exact Or.inl (congrArg ABlk.ro (ints_ren _ _).symm) | exact Or.inl (congrArg (ABlk.row 60 2) (ints_ren _ _).symm) | exact Or.inr (Or.inl (Or.inl (ints_ren _ _).symm)) | exact Or.inr (Or.inl (Or.inl (tvC_ren _ _).symm)) | exact Or.inr (Or.inl (Or.inr ⟨⟨⟨rfl, rfl, rfl⟩, trivial⟩, ⟨⟨rfl, rfl, rfl⟩, trivial⟩, trivial⟩)) | exact Or.inr (Or.inl (Or.inr ⟨⟨⟨rfl, rfl, rfl⟩, trivial⟩, rfl, trivial⟩)) | exact Or.inr (Or.inl (Or.inr ⟨rfl, ⟨⟨rfl, rfl, rfl⟩, trivial⟩, trivial⟩)) | exact Or.inr (Or.inl (Or.inr ⟨rfl, rfl, trivial⟩)) | exact Or.inr (Or.inr ⟨rfl, rfl⟩))) rfl (by simp [tupA, hpLt, tmLt, AV.lt, AE.lt, AC.lt, LL_cons, LL_nil, idOk, ABlk.lt, ints_LL, GB, tab64_LL, gC, wB, giC, noneB, gst, tC, pC, gN, gR, rC, rB, tvC_LL, hp3r, hp3n, jst_r, jst_n]) (by simp [tupA, hpLt, tmLt, AV.lt, AE.lt, AC.lt, LL_cons, LL_nil, idOk, ABlk.lt, ints_LL, GB, tab64_LL, gC, wB, giC, noneB, gst, tC, pC, gN, gR, rC, rB, tvC_LL, hp3r, hp3n, jst_r, jst_n]))))) ?_
  refine jd0_r L0 L1 (L0.take 12) (L1.take 12) P hP hPa ?_
  refine Wk.on ?_
  refine Tr.tell (t := jst_r g L0 L1 (0, L0.take 12, L1.take 12, pW P)) (Under.wk [] ⟨rfl, rfl, Nat.le_of_ble_eq_true rfl, Nat.le_of_ble_eq_true rfl⟩ rfl (by repeat (first | exact trivial | refine ⟨?_, ?_⟩ | exact Or.inl rfl | exact Or.inr ⟨⟨rfl, rfl, rfl⟩, trivial⟩ | exact Or.inr rfl)) (by repeat (first | exact trivial | refine ⟨?_, ?_⟩ | exact Or.inl rfl | exact Or.inl (tab64_ren _).symm | exact Or.inl (congrArg ABlk.ro (tvC_ren _ _).symm) | exact Or.inl (congrArg ABlk.ro (ints_ren _ _).symm) | exact Or.inl (congrArg (ABlk.row 60 2) (ints_ren _ _).symm) | exact Or.inr (Or.inl (Or.inl (ints_ren _ _).symm)) | exact Or.inr (Or.inl (Or.inl (tvC_ren _ _).symm)) | exact Or.inr (Or.inl (Or.inr ⟨⟨⟨rfl, rfl, rfl⟩, trivial⟩, ⟨⟨rfl, rfl, rfl⟩, trivial⟩, trivial⟩)) | exact Or.inr (Or.inl (Or.inr ⟨⟨⟨rfl, rfl, rfl⟩, trivial⟩, rfl, trivial⟩)) | exact Or.inr (Or.inl (Or.inr ⟨rfl, ⟨⟨rfl, rfl, rfl⟩, trivial⟩, trivial⟩)) | exact Or.inr (Or.inl (Or.inr ⟨rfl, rfl, trivial⟩)) | exact Or.inr (Or.inr ⟨rfl, rfl⟩))) rfl (by simp [tupA, hpLt, tmLt, AV.lt, AE.lt, AC.lt, LL_cons, LL_nil, idOk, ABlk.lt, ints_LL, GB, tab64_LL, gC, wB, giC, noneB, gst, tC, pC, gN, gR, rC, rB, tvC_LL, hp3r, hp3n, jst_r, jst_n]) (by simp [tupA, hpLt, tmLt, AV.lt, AE.lt, AC.lt, LL_cons, LL_nil, idOk, ABlk.lt, ints_LL, GB, tab64_LL, gC, wB, giC, noneB, gst, tC, pC, gN, gR, rC, rB, tvC_LL, hp3r, hp3n, jst_r, jst_n])) ?_
  refine jd1_r hgm L0 L1 hL0 hL1 (L0.take 12) (L1.take 12) (pW P) (hJ _ rfl) ?_
  intro A B V
  refine Wk.on ?_
  refine CallA.ro2 [] (.c (.bool true)) (awake_spec) ?_
  refine Wk.on ?_
  exact AH.Fin.nil2 ⟨rfl, rfl, rfl⟩
theorem judges_n (x : Rw) (L0 L1 : List Int) (P : List (List Int)) (h4 : x.ws.length ≤ 9223372036854775807) (hL0 : L0.length ≤ 9223372036854775807) (hL1 : L1.length ≤ 9223372036854775807) (hP : P.length ≤ 9223372036854775807) (hPa : ∀ a ∈ P, a.length ≤ 9223372036854775807) (hws : (tame x 8 10).ws = []) : FDet Tryd.prog 7 [.g (rC x 0), .g [.rs 1 0 L0.length, .rs 2 0 L1.length], .c (.rs 3 0 P.length)] [(0, rB x), (1, .ro (ints L0)), (2, .ro (ints L1)), (3, .ro (tvC P)), (100002, .ro tab64), (100000, noneB)] 4 (.c (.bool true)) [] 4 := by
  have hgm := tame_game x (pl := 8) (most := 10) (by omega) (by omega) (by omega)
  have ht := tame_nil (x := x) (pl := 8) (most := 10) (by omega) (by omega) (by omega) h4 hws
  generalize tame x 8 10 = g at *
  have f0 := few12 L0 hL0
  have f1 := few12 L1 hL1
  have hJ : ∀ W : List (List Int), W = pW P → JI (0, L0.take 12, L1.take 12, W) := fun W hW => ⟨by omega, by simp; omega, by simp; omega, by subst hW; simp [pW]; omega, fun a ha => by subst hW; simp only [pW, List.mem_map] at ha; obtain ⟨b, _, rfl⟩ := ha; simp; omega⟩
  refine FSpec.of_body tok true Tryd.func7 rfl (by kernel_rfl) (by decide) (by simp [tupA, hpLt, tmLt, AV.lt, AE.lt, AC.lt, LL_cons, LL_nil, idOk, ABlk.lt, ints_LL, GB, tab64_LL, gC, wB, giC, noneB, gst, tC, pC, gN, gR, rC, rB, tvC_LL, hp3r, hp3n, jst_r, jst_n]) (by simp [tupA, hpLt, tmLt, AV.lt, AE.lt, AC.lt, LL_cons, LL_nil, idOk, ABlk.lt, ints_LL, GB, tab64_LL, gC, wB, giC, noneB, gst, tC, pC, gN, gR, rC, rB, tvC_LL, hp3r, hp3n, jst_r, jst_n]) (by show 3 ≤ _; decide) ?_
  refine Wk.on ?_
  refine CallA.ro2 [0] (.g (gN g)) (ht) ?_
  refine Wk.on ?_
  refine CallA.ro2 [0] (.g (gN g)) (given_nil) ?_
  refine Wk.on ?_
  refine Tr.draw (md := true) [⟨[], [9, 31, 32], [], [], []⟩, ⟨[0], [9, 31, 32], [], [], []⟩, ⟨[0, 1], [9, 31, 32], [], [], []⟩, ⟨[], [9, 28, 29, 30], [0, 1, 2], [], []⟩, ⟨[3], [9, 28, 29, 30], [0, 1, 2], [], []⟩, ⟨[0, 1, 2, 3, 4], [9], [], [], []⟩, ⟨[0, 1, 2, 3, 4, 5], [9], [], [], []⟩, ⟨[], [28, 29, 30, 31, 32, 33, 34], [0, 1, 2, 3, 4, 5, 6], [], []⟩] tok (by kernel_rfl) (by kernel_rfl) ?_
  refine Wk.on ?_
  refine CallQ.ro2 [1] (.c (.tv (.leaf 1 (L0.take 12).length (L0.take 12)))) (f0) ?_
  refine Wk.on ?_
  refine CallQ.ro2 [2] (.c (.tv (.leaf 1 (L1.take 12).length (L1.take 12)))) (f1) ?_
  refine Wk.on ?_
  refine Tr.tell (t := ⟨[(10, .c .nils), (11, .c (.int .i64 0)), (2, .c (.rs 3 0 P.length)), (4, .c (.ptr 5 0)), (7, .c (.ptr 7 0)), (8, .c (.ptr 9 0)), (9, .c (.ptr 30 0))], [(3, .ro (tvC P)), (30, .own [.rs 31 0 (L0.take 12).length, .rs 32 0 (L1.take 12).length]), (31, .ro (ints (L0.take 12))), (32, .ro (ints (L1.take 12))), (7, .own (gN g)), (9, .own (gN g)), (5, .own [.rs 1 0 L0.length, .rs 2 0 L1.length]), (1, .ro (ints L0)), (2, .ro (ints L1)), (100002, .ro tab64), (100000, noneB)], 40, 168, 4⟩) (Under.trans (t := ⟨[(10, .c .nils), (11, .c (.int .i64 0)), (2, .c (.rs 3 0 P.length)), (4, .c (.ptr 5 0)), (7, .c (.ptr 7 0)), (8, .c (.ptr 9 0)), (9, .c (.ptr 30 0))], [(30, .own [.tv (.leaf 1 (L0.take 12).length (L0.take 12)), .tv (.leaf 1 (L1.take 12).length (L1.take 12))]), (3, .ro (tvC P)), (7, .own (gN g)), (9, .own (gN g)), (5, .own [.rs 1 0 L0.length, .rs 2 0 L1.length]), (1, .ro (ints L0)), (2, .ro (ints L1)), (100002, .ro tab64), (100000, noneB)], 31, 168, 4⟩) (Under.wk [(30, 8), (7, 6), (9, 7)] ⟨rfl, rfl, Nat.le_of_ble_eq_true rfl, Nat.le_of_ble_eq_true rfl⟩ rfl (by repeat (first | exact trivial | refine ⟨?_, ?_⟩ | exact Or.inl rfl | exact Or.inr ⟨⟨rfl, rfl, rfl⟩, trivial⟩ | exact Or.inr rfl)) (by repeat (first | exact trivial | refine ⟨?_, ?_⟩ | exact Or.inl rfl | exact Or.inl (tab64_ren _).symm | exact Or.inl (congrArg ABlk.ro (tvC_ren _ _).symm) | exact Or.inl (congrArg ABlk.ro (ints_ren _ _).symm) | exact Or.inl (congrArg (ABlk.row 60 2) (ints_ren _ _).symm) | exact Or.inr (Or.inl (Or.inl (ints_ren _ _).symm)) | exact Or.inr (Or.inl (Or.inl (tvC_ren _ _).symm)) | exact Or.inr (Or.inl (Or.inr ⟨⟨⟨rfl, rfl, rfl⟩, trivial⟩, ⟨⟨rfl, rfl, rfl⟩, trivial⟩, trivial⟩)) | exact Or.inr (Or.inl (Or.inr ⟨⟨⟨rfl, rfl, rfl⟩, trivial⟩, rfl, trivial⟩)) | exact Or.inr (Or.inl (Or.inr ⟨rfl, ⟨⟨rfl, rfl, rfl⟩, trivial⟩, trivial⟩)) | exact Or.inr (Or.inl (Or.inr ⟨rfl, rfl, trivial⟩)) | exact Or.inr (Or.inr ⟨rfl, rfl⟩))) rfl (by simp [tupA, hpLt, tmLt, AV.lt, AE.lt, AC.lt, LL_cons, LL_nil, idOk, ABlk.lt, ints_LL, GB, tab64_LL, gC, wB, giC, noneB, gst, tC, pC, gN, gR, rC, rB, tvC_LL, hp3r, hp3n, jst_r, jst_n]) (by simp [tupA, hpLt, tmLt, AV.lt, AE.lt, AC.lt, LL_cons, LL_nil, idOk, ABlk.lt, ints_LL, GB, tab64_LL, gC, wB, giC, noneB, gst, tC, pC, gN, gR, rC, rB, tvC_LL, hp3r, hp3n, jst_r, jst_n])) (Under.trans (Under.thawIn (o := 30) (q := 0) (j0 := 1) rfl rfl rfl (Nat.le_of_ble_eq_true rfl)) (Under.trans (Under.thawIn (o := 30) (q := 1) (j0 := 1) rfl rfl rfl (Nat.le_of_ble_eq_true rfl)) (Under.wk [] ⟨rfl, rfl, Nat.le_of_ble_eq_true rfl, Nat.le_of_ble_eq_true rfl⟩ rfl (by repeat (first | exact trivial | refine ⟨?_, ?_⟩ | exact Or.inl rfl | exact Or.inr ⟨⟨rfl, rfl, rfl⟩, trivial⟩ | exact Or.inr rfl)) (by repeat (first | exact trivial | refine ⟨?_, ?_⟩ | exact Or.inl rfl | exact Or.inl (tab64_ren _).symm | exact Or.inl (congrArg ABlk.ro (tvC_ren _ _).symm) | exact Or.inl (congrArg ABlk.ro (ints_ren _ _).symm) | exact Or.inl (congrArg (ABlk.row 60 2) (ints_ren _ _).symm) | exact Or.inr (Or.inl (Or.inl (ints_ren _ _).symm)) | exact Or.inr (Or.inl (Or.inl (tvC_ren _ _).symm)) | exact Or.inr (Or.inl (Or.inr ⟨⟨⟨rfl, rfl, rfl⟩, trivial⟩, ⟨⟨rfl, rfl, rfl⟩, trivial⟩, trivial⟩)) | exact Or.inr (Or.inl (Or.inr ⟨⟨⟨rfl, rfl, rfl⟩, trivial⟩, rfl, trivial⟩)) | exact Or.inr (Or.inl (Or.inr ⟨rfl, ⟨⟨rfl, rfl, rfl⟩, trivial⟩, trivial⟩)) | exact Or.inr (Or.inl (Or.inr ⟨rfl, rfl, trivial⟩)) | exact Or.inr (Or.inr ⟨rfl, rfl⟩))) rfl (by simp [tupA, hpLt, tmLt, AV.lt, AE.lt, AC.lt, LL_cons, LL_nil, idOk, ABlk.lt, ints_LL, GB, tab64_LL, gC, wB, giC, noneB, gst, tC, pC, gN, gR, rC, rB, tvC_LL, hp3r, hp3n, jst_r, jst_n]) (by simp [tupA, hpLt, tmLt, AV.lt, AE.lt, AC.lt, LL_cons, LL_nil, idOk, ABlk.lt, ints_LL, GB, tab64_LL, gC, wB, giC, noneB, gst, tC, pC, gN, gR, rC, rB, tvC_LL, hp3r, hp3n, jst_r, jst_n]))))) ?_
  refine jd0_n L0 L1 (L0.take 12) (L1.take 12) P hP hPa ?_
  refine Wk.on ?_
  refine Tr.tell (t := jst_n g L0 L1 (0, L0.take 12, L1.take 12, pW P)) (Under.wk [] ⟨rfl, rfl, Nat.le_of_ble_eq_true rfl, Nat.le_of_ble_eq_true rfl⟩ rfl (by repeat (first | exact trivial | refine ⟨?_, ?_⟩ | exact Or.inl rfl | exact Or.inr ⟨⟨rfl, rfl, rfl⟩, trivial⟩ | exact Or.inr rfl)) (by repeat (first | exact trivial | refine ⟨?_, ?_⟩ | exact Or.inl rfl | exact Or.inl (tab64_ren _).symm | exact Or.inl (congrArg ABlk.ro (tvC_ren _ _).symm) | exact Or.inl (congrArg ABlk.ro (ints_ren _ _).symm) | exact Or.inl (congrArg (ABlk.row 60 2) (ints_ren _ _).symm) | exact Or.inr (Or.inl (Or.inl (ints_ren _ _).symm)) | exact Or.inr (Or.inl (Or.inl (tvC_ren _ _).symm)) | exact Or.inr (Or.inl (Or.inr ⟨⟨⟨rfl, rfl, rfl⟩, trivial⟩, ⟨⟨rfl, rfl, rfl⟩, trivial⟩, trivial⟩)) | exact Or.inr (Or.inl (Or.inr ⟨⟨⟨rfl, rfl, rfl⟩, trivial⟩, rfl, trivial⟩)) | exact Or.inr (Or.inl (Or.inr ⟨rfl, ⟨⟨rfl, rfl, rfl⟩, trivial⟩, trivial⟩)) | exact Or.inr (Or.inl (Or.inr ⟨rfl, rfl, trivial⟩)) | exact Or.inr (Or.inr ⟨rfl, rfl⟩))) rfl (by simp [tupA, hpLt, tmLt, AV.lt, AE.lt, AC.lt, LL_cons, LL_nil, idOk, ABlk.lt, ints_LL, GB, tab64_LL, gC, wB, giC, noneB, gst, tC, pC, gN, gR, rC, rB, tvC_LL, hp3r, hp3n, jst_r, jst_n]) (by simp [tupA, hpLt, tmLt, AV.lt, AE.lt, AC.lt, LL_cons, LL_nil, idOk, ABlk.lt, ints_LL, GB, tab64_LL, gC, wB, giC, noneB, gst, tC, pC, gN, gR, rC, rB, tvC_LL, hp3r, hp3n, jst_r, jst_n])) ?_
  refine jd1_n hgm hws L0 L1 hL0 hL1 (L0.take 12) (L1.take 12) (pW P) (hJ _ rfl) ?_
  intro A B V
  refine Wk.on ?_
  refine CallA.ro2 [] (.c (.bool true)) (awake_spec) ?_
  refine Wk.on ?_
  exact AH.Fin.nil2 ⟨rfl, rfl, rfl⟩
theorem judges_all (x : Rw) (L0 L1 : List Int) (P : List (List Int)) (h4 : x.ws.length ≤ 9223372036854775807) (hL0 : L0.length ≤ 9223372036854775807) (hL1 : L1.length ≤ 9223372036854775807) (hP : P.length ≤ 9223372036854775807) (hPa : ∀ a ∈ P, a.length ≤ 9223372036854775807) : FDet Tryd.prog 7 [.g (rC x 0), .g [.rs 1 0 L0.length, .rs 2 0 L1.length], .c (.rs 3 0 P.length)] [(0, rB x), (1, .ro (ints L0)), (2, .ro (ints L1)), (3, .ro (tvC P)), (100002, .ro tab64), (100000, noneB)] 4 (.c (.bool true)) [] 4 := by
  by_cases h : (tame x 8 10).ws = []
  · exact judges_n x L0 L1 P h4 hL0 hL1 hP hPa h
  · exact judges_r x L0 L1 P h4 hL0 hL1 hP hPa h
end Go.Proofs.YtfphkpdobbffeaaDoor
