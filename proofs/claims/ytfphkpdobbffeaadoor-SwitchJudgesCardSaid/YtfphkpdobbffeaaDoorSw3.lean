/-
  Contract: Kind, by the program.
-/
import Derived.Test.YtfphkpdobbffeaaDoorSw2
import Derived.Test.YtfphkpdobbffeaaDoorAh6
set_option linter.unusedSimpArgs false
set_option linter.unusedVariables false
namespace Go.Proofs.YtfphkpdobbffeaaDoor
open Go Go.AH
set_option maxRecDepth 100000
set_option maxHeartbeats 1000000

theorem short_all {g : Gm} (hg : g.ok) : ∀ f, f < 2 ^ g.ws.length → ShortOk g f := by
  intro f
  induction f using Nat.strongRecOn with
  | _ f ih => exact fun hf => short_of_good hg hf (good_of_short hg hf fun f' h => ih f' h (by omega))
theorem newP_mi (g : Gm) : FDet Tryd.prog 56 [.g (gC g 0)] [(0, wB g)] 1 (.c (.ptr 2 0)) [(2, .own (pC g 0 1)), (1, .mi (MI g))] 3 :=
  FDet.post newP_spec _ _ rfl ⟨.inl rfl, MI.nil g, trivial⟩ (.inl (by decide)) (by simp [tupA, hpLt, tmLt, AV.lt, AE.lt, AC.lt, LL_cons, LL_nil, idOk, ABlk.lt, ints_LL, GB, tab64_LL, gC, wB, giC, noneB, gst, tC, pC]) rfl
def kindB (g : Gm) : ByteArray := if W g (2 ^ g.ws.length - 1) 0 true then "short".toUTF8 else if W g (2 ^ g.ws.length - 1) 0 false then "first".toUTF8 else "cut".toUTF8
theorem gC_LA {g : Gm} {p : Nat → Prop} (h : p 0) : LA p (gC g 0) := by
  intro x hx
  simp [gC] at hx
  rcases hx with rfl | rfl | rfl | rfl
  · trivial
  · trivial
  · trivial
  · exact h
theorem kind_spec {g : Gm} (hg : g.game) : FDet Tryd.prog 19 [.g (gC g 0)] [(0, wB g), (100002, .ro tab64)] 1 (.t [.c (.str (kindB g)), .c (.int .i64 0)]) [] 1 := by
  have hq3 : 0 < 2 ^ g.ws.length := pow_pos2 _
  have hS := short_all hg.ok (2 ^ g.ws.length - 1) (by omega)
  refine FSpec.of_body tok true Tryd.func19 rfl (by kernel_rfl) (by decide) (by simp [tupA, hpLt, tmLt, AV.lt, AE.lt, AC.lt, LL_cons, LL_nil, idOk, ABlk.lt, ints_LL, GB, tab64_LL, gC, wB, giC, noneB, gst, tC, pC]) (by simp [tupA, hpLt, tmLt, AV.lt, AE.lt, AC.lt, LL_cons, LL_nil, idOk, ABlk.lt, ints_LL, GB, tab64_LL, gC, wB, giC, noneB, gst, tC, pC]) (by show 1 ≤ _; decide) ?_
  refine Wk.on ?_
  refine CallA.ro [0] (.c (.int .i64 0)) (check_ok hg) (by first | rfl | exact congrArg AV.g (ints_ren _ _) | (simp [ints_ren, AV.ren, ABlk.ren, AC.ren, AE.ren, qq]; done)) rfl (by (repeat (first | exact trivial | refine ⟨⟨(by first | exact .inl (by decide) | exact .inr (by decide)), (by first | (refine Or.inl ?_; first | rfl | exact congrArg some (ints_ren _ _).symm | exact congrArg ABlk.own (ints_ren _ _).symm | exact congrArg some (tab64_ren _).symm | exact (mp_ren hpm _).symm) | rfl | exact congrArg some (ints_ren _ _).symm | exact congrArg ABlk.own (ints_ren _ _).symm | exact congrArg some (tab64_ren _).symm | exact (mp_ren hpm _).symm | exact Or.inr ⟨rfl, rfl⟩)⟩, ?_⟩))) (by first | rfl | exact congrArg AV.g (ints_ren _ _) | (simp [ints_ren, AV.ren, ABlk.ren, AC.ren, AE.ren, qq]; done)) ?_
  refine Wk.on ?_
  refine Tr.draw (md := true) [⟨[], [6, 14], [], [], []⟩, ⟨[0], [6, 14], [], [], []⟩, ⟨[], [6, 12, 13], [0, 1], [], []⟩, ⟨[0, 1, 2], [6], [], [], []⟩, ⟨[0, 1, 2, 3], [5, 6], [], [], []⟩, ⟨[], [12, 13, 14, 15, 16], [0, 1, 2, 3, 4], [], []⟩, ⟨[0, 1, 2, 3, 5], [16], [4], [], []⟩] tok (by kernel_rfl) (by kernel_rfl) ?_
  refine Wk.on ?_
  refine CallQ.new [0] (.c (.ptr 3 0)) ([(3, .own (pC g 0 2)), (2, .mi (MI g))]) (newP_mi g) (by first | rfl | exact congrArg AV.g (ints_ren _ _) | (simp [ints_ren, AV.ren, ABlk.ren, AC.ren, AE.ren, qq]; done)) rfl (by (repeat (first | exact trivial | refine ⟨⟨(by first | exact .inl (by decide) | exact .inr (by decide)), (by first | (refine Or.inl ?_; first | rfl | exact congrArg some (ints_ren _ _).symm | exact congrArg ABlk.own (ints_ren _ _).symm | exact congrArg some (tab64_ren _).symm | exact (mp_ren hpm _).symm) | rfl | exact congrArg some (ints_ren _ _).symm | exact congrArg ABlk.own (ints_ren _ _).symm | exact congrArg some (tab64_ren _).symm | exact (mp_ren hpm _).symm | exact Or.inr ⟨rfl, rfl⟩)⟩, ?_⟩))) (by first | rfl | exact congrArg AV.g (ints_ren _ _) | (simp [ints_ren, AV.ren, ABlk.ren, AC.ren, AE.ren, qq]; done)) (by first | rfl | (simp [behind, gone, lk, up, del, qq, ABlk.wr, GB, ints_ren, AV.ren, ABlk.ren, AC.ren, AE.ren]; done) | (simp [behind, gone, lk, up, del, qq, ABlk.wr, GB, ints_ren, AV.ren, ABlk.ren, AC.ren, AE.ren]; rfl)) ?_
  refine Wk.on ?_
  refine ⟨⟨show LA _ (gC g 0) from gC_LA (avB_sound rfl), fun q h => (List.not_mem_nil h).elim⟩, ?_⟩
  refine Wk.on ?_
  refine CallQ.ro [0] (.c (.int .i64 (2 ^ g.ws.length - 1 : Nat))) (all_spec hg.ok) (by first | rfl | exact congrArg AV.g (ints_ren _ _) | (simp [ints_ren, AV.ren, ABlk.ren, AC.ren, AE.ren, qq]; done)) rfl (by (repeat (first | exact trivial | refine ⟨⟨(by first | exact .inl (by decide) | exact .inr (by decide)), (by first | (refine Or.inl ?_; first | rfl | exact congrArg some (ints_ren _ _).symm | exact congrArg ABlk.own (ints_ren _ _).symm | exact congrArg some (tab64_ren _).symm | exact (mp_ren hpm _).symm) | rfl | exact congrArg some (ints_ren _ _).symm | exact congrArg ABlk.own (ints_ren _ _).symm | exact congrArg some (tab64_ren _).symm | exact (mp_ren hpm _).symm | exact Or.inr ⟨rfl, rfl⟩)⟩, ?_⟩))) (by first | rfl | exact congrArg AV.g (ints_ren _ _) | (simp [ints_ren, AV.ren, ABlk.ren, AC.ren, AE.ren, qq]; done)) ?_
  refine Wk.on ?_
  refine CallA.det [0, 3, 2] (.c (.bool (W g (2 ^ g.ws.length - 1) 0 true))) ([(4, .own [.int .i64 ((2 ^ g.ws.length - 1 : Nat) : Int), .int .i64 0]), (3, .own (pC g 0 2)), (1, .own (gC g 0)), (0, wB g), (100002, .ro tab64), (2, .mi (MI g))]) (hS 0 true (by omega)) (by first | rfl | exact congrArg AV.g (ints_ren _ _) | (simp [ints_ren, AV.ren, ABlk.ren, AC.ren, AE.ren, qq]; done)) rfl (by (repeat (first | exact trivial | refine ⟨⟨(by first | exact .inl (by decide) | exact .inr (by decide)), (by first | (refine Or.inl ?_; first | rfl | exact congrArg some (ints_ren _ _).symm | exact congrArg ABlk.own (ints_ren _ _).symm | exact congrArg some (tab64_ren _).symm | exact (mp_ren hpm _).symm) | rfl | exact congrArg some (ints_ren _ _).symm | exact congrArg ABlk.own (ints_ren _ _).symm | exact congrArg some (tab64_ren _).symm | exact (mp_ren hpm _).symm | exact Or.inr ⟨rfl, rfl⟩)⟩, ?_⟩))) (by first | rfl | exact congrArg AV.g (ints_ren _ _) | (simp [ints_ren, AV.ren, ABlk.ren, AC.ren, AE.ren, qq]; done)) (by first | rfl | (simp [behind, gone, lk, up, del, qq, ABlk.wr, GB, ints_ren, AV.ren, ABlk.ren, AC.ren, AE.ren]; done) | (simp [behind, gone, lk, up, del, qq, ABlk.wr, GB, ints_ren, AV.ren, ABlk.ren, AC.ren, AE.ren]; rfl)) ?_
  refine Wk.on ?_
  refine ⟨fun hc => ?_, fun hc => ?_⟩ <;> (try simp only [decide_eq_true_eq, decide_eq_false_iff_not, Decidable.not_not, Bool.not_true, Bool.not_false, ne_eq, cond_true, cond_false, Bool.not_eq_true', Bool.not_eq_false'] at hc)
  · refine Wk.on ?_
    exact AH.Fin.nil [] ⟨by rw [kindB, hc]; rfl, rfl, rfl⟩ (by first | exact trivial | (simp [tupA, hpLt, tmLt, AV.lt, AE.lt, AC.lt, LL_cons, LL_nil, idOk, ABlk.lt, ints_LL, GB, tab64_LL, gC, wB, giC, noneB, gst, tC, pC]; done) | (simp [tupA, hpLt, tmLt, AV.lt, AE.lt, AC.lt, LL_cons, LL_nil, idOk, ABlk.lt, ints_LL, GB, tab64_LL, gC, wB, giC, noneB, gst, tC, pC, rdn, wrn]; done)) trivial trivial rfl (by simp [GB])
  · have hc1 := hc
    refine Wk.on ?_
    refine CallA.det [0, 3, 2] (.c (.bool (W g (2 ^ g.ws.length - 1) 0 false))) ([(4, .own [.int .i64 ((2 ^ g.ws.length - 1 : Nat) : Int), .int .i64 0]), (3, .own (pC g 0 2)), (1, .own (gC g 0)), (0, wB g), (100002, .ro tab64), (2, .mi (MI g))]) (hS 0 false (by omega)) (by first | rfl | exact congrArg AV.g (ints_ren _ _) | (simp [ints_ren, AV.ren, ABlk.ren, AC.ren, AE.ren, qq]; done)) rfl (by (repeat (first | exact trivial | refine ⟨⟨(by first | exact .inl (by decide) | exact .inr (by decide)), (by first | (refine Or.inl ?_; first | rfl | exact congrArg some (ints_ren _ _).symm | exact congrArg ABlk.own (ints_ren _ _).symm | exact congrArg some (tab64_ren _).symm | exact (mp_ren hpm _).symm) | rfl | exact congrArg some (ints_ren _ _).symm | exact congrArg ABlk.own (ints_ren _ _).symm | exact congrArg some (tab64_ren _).symm | exact (mp_ren hpm _).symm | exact Or.inr ⟨rfl, rfl⟩)⟩, ?_⟩))) (by first | rfl | exact congrArg AV.g (ints_ren _ _) | (simp [ints_ren, AV.ren, ABlk.ren, AC.ren, AE.ren, qq]; done)) (by first | rfl | (simp [behind, gone, lk, up, del, qq, ABlk.wr, GB, ints_ren, AV.ren, ABlk.ren, AC.ren, AE.ren]; done) | (simp [behind, gone, lk, up, del, qq, ABlk.wr, GB, ints_ren, AV.ren, ABlk.ren, AC.ren, AE.ren]; rfl)) ?_
    refine Wk.on ?_
    refine ⟨fun hc => ?_, fun hc => ?_⟩ <;> (try simp only [decide_eq_true_eq, decide_eq_false_iff_not, Decidable.not_not, Bool.not_true, Bool.not_false, ne_eq, cond_true, cond_false, Bool.not_eq_true', Bool.not_eq_false'] at hc)
    · refine Wk.on ?_
      exact AH.Fin.nil [] ⟨by rw [kindB, hc1, hc]; rfl, rfl, rfl⟩ (by first | exact trivial | (simp [tupA, hpLt, tmLt, AV.lt, AE.lt, AC.lt, LL_cons, LL_nil, idOk, ABlk.lt, ints_LL, GB, tab64_LL, gC, wB, giC, noneB, gst, tC, pC]; done) | (simp [tupA, hpLt, tmLt, AV.lt, AE.lt, AC.lt, LL_cons, LL_nil, idOk, ABlk.lt, ints_LL, GB, tab64_LL, gC, wB, giC, noneB, gst, tC, pC, rdn, wrn]; done)) trivial trivial rfl (by simp [GB])
    · refine Wk.on ?_
      exact AH.Fin.nil [] ⟨by rw [kindB, hc1, hc]; rfl, rfl, rfl⟩ (by first | exact trivial | (simp [tupA, hpLt, tmLt, AV.lt, AE.lt, AC.lt, LL_cons, LL_nil, idOk, ABlk.lt, ints_LL, GB, tab64_LL, gC, wB, giC, noneB, gst, tC, pC]; done) | (simp [tupA, hpLt, tmLt, AV.lt, AE.lt, AC.lt, LL_cons, LL_nil, idOk, ABlk.lt, ints_LL, GB, tab64_LL, gC, wB, giC, noneB, gst, tC, pC, rdn, wrn]; done)) trivial trivial rfl (by simp [GB])
end Go.Proofs.YtfphkpdobbffeaaDoor

/-
  Contract: a game, given to the program.
-/
namespace Go.Proofs.YtfphkpdobbffeaaDoor
open Go Go.AH
set_option maxRecDepth 100000
set_option maxHeartbeats 1000000

def gN (g : Gm) : List AC := [.int .i64 g.n, .int .i64 g.s, .int .i64 g.t, .nils]
def gR (g : Gm) (id : Nat) : List AC := [.int .i64 g.n, .int .i64 g.s, .int .i64 g.t, .row id g.ws.length]
theorem given_nil {g : Gm} : FDet Tryd.prog 20 [.g (gN g)] [] 1 (.g (gN g)) [] 1 := by
  refine FSpec.of_body tok true Tryd.func20 rfl (by kernel_rfl) (by decide) (by simp [tupA, hpLt, tmLt, AV.lt, AE.lt, AC.lt, LL_cons, LL_nil, idOk, ABlk.lt, ints_LL, GB, tab64_LL, gC, wB, giC, noneB, gst, tC, pC, gN, gR]) (by simp [tupA, hpLt, tmLt, AV.lt, AE.lt, AC.lt, LL_cons, LL_nil, idOk, ABlk.lt, ints_LL, GB, tab64_LL, gC, wB, giC, noneB, gst, tC, pC, gN, gR]) (by show 1 ≤ _; decide) ?_
  refine Wk.on ?_
  exact AH.Fin.nil [] ⟨rfl, rfl, rfl⟩ (by first | exact trivial | (simp [tupA, hpLt, tmLt, AV.lt, AE.lt, AC.lt, LL_cons, LL_nil, idOk, ABlk.lt, ints_LL, GB, tab64_LL, gC, wB, giC, noneB, gst, tC, pC, gN, gR]; done) | (simp [tupA, hpLt, tmLt, AV.lt, AE.lt, AC.lt, LL_cons, LL_nil, idOk, ABlk.lt, ints_LL, GB, tab64_LL, gC, wB, giC, noneB, gst, tC, pC, gN, gR, rdn, wrn]; done)) trivial trivial rfl (by simp [GB])
theorem given_row {g : Gm} (h : 0 < g.ws.length) (hl : g.ws.length ≤ 10) : FDet Tryd.prog 20 [.g (gC g 0)] [(0, wB g)] 1 (.g (gR g 1)) [(1, .row 60 2 (ints (fl g.ws)))] 2 := by
  have hl2 := fl_len g.ws
  refine FSpec.of_body tok true Tryd.func20 rfl (by kernel_rfl) (by decide) (by simp [tupA, hpLt, tmLt, AV.lt, AE.lt, AC.lt, LL_cons, LL_nil, idOk, ABlk.lt, ints_LL, GB, tab64_LL, gC, wB, giC, noneB, gst, tC, pC, gN, gR]) (by simp [tupA, hpLt, tmLt, AV.lt, AE.lt, AC.lt, LL_cons, LL_nil, idOk, ABlk.lt, ints_LL, GB, tab64_LL, gC, wB, giC, noneB, gst, tC, pC, gN, gR]) (by show 1 ≤ _; decide) ?_
  refine Wk.on ?_
  have hl3 : (ints (fl g.ws)).length = g.ws.length * 2 := by rw [ints_len]; exact hl2
  refine ⟨by rw [hl3]; show 0 + g.ws.length * 2 ≤ _; omega, ?_⟩
  refine Wk.on ?_
  refine ⟨⟨Nat.le_of_ble_eq_true rfl, by show ((g.ws.length : Nat) : Int) * 16 ≤ _; omega, by omega⟩, fun h0 => by omega, fun _ => ?_⟩
  have hpos : ((ints (fl g.ws)).drop 0).take (g.ws.length * 2) = ints (fl g.ws) := by rw [List.drop_zero, List.take_of_length_le (by omega)]
  refine Wk.on ?_
  trace_state
  exact AH.Fin.new [4] _ _ ⟨rfl, rfl, rfl⟩ rfl ⟨by rw [hpos]; exact rowEq rfl, trivial⟩ rfl (by simp [tupA, hpLt, tmLt, AV.lt, AE.lt, AC.lt, LL_cons, LL_nil, idOk, ABlk.lt, ints_LL, GB, tab64_LL, gC, wB, giC, noneB, gst, tC, pC, gN, gR]) (by simp [tupA, hpLt, tmLt, AV.lt, AE.lt, AC.lt, LL_cons, LL_nil, idOk, ABlk.lt, ints_LL, GB, tab64_LL, gC, wB, giC, noneB, gst, tC, pC, gN, gR])
end Go.Proofs.YtfphkpdobbffeaaDoor
