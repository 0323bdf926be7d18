/-
  Contracts: the reference's game without a wire; games copied and compared.
-/
import Derived.Test.YtfphkpdobbffeaaDoorSw5
set_option linter.unusedSimpArgs false
set_option linter.unusedVariables false
namespace Go.Proofs.YtfphkpdobbffeaaDoor
open Go Go.AH
set_option maxRecDepth 100000
set_option maxHeartbeats 1000000

theorem flc_take (ws : List (Nat × Nat)) (k n : Nat) : ((ints (fl ws)).drop 0).take (k * 2) = ints (fl (ws.take k)) := by
  rw [List.drop_zero, fl_take]; simp [ints]
theorem flc_drop {ws : List (Nat × Nat)} {k d : Nat} (h : ws.length = k + d) : ((ints (fl ws)).drop (k * 2)).take (d * 2) = ints (fl (ws.drop k)) := by
  rw [List.take_of_length_le (by rw [List.length_drop, ints_len, fl_len, h]; omega), fl_drop]; simp [ints]
theorem fl_app (l m : List (Nat × Nat)) : ints (fl l) ++ ints (fl m) = ints (fl (l ++ m)) := by simp [ints, fl]
theorem withoutR_spec {g : Gm} (hl10 : g.ws.length ≤ 10) {i : Nat} (hi : i < g.ws.length) : FDet Tryd.prog 53 [.g (gC g 0), .c (.int .i64 i)] [(0, wB g)] 1 (tameR (lessG g i)) (tameH (lessG g i)) (tameK (lessG g i)) := by
  have hl : (ints (fl g.ws)).length = g.ws.length * 2 := by rw [ints_len, fl_len]
  obtain ⟨d, hd⟩ : ∃ d, g.ws.length = i + 1 + d := ⟨g.ws.length - (i + 1), by omega⟩
  have e1 := flc_take g.ws i 0
  have e2 := flc_drop (ws := g.ws) (k := i + 1) (d := d) hd
  have e3 : g.ws.length - (i + 1) = d := by omega
  have e4 : ((i : Int) + 1).toNat = i + 1 := by omega
  have hsh : lessG g i = ⟨g.n, g.s, g.t, g.ws.take i ++ g.ws.drop (i + 1)⟩ := rfl
  have hA : (g.ws.take i).length = i := by rw [List.length_take]; omega
  have hB : (g.ws.drop (i + 1)).length = d := by rw [List.length_drop]; omega
  rw [hsh]
  clear hsh
  generalize g.ws.take i = A at *
  generalize g.ws.drop (i + 1) = B at *
  refine FSpec.of_body tok true Tryd.func53 rfl (by kernel_rfl) (by decide) (by simp [tupA, hpLt, tmLt, AV.lt, AE.lt, AC.lt, LL_cons, LL_nil, idOk, ABlk.lt, ints_LL, GB, tab64_LL, gC, wB, giC, noneB, gst, tC, pC, gN, gR, rC, rB, tameH, tameR]) (by simp [tupA, hpLt, tmLt, AV.lt, AE.lt, AC.lt, LL_cons, LL_nil, idOk, ABlk.lt, ints_LL, GB, tab64_LL, gC, wB, giC, noneB, gst, tC, pC, gN, gR, rC, rB, tameH, tameR]) (by show 2 ≤ _; decide) ?_
  refine Wk.on ?_
  simp only [Option.getD_some, Option.getD_none, Int.toNat_natCast, Int.toNat_zero, Nat.sub_zero, Nat.zero_add, Nat.zero_mul, e1, e2, e3, e4]
  refine ⟨⟨by omega, by omega, .inl (by omega)⟩, ?_⟩
  refine Wk.on ?_
  refine ⟨by rw [hl]; show 0 + i * 2 ≤ _; omega, ?_⟩
  refine Wk.on ?_
  refine ⟨⟨Nat.le_of_ble_eq_true rfl, by show (i : Int) * 16 ≤ _; omega, by omega⟩, fun h0 => ?_, fun h0 => ?_⟩
  · obtain rfl : A = [] := List.length_eq_zero_iff.1 (by omega)
    refine Wk.on ?_
    simp only [Option.getD_some, Option.getD_none, Int.toNat_natCast, Int.toNat_zero, Nat.sub_zero, Nat.zero_add, Nat.zero_mul, e1, e2, e3, e4]
    refine ⟨⟨by omega, by omega, .inl (by omega)⟩, ?_⟩
    refine Wk.on ?_
    refine ⟨by rw [hl]; show (i + 1) * 2 + d * 2 ≤ _; omega, ?_⟩
    refine Wk.on ?_
    refine ⟨⟨Nat.le_of_ble_eq_true rfl, by show (d : Int) * 16 ≤ _; omega, by omega⟩, fun h1 => ?_, fun h1 => ?_⟩
    · obtain rfl : B = [] := List.length_eq_zero_iff.1 (by omega)
      refine Wk.on ?_
      exact AH.Fin.nil [] ⟨rfl, rfl, rfl⟩ (by first | exact trivial | (simp [tupA, hpLt, tmLt, AV.lt, AE.lt, AC.lt, LL_cons, LL_nil, idOk, ABlk.lt, ints_LL, GB, tab64_LL, gC, wB, giC, noneB, gst, tC, pC, gN, gR, rC, rB, tameH, tameR]; done) | (simp [tupA, hpLt, tmLt, AV.lt, AE.lt, AC.lt, LL_cons, LL_nil, idOk, ABlk.lt, ints_LL, GB, tab64_LL, gC, wB, giC, noneB, gst, tC, pC, gN, gR, rC, rB, tameH, tameR, rdn, wrn]; done)) trivial trivial rfl (by simp [GB])
    · obtain ⟨v, vs, rfl⟩ : ∃ v vs, B = v :: vs := by
        cases B with
        | nil => simp at hB; omega
        | cons v vs => exact ⟨v, vs, rfl⟩
      obtain rfl : d = vs.length + 1 := by rw [← hB, List.length_cons]
      refine Wk.on ?_
      exact AH.Fin.new [4] _ _ ⟨rfl, rfl, rfl⟩ rfl ⟨by show some _ = some (ABlk.row 60 2 ((ints _).map _)); rw [ints_ren]; exact congrArg (fun l => some (ABlk.row 60 2 l)) e2, trivial⟩ rfl (by simp [tupA, hpLt, tmLt, AV.lt, AE.lt, AC.lt, LL_cons, LL_nil, idOk, ABlk.lt, ints_LL, GB, tab64_LL, gC, wB, giC, noneB, gst, tC, pC, gN, gR, rC, rB, tameH, tameR]) (by simp [tupA, hpLt, tmLt, AV.lt, AE.lt, AC.lt, LL_cons, LL_nil, idOk, ABlk.lt, ints_LL, GB, tab64_LL, gC, wB, giC, noneB, gst, tC, pC, gN, gR, rC, rB, tameH, tameR])
  · obtain ⟨v, vs, rfl⟩ : ∃ v vs, A = v :: vs := by
      cases A with
      | nil => simp at hA; omega
      | cons v vs => exact ⟨v, vs, rfl⟩
    refine Wk.on ?_
    simp only [Option.getD_some, Option.getD_none, Int.toNat_natCast, Int.toNat_zero, Nat.sub_zero, Nat.zero_add, Nat.zero_mul, e1, e2, e3, e4]
    refine ⟨⟨by omega, by omega, .inl (by omega)⟩, ?_⟩
    refine Wk.on ?_
    refine ⟨by rw [hl]; show (i + 1) * 2 + d * 2 ≤ _; omega, ?_⟩
    refine Wk.on ?_
    refine ⟨⟨Nat.le_of_ble_eq_true rfl, rfl, rfl, by rw [ints_len, fl_len, hA], by show ((i + d : Nat) : Int) * 16 ≤ _; omega, by omega⟩, ?_⟩
    refine Wk.on ?_
    have hlen : i + d = (vs ++ B).length + 1 := by rw [List.length_append, hB, ← hA, List.length_cons]; omega
    exact AH.Fin.new [5] _ _ ⟨by show _ = AV.g (gR ⟨g.n, g.s, g.t, (v :: vs) ++ B⟩ 1); rw [gR, show ((v :: vs) ++ B).length = i + d by rw [hlen]; rfl], rfl, rfl⟩ rfl ⟨by show some _ = some (ABlk.row 60 2 ((ints _).map _)); rw [ints_ren]; exact congrArg (fun l => some (ABlk.row 60 2 l)) ((congrArg (ints (fl (v :: vs)) ++ ·) e2).trans (fl_app _ _)), trivial⟩ rfl (by simp [tupA, hpLt, tmLt, AV.lt, AE.lt, AC.lt, LL_cons, LL_nil, idOk, ABlk.lt, ints_LL, GB, tab64_LL, gC, wB, giC, noneB, gst, tC, pC, gN, gR, rC, rB, tameH, tameR]) (by simp [tupA, hpLt, tmLt, AV.lt, AE.lt, AC.lt, LL_cons, LL_nil, idOk, ABlk.lt, ints_LL, GB, tab64_LL, gC, wB, giC, noneB, gst, tC, pC, gN, gR, rC, rB, tameH, tameR])
theorem own_nil {g : Gm} (h : g.ws = []) : FDet Tryd.prog 81 [.g (gC g 0)] [(0, wB g)] 1 (.g (gN g)) [] 1 := by
  have hlw : g.ws.length = 0 := by rw [h]; rfl
  have hl : (ints (fl g.ws)).length = g.ws.length * 2 := by rw [ints_len, fl_len]
  refine FSpec.of_body tok true Tryd.func81 rfl (by kernel_rfl) (by decide) (by simp [tupA, hpLt, tmLt, AV.lt, AE.lt, AC.lt, LL_cons, LL_nil, idOk, ABlk.lt, ints_LL, GB, tab64_LL, gC, wB, giC, noneB, gst, tC, pC, gN, gR, rC, rB, tameH, tameR]) (by simp [tupA, hpLt, tmLt, AV.lt, AE.lt, AC.lt, LL_cons, LL_nil, idOk, ABlk.lt, ints_LL, GB, tab64_LL, gC, wB, giC, noneB, gst, tC, pC, gN, gR, rC, rB, tameH, tameR]) (by show 1 ≤ _; decide) ?_
  refine Wk.on ?_
  simp only [Option.getD_some, Option.getD_none, Int.toNat_natCast, Int.toNat_zero, Nat.sub_zero, Nat.zero_add, Nat.zero_mul]
  refine ⟨⟨by omega, by omega, .inl (by omega)⟩, ?_⟩
  refine Wk.on ?_
  refine ⟨by rw [hl]; show 0 + _ * 2 ≤ _; omega, ?_⟩
  refine Wk.on ?_
  refine ⟨⟨Nat.le_of_ble_eq_true rfl, by show ((_ : Nat) : Int) * 16 ≤ _; omega, by omega⟩, fun h0 => ?_, fun h0 => by (exfalso; omega)⟩
  refine Wk.on ?_
  exact AH.Fin.nil [] ⟨rfl, rfl, rfl⟩ (by first | exact trivial | (simp [tupA, hpLt, tmLt, AV.lt, AE.lt, AC.lt, LL_cons, LL_nil, idOk, ABlk.lt, ints_LL, GB, tab64_LL, gC, wB, giC, noneB, gst, tC, pC, gN, gR, rC, rB, tameH, tameR]; done) | (simp [tupA, hpLt, tmLt, AV.lt, AE.lt, AC.lt, LL_cons, LL_nil, idOk, ABlk.lt, ints_LL, GB, tab64_LL, gC, wB, giC, noneB, gst, tC, pC, gN, gR, rC, rB, tameH, tameR, rdn, wrn]; done)) trivial trivial rfl (by simp [GB])
theorem own_nilN (g : Gm) : FDet Tryd.prog 81 [.g (gN g)] [] 0 (.g (gN g)) [] 0 := by
  refine FSpec.of_body tok true Tryd.func81 rfl (by kernel_rfl) (by decide) (by simp [tupA, hpLt, tmLt, AV.lt, AE.lt, AC.lt, LL_cons, LL_nil, idOk, ABlk.lt, ints_LL, GB, tab64_LL, gC, wB, giC, noneB, gst, tC, pC, gN, gR, rC, rB, tameH, tameR]) (by simp [tupA, hpLt, tmLt, AV.lt, AE.lt, AC.lt, LL_cons, LL_nil, idOk, ABlk.lt, ints_LL, GB, tab64_LL, gC, wB, giC, noneB, gst, tC, pC, gN, gR, rC, rB, tameH, tameR]) (by show 1 ≤ _; decide) ?_
  refine Wk.on ?_
  exact AH.Fin.nil [] ⟨rfl, rfl, rfl⟩ (by first | exact trivial | (simp [tupA, hpLt, tmLt, AV.lt, AE.lt, AC.lt, LL_cons, LL_nil, idOk, ABlk.lt, ints_LL, GB, tab64_LL, gC, wB, giC, noneB, gst, tC, pC, gN, gR, rC, rB, tameH, tameR]; done) | (simp [tupA, hpLt, tmLt, AV.lt, AE.lt, AC.lt, LL_cons, LL_nil, idOk, ABlk.lt, ints_LL, GB, tab64_LL, gC, wB, giC, noneB, gst, tC, pC, gN, gR, rC, rB, tameH, tameR, rdn, wrn]; done)) trivial trivial rfl (by simp [GB])
theorem own_rs {g : Gm} (h : 0 < g.ws.length) (hl10 : g.ws.length ≤ 10) : FDet Tryd.prog 81 [.g (gC g 0)] [(0, wB g)] 1 (.g (gC g 1)) [(1, .row 60 2 (ints (fl g.ws)))] 2 := by
  have hl : (ints (fl g.ws)).length = g.ws.length * 2 := by rw [ints_len, fl_len]
  have hm : (min (g.ws.length : Int) 11).toNat = g.ws.length := by omega
  have e1 := flc_take g.ws g.ws.length 0
  rw [List.take_length] at e1
  refine FDet.post (r := .g (gR g 1)) (hq := [(1, .row 60 2 (ints (fl g.ws)))]) (k' := 2) ?_ _ _ (.inr ⟨rfl, rfl, rfl, ⟨⟨rfl, rfl, rfl⟩, trivial⟩, trivial⟩) ⟨⟨⟨rfl, rfl⟩, .inl rfl⟩, trivial⟩ (gC_LL (.inl (by decide))) (by simp [tupA, hpLt, tmLt, AV.lt, AE.lt, AC.lt, LL_cons, LL_nil, idOk, ABlk.lt, ints_LL, GB, tab64_LL, gC, wB, giC, noneB, gst, tC, pC, gN, gR, rC, rB, tameH, tameR]) rfl
  show FDet _ _ _ _ _ _ _ _
  refine FSpec.of_body tok true Tryd.func81 rfl (by kernel_rfl) (by decide) (by simp [tupA, hpLt, tmLt, AV.lt, AE.lt, AC.lt, LL_cons, LL_nil, idOk, ABlk.lt, ints_LL, GB, tab64_LL, gC, wB, giC, noneB, gst, tC, pC, gN, gR, rC, rB, tameH, tameR]) (by simp [tupA, hpLt, tmLt, AV.lt, AE.lt, AC.lt, LL_cons, LL_nil, idOk, ABlk.lt, ints_LL, GB, tab64_LL, gC, wB, giC, noneB, gst, tC, pC, gN, gR, rC, rB, tameH, tameR]) (by show 1 ≤ _; decide) ?_
  refine Wk.on ?_
  simp only [Option.getD_some, Option.getD_none, Int.toNat_natCast, Int.toNat_zero, Nat.sub_zero, Nat.zero_add, Nat.zero_mul]
  rw [hm]
  refine ⟨⟨by omega, by omega, .inl (by omega)⟩, ?_⟩
  refine Wk.on ?_
  refine ⟨by rw [hl]; show 0 + _ * 2 ≤ _; omega, ?_⟩
  refine Wk.on ?_
  refine ⟨⟨Nat.le_of_ble_eq_true rfl, by show ((g.ws.length : Nat) : Int) * 16 ≤ _; omega, by omega⟩, fun h0 => by (exfalso; omega), fun h0 => ?_⟩
  refine Wk.on ?_
  exact AH.Fin.new [4] _ _ ⟨rfl, rfl, rfl⟩ rfl ⟨by show some _ = some (ABlk.row 60 2 ((ints _).map _)); rw [ints_ren]; exact congrArg (fun l => some (ABlk.row 60 2 l)) e1, trivial⟩ rfl (by simp [tupA, hpLt, tmLt, AV.lt, AE.lt, AC.lt, LL_cons, LL_nil, idOk, ABlk.lt, ints_LL, GB, tab64_LL, gC, wB, giC, noneB, gst, tC, pC, gN, gR, rC, rB, tameH, tameR]) (by simp [tupA, hpLt, tmLt, AV.lt, AE.lt, AC.lt, LL_cons, LL_nil, idOk, ABlk.lt, ints_LL, GB, tab64_LL, gC, wB, giC, noneB, gst, tC, pC, gN, gR, rC, rB, tameH, tameR])
theorem rdn_fl2 (V : List (Nat × Nat)) (i : Nat) : rdn (ints (fl V)) (i * 2) [.int .i64 0, .int .i64 0] = [.int .i64 ((V.getD i (0, 0)).1 : Nat), .int .i64 ((V.getD i (0, 0)).2 : Nat)] := by
  have := wgetW V i
  rw [Nat.zero_add] at this
  exact this
theorem sameR_nil (g : Gm) : FDet Tryd.prog 80 [.g (gN g), .g (gN g)] [] 0 (.c (.bool true)) [] 0 := by
  refine FSpec.of_body tok true Tryd.func80 rfl (by kernel_rfl) (by decide) (by simp [tupA, hpLt, tmLt, AV.lt, AE.lt, AC.lt, LL_cons, LL_nil, idOk, ABlk.lt, ints_LL, GB, tab64_LL, gC, wB, giC, noneB, gst, tC, pC, gN, gR, rC, rB, tameH, tameR]) (by simp [tupA, hpLt, tmLt, AV.lt, AE.lt, AC.lt, LL_cons, LL_nil, idOk, ABlk.lt, ints_LL, GB, tab64_LL, gC, wB, giC, noneB, gst, tC, pC, gN, gR, rC, rB, tameH, tameR]) (by show 2 ≤ _; decide) ?_
  refine Wk.on ?_
  rw [decide_eq_false (show ¬ (((g.n : Int) : Int) ≠ ((g.n : Int) : Int)) from fun h => h rfl)]
  refine Wk.on ?_
  rw [decide_eq_false (show ¬ (((g.s : Int) : Int) ≠ ((g.s : Int) : Int)) from fun h => h rfl)]
  refine Wk.on ?_
  rw [decide_eq_false (show ¬ (((g.t : Int) : Int) ≠ ((g.t : Int) : Int)) from fun h => h rfl)]
  refine Wk.on ?_
  refine Tr.loop (md := true) (X := Unit) (st := fun _ => ⟨[(2, .c (.ptr 0 0)), (3, .c (.ptr 1 0)), (5, .c (.int .i64 0))], [(1, .own (gN g)), (0, .own (gN g))], 2, 52, 0⟩) (inv := fun _ => True) (μ := fun _ => 0) (x0 := ()) (l := []) tok trivial ?_ ?_
  · exact Sub.nil ⟨rfl, rfl, (by simp [tab64_LL, gC, wB, giC, noneB, gst, tC, pC, gN, gR, rC, rB, tameH, tameR]), rfl, (by simp [tupA, hpLt, tmLt, AV.lt, AE.lt, AC.lt, LL_cons, LL_nil, idOk, ABlk.lt, ints_LL, GB, tab64_LL, gC, wB, giC, noneB, gst, tC, pC, gN, gR, rC, rB, tameH, tameR]), (by simp [tupA, hpLt, tmLt, AV.lt, AE.lt, AC.lt, LL_cons, LL_nil, idOk, ABlk.lt, ints_LL, GB, tab64_LL, gC, wB, giC, noneB, gst, tC, pC, gN, gR, rC, rB, tameH, tameR])⟩ (by (repeat (first | exact trivial | refine ⟨trivial, ?_⟩ | refine ⟨rfl, ?_⟩))) (by (repeat (first | exact trivial | refine ⟨trivial, ?_⟩ | refine ⟨rfl, ?_⟩)))
  · intro _ _
    refine Wk.on ?_
    exact AH.Fin.nil [] ⟨rfl, rfl, rfl⟩ (by first | exact trivial | (simp [tupA, hpLt, tmLt, AV.lt, AE.lt, AC.lt, LL_cons, LL_nil, idOk, ABlk.lt, ints_LL, GB, tab64_LL, gC, wB, giC, noneB, gst, tC, pC, gN, gR, rC, rB, tameH, tameR]; done) | (simp [tupA, hpLt, tmLt, AV.lt, AE.lt, AC.lt, LL_cons, LL_nil, idOk, ABlk.lt, ints_LL, GB, tab64_LL, gC, wB, giC, noneB, gst, tC, pC, gN, gR, rC, rB, tameH, tameR, rdn, wrn]; done)) trivial trivial rfl (by simp [GB])
theorem sameR_rs {g : Gm} (hg : g.ok) : FDet Tryd.prog 80 [.g (gC g 0), .g (gC g 1)] [(0, wB g), (1, wB g)] 2 (.c (.bool true)) [] 2 := by
  have hl : (ints (fl g.ws)).length = g.ws.length * 2 := by rw [ints_len, fl_len]
  have h8 := hg.n8
  have hl10 := hg.len
  refine FSpec.of_body tok true Tryd.func80 rfl (by kernel_rfl) (by decide) (by simp [tupA, hpLt, tmLt, AV.lt, AE.lt, AC.lt, LL_cons, LL_nil, idOk, ABlk.lt, ints_LL, GB, tab64_LL, gC, wB, giC, noneB, gst, tC, pC, gN, gR, rC, rB, tameH, tameR]) (by simp [tupA, hpLt, tmLt, AV.lt, AE.lt, AC.lt, LL_cons, LL_nil, idOk, ABlk.lt, ints_LL, GB, tab64_LL, gC, wB, giC, noneB, gst, tC, pC, gN, gR, rC, rB, tameH, tameR]) (by show 2 ≤ _; decide) ?_
  refine Wk.on ?_
  rw [decide_eq_false (show ¬ (((g.n : Int) : Int) ≠ ((g.n : Int) : Int)) from fun h => h rfl)]
  refine Wk.on ?_
  rw [decide_eq_false (show ¬ (((g.s : Int) : Int) ≠ ((g.s : Int) : Int)) from fun h => h rfl)]
  refine Wk.on ?_
  rw [decide_eq_false (show ¬ (((g.t : Int) : Int) ≠ ((g.t : Int) : Int)) from fun h => h rfl)]
  refine Wk.on ?_
  rw [decide_eq_false (show ¬ (((g.ws.length : Nat) : Int) ≠ ((g.ws.length : Nat) : Int)) from fun h => h rfl)]
  refine Wk.on ?_
  intro _
  refine Wk.on ?_
  refine Tr.loop (md := true) (X := Nat) (st := fun i => ⟨[(2, .c (.ptr 2 0)), (3, .c (.ptr 3 0)), (5, .c (.int .i64 i))], [(3, .own (gC g 1)), (2, .own (gC g 0)), (0, wB g), (1, wB g)], 4, 52, 2⟩) (inv := fun i => i ≤ g.ws.length) (μ := fun i => g.ws.length - i) (x0 := 0) (l := []) tok (Nat.zero_le _) ?_ ?_
  · exact Sub.nil ⟨rfl, rfl, (by simp [tab64_LL, gC, wB, giC, noneB, gst, tC, pC, gN, gR, rC, rB, tameH, tameR]), rfl, (by simp [tupA, hpLt, tmLt, AV.lt, AE.lt, AC.lt, LL_cons, LL_nil, idOk, ABlk.lt, ints_LL, GB, tab64_LL, gC, wB, giC, noneB, gst, tC, pC, gN, gR, rC, rB, tameH, tameR]), (by simp [tupA, hpLt, tmLt, AV.lt, AE.lt, AC.lt, LL_cons, LL_nil, idOk, ABlk.lt, ints_LL, GB, tab64_LL, gC, wB, giC, noneB, gst, tC, pC, gN, gR, rC, rB, tameH, tameR])⟩ (by (repeat (first | exact trivial | refine ⟨trivial, ?_⟩ | refine ⟨rfl, ?_⟩))) (by (repeat (first | exact trivial | refine ⟨trivial, ?_⟩ | refine ⟨rfl, ?_⟩)))
  · intro i hi
    by_cases hil : i < g.ws.length
    · have hr := rdn_fl2 g.ws i
      have hen := hg.ends i hil
      generalize g.ws.getD i (0, 0) = w at *
      refine Wk.on ?_
      rw [decide_eq_true (show ((i : Nat) : Int) < ((g.ws.length : Nat) : Int) by omega)]
      refine Wk.on ?_
      refine Tr.draw (md := true) [⟨[], [43, 46, 47, 48, 49, 50], [], [], []⟩, ⟨[0], [43, 46, 47, 48, 49, 50], [], [], []⟩, ⟨[], [41, 42, 46, 47, 48, 49, 50], [0, 1], [], []⟩, ⟨[0, 1, 2], [46, 47, 48, 49, 50], [], [], []⟩, ⟨[0, 1, 2, 3], [46, 47, 48, 49, 50], [], [], []⟩, ⟨[], [41, 42, 43, 44, 45, 48], [0, 1, 2, 3, 4], [], []⟩, ⟨[5], [41, 42, 43, 44, 45, 48], [0, 1, 2, 3, 4], [], []⟩, ⟨[], [41, 42, 43, 44, 45, 46, 47], [0, 1, 2, 3, 4, 5, 6], [], []⟩, ⟨[5, 6, 7], [41, 42, 43, 44, 45], [0, 1, 2, 3, 4], [], []⟩, ⟨[5, 6, 7, 8], [41, 42, 43, 44, 45], [0, 1, 2, 3, 4], [], []⟩] tok (by kernel_rfl) (by kernel_rfl) ?_
      refine Wk.on ?_
      refine ⟨⟨by rw [hl, Int.toNat_natCast]; show 0 + i * 2 + 2 ≤ _; omega, rfl⟩, ?_⟩
      rw [Int.toNat_natCast, Nat.zero_add]
      rw [show rdn (ints (fl g.ws)) (i * 2) [.int .i64 0, .int .i64 0] = _ from hr]
      refine Wk.on ?_
      refine ⟨⟨by rw [hl, Int.toNat_natCast]; show 0 + i * 2 + 2 ≤ _; omega, rfl⟩, ?_⟩
      rw [Int.toNat_natCast, Nat.zero_add]
      rw [show rdn (ints (fl g.ws)) (i * 2) [.int .i64 0, .int .i64 0] = _ from hr]
      refine Wk.on ?_
      refine ⟨⟨⟨ok1 (by omega) (by omega), ok1 (by omega) (by omega), trivial⟩, ⟨ok1 (by omega) (by omega), ok1 (by omega) (by omega), trivial⟩⟩, ?_⟩
      rw [show eqL [.int .i64 (w.1 : Nat), .int .i64 (w.2 : Nat)] [.int .i64 (w.1 : Nat), .int .i64 (w.2 : Nat)] = some true by
        show some (decide _ && (decide _ && true)) = some true
        rw [decide_eq_true rfl, decide_eq_true rfl]; rfl]
      refine Wk.on ?_
      refine Again.mk (i + 1) (Sub.nil ⟨rfl, rfl, (by simp [tab64_LL, gC, wB, giC, noneB, gst, tC, pC, gN, gR, rC, rB, tameH, tameR]), rfl, (by simp [tupA, hpLt, tmLt, AV.lt, AE.lt, AC.lt, LL_cons, LL_nil, idOk, ABlk.lt, ints_LL, GB, tab64_LL, gC, wB, giC, noneB, gst, tC, pC, gN, gR, rC, rB, tameH, tameR]), (by simp [tupA, hpLt, tmLt, AV.lt, AE.lt, AC.lt, LL_cons, LL_nil, idOk, ABlk.lt, ints_LL, GB, tab64_LL, gC, wB, giC, noneB, gst, tC, pC, gN, gR, rC, rB, tameH, tameR])⟩ (by (repeat (first | exact trivial | refine ⟨trivial, ?_⟩ | refine ⟨rfl, ?_⟩))) (by (repeat (first | exact trivial | refine ⟨trivial, ?_⟩ | refine ⟨rfl, ?_⟩)))) (by omega) (by omega)
    · refine Wk.on ?_
      rw [decide_eq_false (show ¬ ((i : Nat) : Int) < ((g.ws.length : Nat) : Int) by omega)]
      refine Wk.on ?_
      exact AH.Fin.nil [] ⟨rfl, rfl, rfl⟩ (by first | exact trivial | (simp [tupA, hpLt, tmLt, AV.lt, AE.lt, AC.lt, LL_cons, LL_nil, idOk, ABlk.lt, ints_LL, GB, tab64_LL, gC, wB, giC, noneB, gst, tC, pC, gN, gR, rC, rB, tameH, tameR]; done) | (simp [tupA, hpLt, tmLt, AV.lt, AE.lt, AC.lt, LL_cons, LL_nil, idOk, ABlk.lt, ints_LL, GB, tab64_LL, gC, wB, giC, noneB, gst, tC, pC, gN, gR, rC, rB, tameH, tameR, rdn, wrn]; done)) trivial trivial rfl (by simp [GB])
theorem gC_all {g : Gm} {id : Nat} {p : Nat → Prop} (h : p id) : LA p (gC g id) := by
  intro x hx
  simp only [gC, List.mem_cons, List.not_mem_nil, or_false] at hx
  rcases hx with rfl | rfl | rfl | rfl
  · trivial
  · trivial
  · trivial
  · exact h
theorem same_rs {g : Gm} (hg : g.ok) (h : 0 < g.ws.length) : FDet Tryd.prog 38 [.g (gC g 0), .g (gC g 1)] [(0, wB g), (1, wB g)] 2 (.c (.bool true)) [] 2 := by
  have hl10 := hg.len
  have ho := own_rs h hl10
  refine FSpec.of_body tok true Tryd.func38 rfl (by kernel_rfl) (by decide) (by simp [tupA, hpLt, tmLt, AV.lt, AE.lt, AC.lt, LL_cons, LL_nil, idOk, ABlk.lt, ints_LL, GB, tab64_LL, gC, wB, giC, noneB, gst, tC, pC, gN, gR, rC, rB, tameH, tameR]) (by simp [tupA, hpLt, tmLt, AV.lt, AE.lt, AC.lt, LL_cons, LL_nil, idOk, ABlk.lt, ints_LL, GB, tab64_LL, gC, wB, giC, noneB, gst, tC, pC, gN, gR, rC, rB, tameH, tameR]) (by show 2 ≤ _; decide) ?_
  refine Wk.on ?_
  refine Tr.draw (md := true) [⟨[], [], [], [], []⟩, ⟨[0], [], [], [], []⟩, ⟨[0, 1], [], [], [], []⟩, ⟨[0, 1, 2], [], [], [], []⟩, ⟨[0, 1, 2, 3], [], [], [], []⟩, ⟨[0, 1, 2, 3, 4], [12], [], [], []⟩, ⟨[0, 1, 2, 3, 4, 5], [12], [], [], []⟩, ⟨[0, 1, 2, 3, 4], [10, 11], [5, 6], [], []⟩] tok (by kernel_rfl) (by kernel_rfl) ?_
  refine Wk.on ?_
  rw [decide_eq_true (show ((g.ws.length : Nat) : Int) ≤ 10 by omega)]
  refine Wk.on ?_
  refine CallQ.new [0] (.g (gC g 4)) ([(4, .row 60 2 (ints (fl g.ws)))]) (ho) (by first | rfl | exact congrArg AV.g (ints_ren _ _) | (simp [ints_ren, AV.ren, ABlk.ren, AC.ren, AE.ren, qq]; done)) rfl (by (repeat (first | exact trivial | refine ⟨⟨(by first | exact .inl (by decide) | exact .inr (by decide)), (by first | (refine Or.inl ?_; first | rfl | exact congrArg some (ints_ren _ _).symm | exact congrArg ABlk.own (ints_ren _ _).symm | exact congrArg some (tab64_ren _).symm | exact congrArg (ABlk.row _ _) (ints_ren _ _).symm) | rfl | exact congrArg some (ints_ren _ _).symm | exact congrArg ABlk.own (ints_ren _ _).symm | exact congrArg some (tab64_ren _).symm | exact congrArg (ABlk.row _ _) (ints_ren _ _).symm | exact Or.inr ⟨rfl, rfl⟩)⟩, ?_⟩))) (by first | rfl | exact congrArg AV.g (ints_ren _ _) | (simp [ints_ren, AV.ren, ABlk.ren, AC.ren, AE.ren, qq]; done)) (by first | rfl | (simp [behind, gone, lk, up, del, qq, ABlk.wr, GB, ints_ren, AV.ren, ABlk.ren, AC.ren, AE.ren]; done) | (simp [behind, gone, lk, up, del, qq, ABlk.wr, GB, ints_ren, AV.ren, ABlk.ren, AC.ren, AE.ren]; rfl)) ?_
  refine Wk.on ?_
  refine ⟨⟨gC_all (g := g) (id := 1) (avB_sound (by rfl)), fun q hq => absurd hq List.not_mem_nil⟩, ?_⟩
  refine Wk.on ?_
  refine CallA.ro [4, 1] (.c (.bool true)) (sameR_rs hg) (by first | rfl | exact congrArg AV.g (ints_ren _ _) | (simp [ints_ren, AV.ren, ABlk.ren, AC.ren, AE.ren, qq]; done)) rfl (by (repeat (first | exact trivial | refine ⟨⟨(by first | exact .inl (by decide) | exact .inr (by decide)), (by first | (refine Or.inl ?_; first | rfl | exact congrArg some (ints_ren _ _).symm | exact congrArg ABlk.own (ints_ren _ _).symm | exact congrArg some (tab64_ren _).symm | exact congrArg (ABlk.row _ _) (ints_ren _ _).symm) | rfl | exact congrArg some (ints_ren _ _).symm | exact congrArg ABlk.own (ints_ren _ _).symm | exact congrArg some (tab64_ren _).symm | exact congrArg (ABlk.row _ _) (ints_ren _ _).symm | exact Or.inr ⟨rfl, rfl⟩)⟩, ?_⟩))) (by first | rfl | exact congrArg AV.g (ints_ren _ _) | (simp [ints_ren, AV.ren, ABlk.ren, AC.ren, AE.ren, qq]; done)) ?_
  refine Wk.on ?_
  exact AH.Fin.nil [] ⟨rfl, rfl, rfl⟩ (by first | exact trivial | (simp [tupA, hpLt, tmLt, AV.lt, AE.lt, AC.lt, LL_cons, LL_nil, idOk, ABlk.lt, ints_LL, GB, tab64_LL, gC, wB, giC, noneB, gst, tC, pC, gN, gR, rC, rB, tameH, tameR]; done) | (simp [tupA, hpLt, tmLt, AV.lt, AE.lt, AC.lt, LL_cons, LL_nil, idOk, ABlk.lt, ints_LL, GB, tab64_LL, gC, wB, giC, noneB, gst, tC, pC, gN, gR, rC, rB, tameH, tameR, rdn, wrn]; done)) trivial trivial rfl (by simp [GB])
theorem same_nil {g : Gm} (h : g.ws = []) : FDet Tryd.prog 38 [.g (gC g 0), .g (gN g)] [(0, wB g)] 1 (.c (.bool true)) [] 1 := by
  have hl : g.ws.length = 0 := by rw [h]; rfl
  refine FSpec.of_body tok true Tryd.func38 rfl (by kernel_rfl) (by decide) (by simp [tupA, hpLt, tmLt, AV.lt, AE.lt, AC.lt, LL_cons, LL_nil, idOk, ABlk.lt, ints_LL, GB, tab64_LL, gC, wB, giC, noneB, gst, tC, pC, gN, gR, rC, rB, tameH, tameR]) (by simp [tupA, hpLt, tmLt, AV.lt, AE.lt, AC.lt, LL_cons, LL_nil, idOk, ABlk.lt, ints_LL, GB, tab64_LL, gC, wB, giC, noneB, gst, tC, pC, gN, gR, rC, rB, tameH, tameR]) (by show 2 ≤ _; decide) ?_
  refine Wk.on ?_
  refine Tr.draw (md := true) [⟨[], [], [], [], []⟩, ⟨[0], [], [], [], []⟩, ⟨[0, 1], [], [], [], []⟩, ⟨[0, 1, 2], [], [], [], []⟩, ⟨[0, 1, 2, 3], [], [], [], []⟩, ⟨[0, 1, 2, 3, 4], [12], [], [], []⟩, ⟨[0, 1, 2, 3, 4, 5], [12], [], [], []⟩, ⟨[0, 1, 2, 3, 4], [10, 11], [5, 6], [], []⟩] tok (by kernel_rfl) (by kernel_rfl) ?_
  refine Wk.on ?_
  rw [decide_eq_true (show ((g.ws.length : Nat) : Int) ≤ 10 by omega)]
  refine Wk.on ?_
  refine CallQ.ro [0] (.g (gN g)) (own_nil h) (by first | rfl | exact congrArg AV.g (ints_ren _ _) | (simp [ints_ren, AV.ren, ABlk.ren, AC.ren, AE.ren, qq]; done)) rfl (by (repeat (first | exact trivial | refine ⟨⟨(by first | exact .inl (by decide) | exact .inr (by decide)), (by first | (refine Or.inl ?_; first | rfl | exact congrArg some (ints_ren _ _).symm | exact congrArg ABlk.own (ints_ren _ _).symm | exact congrArg some (tab64_ren _).symm | exact congrArg (ABlk.row _ _) (ints_ren _ _).symm) | rfl | exact congrArg some (ints_ren _ _).symm | exact congrArg ABlk.own (ints_ren _ _).symm | exact congrArg some (tab64_ren _).symm | exact congrArg (ABlk.row _ _) (ints_ren _ _).symm | exact Or.inr ⟨rfl, rfl⟩)⟩, ?_⟩))) (by first | rfl | exact congrArg AV.g (ints_ren _ _) | (simp [ints_ren, AV.ren, ABlk.ren, AC.ren, AE.ren, qq]; done)) ?_
  refine Wk.on ?_
  refine CallA.ro [] (.c (.bool true)) (sameR_nil g) (by first | rfl | exact congrArg AV.g (ints_ren _ _) | (simp [ints_ren, AV.ren, ABlk.ren, AC.ren, AE.ren, qq]; done)) rfl (by (repeat (first | exact trivial | refine ⟨⟨(by first | exact .inl (by decide) | exact .inr (by decide)), (by first | (refine Or.inl ?_; first | rfl | exact congrArg some (ints_ren _ _).symm | exact congrArg ABlk.own (ints_ren _ _).symm | exact congrArg some (tab64_ren _).symm | exact congrArg (ABlk.row _ _) (ints_ren _ _).symm) | rfl | exact congrArg some (ints_ren _ _).symm | exact congrArg ABlk.own (ints_ren _ _).symm | exact congrArg some (tab64_ren _).symm | exact congrArg (ABlk.row _ _) (ints_ren _ _).symm | exact Or.inr ⟨rfl, rfl⟩)⟩, ?_⟩))) (by first | rfl | exact congrArg AV.g (ints_ren _ _) | (simp [ints_ren, AV.ren, ABlk.ren, AC.ren, AE.ren, qq]; done)) ?_
  refine Wk.on ?_
  exact AH.Fin.nil [] ⟨rfl, rfl, rfl⟩ (by first | exact trivial | (simp [tupA, hpLt, tmLt, AV.lt, AE.lt, AC.lt, LL_cons, LL_nil, idOk, ABlk.lt, ints_LL, GB, tab64_LL, gC, wB, giC, noneB, gst, tC, pC, gN, gR, rC, rB, tameH, tameR]; done) | (simp [tupA, hpLt, tmLt, AV.lt, AE.lt, AC.lt, LL_cons, LL_nil, idOk, ABlk.lt, ints_LL, GB, tab64_LL, gC, wB, giC, noneB, gst, tC, pC, gN, gR, rC, rB, tameH, tameR, rdn, wrn]; done)) trivial trivial rfl (by simp [GB])
theorem same_NN (g : Gm) : FDet Tryd.prog 38 [.g (gN g), .g (gN g)] [] 0 (.c (.bool true)) [] 0 := by
  refine FSpec.of_body tok true Tryd.func38 rfl (by kernel_rfl) (by decide) (by simp [tupA, hpLt, tmLt, AV.lt, AE.lt, AC.lt, LL_cons, LL_nil, idOk, ABlk.lt, ints_LL, GB, tab64_LL, gC, wB, giC, noneB, gst, tC, pC, gN, gR, rC, rB, tameH, tameR]) (by simp [tupA, hpLt, tmLt, AV.lt, AE.lt, AC.lt, LL_cons, LL_nil, idOk, ABlk.lt, ints_LL, GB, tab64_LL, gC, wB, giC, noneB, gst, tC, pC, gN, gR, rC, rB, tameH, tameR]) (by show 2 ≤ _; decide) ?_
  refine Wk.on ?_
  refine Tr.draw (md := true) [⟨[], [], [], [], []⟩, ⟨[0], [], [], [], []⟩, ⟨[0, 1], [], [], [], []⟩, ⟨[0, 1, 2], [], [], [], []⟩, ⟨[0, 1, 2, 3], [], [], [], []⟩, ⟨[0, 1, 2, 3, 4], [12], [], [], []⟩, ⟨[0, 1, 2, 3, 4, 5], [12], [], [], []⟩, ⟨[0, 1, 2, 3, 4], [10, 11], [5, 6], [], []⟩] tok (by kernel_rfl) (by kernel_rfl) ?_
  refine Wk.on ?_
  refine CallQ.ro [] (.g (gN g)) (own_nilN g) (by first | rfl | exact congrArg AV.g (ints_ren _ _) | (simp [ints_ren, AV.ren, ABlk.ren, AC.ren, AE.ren, qq]; done)) rfl (by (repeat (first | exact trivial | refine ⟨⟨(by first | exact .inl (by decide) | exact .inr (by decide)), (by first | (refine Or.inl ?_; first | rfl | exact congrArg some (ints_ren _ _).symm | exact congrArg ABlk.own (ints_ren _ _).symm | exact congrArg some (tab64_ren _).symm | exact congrArg (ABlk.row _ _) (ints_ren _ _).symm) | rfl | exact congrArg some (ints_ren _ _).symm | exact congrArg ABlk.own (ints_ren _ _).symm | exact congrArg some (tab64_ren _).symm | exact congrArg (ABlk.row _ _) (ints_ren _ _).symm | exact Or.inr ⟨rfl, rfl⟩)⟩, ?_⟩))) (by first | rfl | exact congrArg AV.g (ints_ren _ _) | (simp [ints_ren, AV.ren, ABlk.ren, AC.ren, AE.ren, qq]; done)) ?_
  refine Wk.on ?_
  refine CallA.ro [] (.c (.bool true)) (sameR_nil g) (by first | rfl | exact congrArg AV.g (ints_ren _ _) | (simp [ints_ren, AV.ren, ABlk.ren, AC.ren, AE.ren, qq]; done)) rfl (by (repeat (first | exact trivial | refine ⟨⟨(by first | exact .inl (by decide) | exact .inr (by decide)), (by first | (refine Or.inl ?_; first | rfl | exact congrArg some (ints_ren _ _).symm | exact congrArg ABlk.own (ints_ren _ _).symm | exact congrArg some (tab64_ren _).symm | exact congrArg (ABlk.row _ _) (ints_ren _ _).symm) | rfl | exact congrArg some (ints_ren _ _).symm | exact congrArg ABlk.own (ints_ren _ _).symm | exact congrArg some (tab64_ren _).symm | exact congrArg (ABlk.row _ _) (ints_ren _ _).symm | exact Or.inr ⟨rfl, rfl⟩)⟩, ?_⟩))) (by first | rfl | exact congrArg AV.g (ints_ren _ _) | (simp [ints_ren, AV.ren, ABlk.ren, AC.ren, AE.ren, qq]; done)) ?_
  refine Wk.on ?_
  exact AH.Fin.nil [] ⟨rfl, rfl, rfl⟩ (by first | exact trivial | (simp [tupA, hpLt, tmLt, AV.lt, AE.lt, AC.lt, LL_cons, LL_nil, idOk, ABlk.lt, ints_LL, GB, tab64_LL, gC, wB, giC, noneB, gst, tC, pC, gN, gR, rC, rB, tameH, tameR]; done) | (simp [tupA, hpLt, tmLt, AV.lt, AE.lt, AC.lt, LL_cons, LL_nil, idOk, ABlk.lt, ints_LL, GB, tab64_LL, gC, wB, giC, noneB, gst, tC, pC, gN, gR, rC, rB, tameH, tameR, rdn, wrn]; done)) trivial trivial rfl (by simp [GB])
end Go.Proofs.YtfphkpdobbffeaaDoor

/-
  Contracts: the reference's game in which a wire is made short.
-/
namespace Go.Proofs.YtfphkpdobbffeaaDoor
open Go Go.AH Go.Wire
set_option maxRecDepth 100000
set_option maxHeartbeats 1000000

theorem become_spec (x a b : Nat) (hx : x < 1000) : FDet Tryd.prog 91 [.c (.int .i64 x), .c (.int .i64 a), .c (.int .i64 b)] [] 0 (.c (.int .i64 (plc a b x : Nat))) [] 0 := by
  refine FSpec.of_body tok true Tryd.func91 rfl (by kernel_rfl) (by decide) (by simp [tupA, hpLt, tmLt, AV.lt, AE.lt, AC.lt, LL_cons, LL_nil, idOk, ABlk.lt, ints_LL, GB, tab64_LL, gC, wB, giC, noneB, gst, tC, pC, gN, gR, rC, rB, gO, gOH, gOK, tameH, tameR]) (by simp [tupA, hpLt, tmLt, AV.lt, AE.lt, AC.lt, LL_cons, LL_nil, idOk, ABlk.lt, ints_LL, GB, tab64_LL, gC, wB, giC, noneB, gst, tC, pC, gN, gR, rC, rB, gO, gOH, gOK, tameH, tameR]) (by show 3 ≤ _; decide) ?_
  refine Wk.on ?_
  by_cases h1 : x = b
  · rw [decide_eq_true (show (x : Int) = (b : Int) by omega)]
    refine Wk.on ?_
    exact AH.Fin.nil [] ⟨by rw [plc, if_pos h1]; rfl, rfl, rfl⟩ (by first | exact trivial | (simp [tupA, hpLt, tmLt, AV.lt, AE.lt, AC.lt, LL_cons, LL_nil, idOk, ABlk.lt, ints_LL, GB, tab64_LL, gC, wB, giC, noneB, gst, tC, pC, gN, gR, rC, rB, gO, gOH, gOK, tameH, tameR]; done) | (simp [tupA, hpLt, tmLt, AV.lt, AE.lt, AC.lt, LL_cons, LL_nil, idOk, ABlk.lt, ints_LL, GB, tab64_LL, gC, wB, giC, noneB, gst, tC, pC, gN, gR, rC, rB, gO, gOH, gOK, tameH, tameR, rdn, wrn]; done)) trivial trivial rfl (by simp [GB])
  · rw [decide_eq_false (show ¬ (x : Int) = (b : Int) by omega)]
    refine Wk.on ?_
    by_cases h2 : b < x
    · rw [decide_eq_true (show (b : Int) < (x : Int) by omega)]
      refine Wk.on ?_
      have e : ((x - 1 : Nat) : Int) = (x : Int) - 1 := by omega
      exact AH.Fin.nil [] ⟨by rw [plc, if_neg h1, if_pos h2, e]; rfl, rfl, rfl⟩ (by first | exact trivial | (simp [tupA, hpLt, tmLt, AV.lt, AE.lt, AC.lt, LL_cons, LL_nil, idOk, ABlk.lt, ints_LL, GB, tab64_LL, gC, wB, giC, noneB, gst, tC, pC, gN, gR, rC, rB, gO, gOH, gOK, tameH, tameR]; done) | (simp [tupA, hpLt, tmLt, AV.lt, AE.lt, AC.lt, LL_cons, LL_nil, idOk, ABlk.lt, ints_LL, GB, tab64_LL, gC, wB, giC, noneB, gst, tC, pC, gN, gR, rC, rB, gO, gOH, gOK, tameH, tameR, rdn, wrn]; done)) trivial trivial rfl (by simp [GB])
    · rw [decide_eq_false (show ¬ (b : Int) < (x : Int) by omega)]
      refine Wk.on ?_
      exact AH.Fin.nil [] ⟨by rw [plc, if_neg h1, if_neg h2]; rfl, rfl, rfl⟩ (by first | exact trivial | (simp [tupA, hpLt, tmLt, AV.lt, AE.lt, AC.lt, LL_cons, LL_nil, idOk, ABlk.lt, ints_LL, GB, tab64_LL, gC, wB, giC, noneB, gst, tC, pC, gN, gR, rC, rB, gO, gOH, gOK, tameH, tameR]; done) | (simp [tupA, hpLt, tmLt, AV.lt, AE.lt, AC.lt, LL_cons, LL_nil, idOk, ABlk.lt, ints_LL, GB, tab64_LL, gC, wB, giC, noneB, gst, tC, pC, gN, gR, rC, rB, gO, gOH, gOK, tameH, tameR, rdn, wrn]; done)) trivial trivial rfl (by simp [GB])
theorem before_spec (u v : Nat × Nat) : FDet Tryd.prog 92 [.g [.int .i64 (u.1 : Nat), .int .i64 (u.2 : Nat)], .g [.int .i64 (v.1 : Nat), .int .i64 (v.2 : Nat)]] [] 0 (.c (.bool (!leW v u))) [] 0 := by
  have hle := leW_iff v u
  refine FSpec.of_body tok true Tryd.func92 rfl (by kernel_rfl) (by decide) (by simp [tupA, hpLt, tmLt, AV.lt, AE.lt, AC.lt, LL_cons, LL_nil, idOk, ABlk.lt, ints_LL, GB, tab64_LL, gC, wB, giC, noneB, gst, tC, pC, gN, gR, rC, rB, gO, gOH, gOK, tameH, tameR]) (by simp [tupA, hpLt, tmLt, AV.lt, AE.lt, AC.lt, LL_cons, LL_nil, idOk, ABlk.lt, ints_LL, GB, tab64_LL, gC, wB, giC, noneB, gst, tC, pC, gN, gR, rC, rB, gO, gOH, gOK, tameH, tameR]) (by show 2 ≤ _; decide) ?_
  refine Wk.on ?_
  by_cases h1 : u.1 < v.1
  · have hb : leW v u = false := by
      cases h : leW v u
      · rfl
      · rw [hle] at h; omega
    rw [decide_eq_true (show ((u.1 : Nat) : Int) < ((v.1 : Nat) : Int) by omega), hb]
    refine Wk.on ?_
    exact AH.Fin.nil [] ⟨rfl, rfl, rfl⟩ (by first | exact trivial | (simp [tupA, hpLt, tmLt, AV.lt, AE.lt, AC.lt, LL_cons, LL_nil, idOk, ABlk.lt, ints_LL, GB, tab64_LL, gC, wB, giC, noneB, gst, tC, pC, gN, gR, rC, rB, gO, gOH, gOK, tameH, tameR]; done) | (simp [tupA, hpLt, tmLt, AV.lt, AE.lt, AC.lt, LL_cons, LL_nil, idOk, ABlk.lt, ints_LL, GB, tab64_LL, gC, wB, giC, noneB, gst, tC, pC, gN, gR, rC, rB, gO, gOH, gOK, tameH, tameR, rdn, wrn]; done)) trivial trivial rfl (by simp [GB])
  · rw [decide_eq_false (show ¬ ((u.1 : Nat) : Int) < ((v.1 : Nat) : Int) by omega)]
    refine Wk.on ?_
    by_cases h2 : u.1 = v.1
    · rw [decide_eq_true (show ((u.1 : Nat) : Int) = ((v.1 : Nat) : Int) by omega)]
      refine Wk.on ?_
      by_cases h3 : u.2 < v.2
      · have hb : leW v u = false := by
          cases h : leW v u
          · rfl
          · rw [hle] at h; omega
        rw [decide_eq_true (show ((u.2 : Nat) : Int) < ((v.2 : Nat) : Int) by omega), hb]
        refine Wk.on ?_
        exact AH.Fin.nil [] ⟨rfl, rfl, rfl⟩ (by first | exact trivial | (simp [tupA, hpLt, tmLt, AV.lt, AE.lt, AC.lt, LL_cons, LL_nil, idOk, ABlk.lt, ints_LL, GB, tab64_LL, gC, wB, giC, noneB, gst, tC, pC, gN, gR, rC, rB, gO, gOH, gOK, tameH, tameR]; done) | (simp [tupA, hpLt, tmLt, AV.lt, AE.lt, AC.lt, LL_cons, LL_nil, idOk, ABlk.lt, ints_LL, GB, tab64_LL, gC, wB, giC, noneB, gst, tC, pC, gN, gR, rC, rB, gO, gOH, gOK, tameH, tameR, rdn, wrn]; done)) trivial trivial rfl (by simp [GB])
      · have hb : leW v u = true := hle.2 (by omega)
        rw [decide_eq_false (show ¬ ((u.2 : Nat) : Int) < ((v.2 : Nat) : Int) by omega), hb]
        refine Wk.on ?_
        exact AH.Fin.nil [] ⟨rfl, rfl, rfl⟩ (by first | exact trivial | (simp [tupA, hpLt, tmLt, AV.lt, AE.lt, AC.lt, LL_cons, LL_nil, idOk, ABlk.lt, ints_LL, GB, tab64_LL, gC, wB, giC, noneB, gst, tC, pC, gN, gR, rC, rB, gO, gOH, gOK, tameH, tameR]; done) | (simp [tupA, hpLt, tmLt, AV.lt, AE.lt, AC.lt, LL_cons, LL_nil, idOk, ABlk.lt, ints_LL, GB, tab64_LL, gC, wB, giC, noneB, gst, tC, pC, gN, gR, rC, rB, gO, gOH, gOK, tameH, tameR, rdn, wrn]; done)) trivial trivial rfl (by simp [GB])
    · have hb : leW v u = true := hle.2 (by omega)
      rw [decide_eq_false (show ¬ ((u.1 : Nat) : Int) = ((v.1 : Nat) : Int) by omega), hb]
      refine Wk.on ?_
      exact AH.Fin.nil [] ⟨rfl, rfl, rfl⟩ (by first | exact trivial | (simp [tupA, hpLt, tmLt, AV.lt, AE.lt, AC.lt, LL_cons, LL_nil, idOk, ABlk.lt, ints_LL, GB, tab64_LL, gC, wB, giC, noneB, gst, tC, pC, gN, gR, rC, rB, gO, gOH, gOK, tameH, tameR]; done) | (simp [tupA, hpLt, tmLt, AV.lt, AE.lt, AC.lt, LL_cons, LL_nil, idOk, ABlk.lt, ints_LL, GB, tab64_LL, gC, wB, giC, noneB, gst, tC, pC, gN, gR, rC, rB, gO, gOH, gOK, tameH, tameR, rdn, wrn]; done)) trivial trivial rfl (by simp [GB])
def insS (w : Nat × Nat) (l : List (Nat × Nat)) : List (Nat × Nat) := (insR w l.reverse).reverse
theorem isort_snoc (L : List (Nat × Nat)) (w : Nat × Nat) : isort (L ++ [w]) = insS w (isort L) := by
  unfold isort isortR insS
  rw [List.foldl_append, List.reverse_reverse]; rfl
theorem insS_snoc (w y : Nat × Nat) (A : List (Nat × Nat)) : insS w (A ++ [y]) = if leW y w = true then A ++ [y] ++ [w] else insS w A ++ [y] := by
  unfold insS
  rw [List.reverse_append, show [y].reverse = [y] from rfl, List.singleton_append, insR]
  split
  · simp
  · simp
theorem take_at (l : List (Nat × Nat)) {k : Nat} (h : k < l.length) : l.take (k + 1) = l.take k ++ [l.getD k (0, 0)] := by
  rw [List.take_add_one, List.getElem?_eq_getElem h, List.getD_eq_getElem?_getD, List.getElem?_eq_getElem h]; rfl
theorem drop_at (l : List (Nat × Nat)) {k : Nat} (h : k < l.length) : l.drop k = l.getD k (0, 0) :: l.drop (k + 1) := by
  rw [List.getD_eq_getElem?_getD, List.getElem?_eq_getElem h, Option.getD_some, List.drop_eq_getElem_cons h]
/-- Where the scan from the end stands. -/
def scanI (w : Nat × Nat) (l : List (Nat × Nat)) (k : Nat) : Prop := k ≤ l.length ∧ insS w l = insS w (l.take k) ++ l.drop k
theorem scan_all (w : Nat × Nat) (l : List (Nat × Nat)) : scanI w l l.length := ⟨Nat.le_refl _, by rw [List.take_length, List.drop_length, List.append_nil]⟩
theorem scan_down {w : Nat × Nat} {l : List (Nat × Nat)} {k : Nat} (h : scanI w l (k + 1)) (hl : leW (l.getD k (0, 0)) w = false) : scanI w l k := by
  refine ⟨by have := h.1; omega, ?_⟩
  rw [h.2, take_at l h.1, insS_snoc, if_neg (by rw [hl]; simp), drop_at l h.1, List.append_assoc]; rfl
theorem scan_here {w : Nat × Nat} {l : List (Nat × Nat)} {k : Nat} (h : scanI w l (k + 1)) (hl : leW (l.getD k (0, 0)) w = true) : insS w l = l.take (k + 1) ++ w :: l.drop (k + 1) := by
  rw [h.2, take_at l h.1, insS_snoc, if_pos hl]; simp
theorem scan_end {w : Nat × Nat} {l : List (Nat × Nat)} (h : scanI w l 0) : insS w l = w :: l := by
  rw [h.2]; rfl
theorem isW_succ (a b : Nat) (W : List (Nat × Nat)) {k : Nat} (h : k < W.length) : isort (shW a b (W.take (k + 1))) = if plc a b (W.getD k (0, 0)).1 ≠ plc a b (W.getD k (0, 0)).2 then insS (cw a b (W.getD k (0, 0))) (isort (shW a b (W.take k))) else isort (shW a b (W.take k)) := by
  rw [shW_succ a b W h]
  split
  · exact isort_snoc _ _
  · rw [List.append_nil]
theorem isW_len (a b : Nat) (W : List (Nat × Nat)) (k : Nat) : (isort (shW a b (W.take k))).length ≤ W.length := by
  rw [isort_len]
  show ((List.filter _ _).map _).length ≤ _
  rw [List.length_map]
  exact Nat.le_trans (List.length_filter_le _ _) (by rw [List.length_take]; omega)
theorem shorterR_spec {g : Gm} (hg : g.ok) {i : Nat} (hi : i < g.ws.length) : FDet Tryd.prog 54 [.g (gC g 0), .c (.int .i64 i)] [(0, wB g)] 1 (tameR (shortG g i)) (tameH (shortG g i)) (tameK (shortG g i)) := by
  have hl : (ints (fl g.ws)).length = g.ws.length * 2 := by rw [ints_len, fl_len]
  have hn2 := hg.n2
  have hn8 := hg.n8
  have hs8 := hg.s
  have ht8 := hg.t
  have hl10 := hg.len
  obtain ⟨a, ha⟩ : ∃ a, a = (shE g i).1 := ⟨_, rfl⟩
  obtain ⟨b, hb⟩ : ∃ b, b = (shE g i).2 := ⟨_, rfl⟩
  have hsg : shortG g i = ⟨g.n - 1, plc a b g.s, plc a b g.t, isort (shW a b g.ws)⟩ := by rw [ha, hb]; rfl
  have ha2 : ((g.ws.getD i (0, 0)).1 : Nat) = a := ha.symm
  have hb2 : ((g.ws.getD i (0, 0)).2 : Nat) = b := hb.symm
  rw [hsg]
  clear hsg ha hb
  have hps := become_spec g.s a b (by omega)
  have hpt := become_spec g.t a b (by omega)
  refine FSpec.of_body tok true Tryd.func54 rfl (by kernel_rfl) (by decide) (by simp [tupA, hpLt, tmLt, AV.lt, AE.lt, AC.lt, LL_cons, LL_nil, idOk, ABlk.lt, ints_LL, GB, tab64_LL, gC, wB, giC, noneB, gst, tC, pC, gN, gR, rC, rB, gO, gOH, gOK, tameH, tameR]) (by simp [tupA, hpLt, tmLt, AV.lt, AE.lt, AC.lt, LL_cons, LL_nil, idOk, ABlk.lt, ints_LL, GB, tab64_LL, gC, wB, giC, noneB, gst, tC, pC, gN, gR, rC, rB, gO, gOH, gOK, tameH, tameR]) (by show 2 ≤ _; decide) ?_
  refine Wk.on ?_
  refine Tr.draw (md := true) [⟨[], [17, 21, 22, 23, 24, 25, 26], [], [], []⟩, ⟨[0], [17, 21, 22, 23, 24, 25, 26], [], [], []⟩, ⟨[], [15, 16, 21, 22, 23, 24, 25, 26], [0, 1], [], []⟩, ⟨[0, 1, 2], [21, 22, 23, 24, 25, 26], [], [], []⟩, ⟨[0, 1, 2, 3], [21, 22, 23, 24, 25, 26], [], [], []⟩, ⟨[0, 1, 2, 3, 4], [21, 22, 23, 24, 25, 26], [], [], []⟩, ⟨[], [5, 15, 16, 17, 18, 19, 20, 23], [0, 1, 2, 3, 4, 5], [], []⟩, ⟨[6], [5, 15, 16, 17, 18, 19, 20, 23], [0, 1, 2, 3, 4, 5], [], []⟩, ⟨[], [5, 15, 16, 17, 18, 19, 20, 21, 22], [0, 1, 2, 3, 4, 5, 6, 7], [], []⟩, ⟨[6, 7, 8], [5, 15, 16, 17, 18, 19, 20], [0, 1, 2, 3, 4, 5], [], []⟩, ⟨[6, 7, 8, 9], [5, 15, 16, 17, 18, 19, 20], [0, 1, 2, 3, 4, 5], [], []⟩, ⟨[6, 7, 8, 9, 10], [5, 15, 16, 17, 18, 19, 20], [0, 1, 2, 3, 4, 5], [], []⟩, ⟨[0, 1, 2, 3, 4, 5], [21, 22, 23, 24, 25, 26], [6, 7, 8, 9, 10, 11], [], []⟩] tok (by kernel_rfl) (by kernel_rfl) ?_
  refine Wk.on ?_
  simp only [Int.toNat_natCast]
  rw [wget0, wget1, ha2, hb2]
  clear ha2 hb2
  refine Wk.on ?_
  refine Tr.draw (md := true) [⟨[], [7, 30, 31, 32, 33, 34, 35, 36, 37, 38, 39], [], [], []⟩, ⟨[0], [7, 30, 31, 32, 33, 34, 35, 36, 37, 38, 39], [], [], []⟩, ⟨[0, 1], [7, 30, 31, 32, 33, 34, 35, 36, 37, 38, 39], [], [], []⟩, ⟨[], [7, 27, 28, 29, 32, 33, 35, 36, 37, 38], [0, 1, 2], [], []⟩, ⟨[3], [7, 27, 28, 29, 32, 33, 35, 36, 37, 38], [0, 1, 2], [], []⟩, ⟨[], [7, 27, 28, 29, 30, 31, 33, 35, 36, 37, 38], [0, 1, 2, 3, 4], [], []⟩, ⟨[], [7, 27, 28, 29, 30, 31, 32, 35, 36, 37, 38], [0, 1, 2, 3, 4, 5], [], []⟩, ⟨[3, 4, 5, 6], [7, 27, 28, 29, 35, 36, 37, 38], [0, 1, 2], [], []⟩, ⟨[], [7, 27, 28, 29, 30, 31, 32, 33, 34, 37, 38], [0, 1, 2, 3, 4, 5, 6, 7], [], []⟩, ⟨[8], [7, 27, 28, 29, 30, 31, 32, 33, 34, 37, 38], [0, 1, 2, 3, 4, 5, 6, 7], [], []⟩, ⟨[], [7, 27, 28, 29, 30, 31, 32, 33, 34, 35, 36, 38], [0, 1, 2, 3, 4, 5, 6, 7, 8, 9], [], []⟩, ⟨[], [7, 27, 28, 29, 30, 31, 32, 33, 34, 35, 36, 37], [0, 1, 2, 3, 4, 5, 6, 7, 8, 9, 10], [], []⟩, ⟨[3, 4, 5, 6, 7, 8, 9, 10, 11], [7, 27, 28, 29], [0, 1, 2], [], []⟩, ⟨[0, 1, 2, 3, 4, 5, 6, 7, 8, 9, 10, 11, 12], [7], [], [], []⟩, ⟨[], [27, 28, 29, 30, 31, 32, 33, 34, 35, 36, 37, 38, 39, 40], [0, 1, 2, 3, 4, 5, 6, 7, 8, 9, 10, 11, 12, 13], [], []⟩] tok (by kernel_rfl) (by kernel_rfl) ?_
  refine Wk.on ?_
  rw [show (g.n : Int) - 1 = ((g.n - 1 : Nat) : Int) by omega]
  refine Wk.on ?_
  refine CallQ.ro [] (.c (.int .i64 (plc a b g.s : Nat))) (hps) (by first | rfl | exact congrArg AV.g (ints_ren _ _) | (simp [ints_ren, AV.ren, ABlk.ren, AC.ren, AE.ren, qq]; done)) rfl (by (repeat (first | exact trivial | refine ⟨⟨(by first | exact .inl (by decide) | exact .inr (by decide)), (by first | (refine Or.inl ?_; first | rfl | exact congrArg some (ints_ren _ _).symm | exact congrArg ABlk.own (ints_ren _ _).symm | exact congrArg some (tab64_ren _).symm | exact congrArg (ABlk.row _ _) (ints_ren _ _).symm) | rfl | exact congrArg some (ints_ren _ _).symm | exact congrArg ABlk.own (ints_ren _ _).symm | exact congrArg some (tab64_ren _).symm | exact congrArg (ABlk.row _ _) (ints_ren _ _).symm | exact Or.inr ⟨rfl, rfl⟩)⟩, ?_⟩))) (by first | rfl | exact congrArg AV.g (ints_ren _ _) | (simp [ints_ren, AV.ren, ABlk.ren, AC.ren, AE.ren, qq]; done)) ?_
  refine Wk.on ?_
  refine CallQ.ro [] (.c (.int .i64 (plc a b g.t : Nat))) (hpt) (by first | rfl | exact congrArg AV.g (ints_ren _ _) | (simp [ints_ren, AV.ren, ABlk.ren, AC.ren, AE.ren, qq]; done)) rfl (by (repeat (first | exact trivial | refine ⟨⟨(by first | exact .inl (by decide) | exact .inr (by decide)), (by first | (refine Or.inl ?_; first | rfl | exact congrArg some (ints_ren _ _).symm | exact congrArg ABlk.own (ints_ren _ _).symm | exact congrArg some (tab64_ren _).symm | exact congrArg (ABlk.row _ _) (ints_ren _ _).symm) | rfl | exact congrArg some (ints_ren _ _).symm | exact congrArg ABlk.own (ints_ren _ _).symm | exact congrArg some (tab64_ren _).symm | exact congrArg (ABlk.row _ _) (ints_ren _ _).symm | exact Or.inr ⟨rfl, rfl⟩)⟩, ?_⟩))) (by first | rfl | exact congrArg AV.g (ints_ren _ _) | (simp [ints_ren, AV.ren, ABlk.ren, AC.ren, AE.ren, qq]; done)) ?_
  refine Wk.on ?_
  refine Tr.loop (md := true) (X := Nat × List (Nat × Nat)) (st := fun q => ⟨[(2, .c (.ptr 1 0)), (4, .c (.ptr 2 0)), (5, .c (.int .i64 a)), (6, .c (.int .i64 b)), (7, .c (.ptr 3 0)), (8, .c (.int .i64 q.1))], (3, .own (gO (g.n - 1) (plc a b g.s) (plc a b g.t) q.2)) :: (2, .own [.int .i64 0, .int .i64 0, .int .i64 0, .nils]) :: (1, .own (gC g 0)) :: (0, wB g) :: gOH q.2, gOK q.2, 112, 1⟩) (inv := fun q => q.1 ≤ g.ws.length ∧ q.2 = isort (shW a b (g.ws.take q.1))) (μ := fun q => g.ws.length - q.1) (x0 := (0, [])) (l := []) tok ⟨Nat.zero_le _, rfl⟩ ?_ ?_
  · exact Sub.nil ⟨rfl, rfl, (by simp [tab64_LL, gC, wB, giC, noneB, gst, tC, pC, gN, gR, rC, rB, gO, gOH, gOK, tameH, tameR]), rfl, (by simp [tupA, hpLt, tmLt, AV.lt, AE.lt, AC.lt, LL_cons, LL_nil, idOk, ABlk.lt, ints_LL, GB, tab64_LL, gC, wB, giC, noneB, gst, tC, pC, gN, gR, rC, rB, gO, gOH, gOK, tameH, tameR]), (by simp [tupA, hpLt, tmLt, AV.lt, AE.lt, AC.lt, LL_cons, LL_nil, idOk, ABlk.lt, ints_LL, GB, tab64_LL, gC, wB, giC, noneB, gst, tC, pC, gN, gR, rC, rB, gO, gOH, gOK, tameH, tameR])⟩ ⟨rfl, rfl, rfl, rfl, rfl, rfl, trivial⟩ ⟨rfl, rfl, rfl, rfl, trivial⟩
  · rintro ⟨k, l⟩ ⟨hk, hlk⟩
    dsimp only at hk hlk
    have hll := isW_len a b g.ws k
    rw [← hlk] at hll
    by_cases hkl : k < g.ws.length
    · have hsu := isW_succ a b g.ws hkl
      rw [← hlk] at hsu
      have hend := hg.ends k hkl
      obtain ⟨w, hw⟩ : ∃ w, w = g.ws.getD k (0, 0) := ⟨_, rfl⟩
      rw [← hw] at hsu hend
      have hp1 := become_spec w.1 a b (by omega)
      have hp2 := become_spec w.2 a b (by omega)
      rcases l with _ | ⟨w0, l⟩
      · skip
        dsimp only [gOH, gOK]
        refine Wk.on ?_
        rw [decide_eq_true (show ((k : Nat) : Int) < ((g.ws.length : Nat) : Int) by omega)]
        refine Wk.on ?_
        refine Tr.draw (md := true) [⟨[], [50, 54, 55, 57, 58, 59, 60, 61, 62, 63, 64], [], [], []⟩, ⟨[0], [50, 54, 55, 57, 58, 59, 60, 61, 62, 63, 64], [], [], []⟩, ⟨[], [48, 49, 54, 55, 57, 58, 59, 60, 61, 62, 63, 64], [0, 1], [], []⟩, ⟨[0, 1, 2], [54, 55, 57, 58, 59, 60, 61, 62, 63, 64], [], [], []⟩, ⟨[0, 1, 2, 3], [54, 55, 57, 58, 59, 60, 61, 62, 63, 64], [], [], []⟩, ⟨[0, 1, 2, 3, 4], [54, 55, 57, 58, 59, 60, 61, 62, 63, 64], [], [], []⟩, ⟨[], [48, 49, 50, 51, 52, 53, 55, 57, 58, 59, 60, 61, 62, 63, 64], [0, 1, 2, 3, 4, 5], [], []⟩, ⟨[], [48, 49, 50, 51, 52, 53, 54, 57, 58, 59, 60, 61, 62, 63, 64], [0, 1, 2, 3, 4, 5, 6], [], []⟩, ⟨[0, 1, 2, 3, 4, 5, 6, 7], [57, 58, 59, 60, 61, 62, 63, 64], [], [], []⟩, ⟨[], [48, 49, 50, 51, 52, 53, 54, 55, 56, 59, 63, 64], [0, 1, 2, 3, 4, 5, 6, 7, 8], [], []⟩, ⟨[9], [48, 49, 50, 51, 52, 53, 54, 55, 56, 59, 63, 64], [0, 1, 2, 3, 4, 5, 6, 7, 8], [], []⟩, ⟨[], [48, 49, 50, 51, 52, 53, 54, 55, 56, 57, 58, 63, 64], [0, 1, 2, 3, 4, 5, 6, 7, 8, 9, 10], [], []⟩, ⟨[9, 10, 11], [48, 49, 50, 51, 52, 53, 54, 55, 56, 63, 64], [0, 1, 2, 3, 4, 5, 6, 7, 8], [], []⟩, ⟨[9, 10, 11, 12], [48, 49, 50, 51, 52, 53, 54, 55, 56, 63, 64], [0, 1, 2, 3, 4, 5, 6, 7, 8], [], []⟩, ⟨[9, 10, 11, 12, 13], [48, 49, 50, 51, 52, 53, 54, 55, 56, 63, 64], [0, 1, 2, 3, 4, 5, 6, 7, 8], [], []⟩, ⟨[], [48, 49, 50, 51, 52, 53, 54, 55, 56, 57, 58, 59, 60, 61, 62, 64], [0, 1, 2, 3, 4, 5, 6, 7, 8, 9, 10, 11, 12, 13, 14], [], []⟩, ⟨[], [48, 49, 50, 51, 52, 53, 54, 55, 56, 57, 58, 59, 60, 61, 62, 63], [0, 1, 2, 3, 4, 5, 6, 7, 8, 9, 10, 11, 12, 13, 14, 15], [], []⟩] tok (by kernel_rfl) (by kernel_rfl) ?_
        refine Wk.on ?_
        simp only [Int.toNat_natCast]
        rw [wget0, ← hw]
        refine Wk.on ?_
        refine CallQ.ro [] (.c (.int .i64 (plc a b w.1 : Nat))) (hp1) (by first | rfl | exact congrArg AV.g (ints_ren _ _) | (simp [ints_ren, AV.ren, ABlk.ren, AC.ren, AE.ren, qq]; done)) rfl (by (repeat (first | exact trivial | refine ⟨⟨(by first | exact .inl (by decide) | exact .inr (by decide)), (by first | (refine Or.inl ?_; first | rfl | exact congrArg some (ints_ren _ _).symm | exact congrArg ABlk.own (ints_ren _ _).symm | exact congrArg some (tab64_ren _).symm | exact congrArg (ABlk.row _ _) (ints_ren _ _).symm) | rfl | exact congrArg some (ints_ren _ _).symm | exact congrArg ABlk.own (ints_ren _ _).symm | exact congrArg some (tab64_ren _).symm | exact congrArg (ABlk.row _ _) (ints_ren _ _).symm | exact Or.inr ⟨rfl, rfl⟩)⟩, ?_⟩))) (by first | rfl | exact congrArg AV.g (ints_ren _ _) | (simp [ints_ren, AV.ren, ABlk.ren, AC.ren, AE.ren, qq]; done)) ?_
        refine Wk.on ?_
        simp only [Int.toNat_natCast]
        rw [wget1, ← hw]
        refine Wk.on ?_
        refine CallA.ro [] (.c (.int .i64 (plc a b w.2 : Nat))) (hp2) (by first | rfl | exact congrArg AV.g (ints_ren _ _) | (simp [ints_ren, AV.ren, ABlk.ren, AC.ren, AE.ren, qq]; done)) rfl (by (repeat (first | exact trivial | refine ⟨⟨(by first | exact .inl (by decide) | exact .inr (by decide)), (by first | (refine Or.inl ?_; first | rfl | exact congrArg some (ints_ren _ _).symm | exact congrArg ABlk.own (ints_ren _ _).symm | exact congrArg some (tab64_ren _).symm | exact congrArg (ABlk.row _ _) (ints_ren _ _).symm) | rfl | exact congrArg some (ints_ren _ _).symm | exact congrArg ABlk.own (ints_ren _ _).symm | exact congrArg some (tab64_ren _).symm | exact congrArg (ABlk.row _ _) (ints_ren _ _).symm | exact Or.inr ⟨rfl, rfl⟩)⟩, ?_⟩))) (by first | rfl | exact congrArg AV.g (ints_ren _ _) | (simp [ints_ren, AV.ren, ABlk.ren, AC.ren, AE.ren, qq]; done)) ?_
        refine Wk.on ?_
        by_cases hc : plc a b w.1 = plc a b w.2
        · rw [decide_eq_true (show ((plc a b w.1 : Nat) : Int) = ((plc a b w.2 : Nat) : Int) by omega)]
          refine Wk.on ?_
          refine Again.mk (k + 1, []) (Sub.nil ⟨rfl, rfl, (by simp [tab64_LL, gC, wB, giC, noneB, gst, tC, pC, gN, gR, rC, rB, gO, gOH, gOK, tameH, tameR]), rfl, (by simp [tupA, hpLt, tmLt, AV.lt, AE.lt, AC.lt, LL_cons, LL_nil, idOk, ABlk.lt, ints_LL, GB, tab64_LL, gC, wB, giC, noneB, gst, tC, pC, gN, gR, rC, rB, gO, gOH, gOK, tameH, tameR]), (by simp [tupA, hpLt, tmLt, AV.lt, AE.lt, AC.lt, LL_cons, LL_nil, idOk, ABlk.lt, ints_LL, GB, tab64_LL, gC, wB, giC, noneB, gst, tC, pC, gN, gR, rC, rB, gO, gOH, gOK, tameH, tameR])⟩ ⟨rfl, rfl, rfl, rfl, rfl, rfl, trivial⟩ ⟨rfl, rfl, rfl, rfl, trivial⟩) ⟨by omega, ?_⟩ (by show g.ws.length - (k + 1) < g.ws.length - k; omega)
          show [] = isort (shW a b (g.ws.take (k + 1)))
          rw [hsu, if_neg (fun h => h hc)]
        · rw [decide_eq_false (show ¬ ((plc a b w.1 : Nat) : Int) = ((plc a b w.2 : Nat) : Int) by omega)]
          refine Wk.on ?_
          rw [show min ((plc a b w.1 : Nat) : Int) ((plc a b w.2 : Nat) : Int) = ((cw a b w).1 : Nat) by unfold cw; dsimp only; omega]
          refine Wk.on ?_
          rw [show max ((plc a b w.1 : Nat) : Int) ((plc a b w.2 : Nat) : Int) = ((cw a b w).2 : Nat) by unfold cw; dsimp only; omega]
          refine Wk.on ?_
          rw [if_pos hc] at hsu
          generalize cw a b w = v at *
          refine Tr.loop (md := true) (X := Unit) (st := fun _ => ⟨[(2, .c (.ptr 1 0)), (4, .c (.ptr 2 0)), (5, .c (.int .i64 a)), (6, .c (.int .i64 b)), (7, .c (.ptr 3 0)), (8, .c (.int .i64 k)), (11, .c (.ptr 4 0)), (12, .c (.int .i64 0))], [(3, .own (gO (g.n - 1) (plc a b g.s) (plc a b g.t) [])), (2, .own [.int .i64 0, .int .i64 0, .int .i64 0, .nils]), (1, .own (gC g 0)), (0, wB g), (4, .own [.int .i64 (v.1 : Nat), .int .i64 (v.2 : Nat)])], 5, 112, 1⟩) (inv := fun _ => True) (μ := fun _ => 0) (x0 := ()) (l := []) tok trivial ?_ ?_
          · exact Sub.nil ⟨rfl, rfl, (by simp [tab64_LL, gC, wB, giC, noneB, gst, tC, pC, gN, gR, rC, rB, gO, gOH, gOK, tameH, tameR]), rfl, (by simp [tupA, hpLt, tmLt, AV.lt, AE.lt, AC.lt, LL_cons, LL_nil, idOk, ABlk.lt, ints_LL, GB, tab64_LL, gC, wB, giC, noneB, gst, tC, pC, gN, gR, rC, rB, gO, gOH, gOK, tameH, tameR]), (by simp [tupA, hpLt, tmLt, AV.lt, AE.lt, AC.lt, LL_cons, LL_nil, idOk, ABlk.lt, ints_LL, GB, tab64_LL, gC, wB, giC, noneB, gst, tC, pC, gN, gR, rC, rB, gO, gOH, gOK, tameH, tameR])⟩ ⟨rfl, rfl, rfl, rfl, rfl, rfl, rfl, rfl, trivial⟩ ⟨rfl, rfl, rfl, rfl, rfl, trivial⟩
          · intro _ _
            refine Wk.on ?_
            refine Tr.draw (md := true) [⟨[], [], [], [], []⟩, ⟨[0], [], [], [], []⟩, ⟨[0, 1], [], [], [], []⟩, ⟨[0, 1, 2], [83, 84, 85, 86, 87, 88], [], [], []⟩, ⟨[0, 1, 2], [82, 85, 86], [3], [], []⟩, ⟨[0, 1, 2, 4], [82, 85, 86], [3], [], []⟩, ⟨[0, 1, 2], [82, 83, 84], [3, 4, 5], [], []⟩, ⟨[0, 1, 2, 6], [82, 83, 84], [3, 4, 5], [], []⟩, ⟨[0, 1, 2, 4, 5, 6, 7], [82], [3], [], []⟩, ⟨[0, 1, 2, 4, 5, 6, 7, 8], [82], [3], [], []⟩] tok (by kernel_rfl) (by kernel_rfl) ?_
            refine Wk.on ?_
            refine ⟨⟨Nat.le_of_ble_eq_true rfl, rfl, rfl, rfl, by decide, by decide⟩, ?_⟩
            refine Wk.on ?_
            refine Again.mk (k + 1, [v]) (Sub.new [(4, 7)] ⟨rfl, rfl, Nat.le_of_ble_eq_true rfl, Nat.le_of_ble_eq_true rfl⟩ rfl ⟨rfl, rfl, rfl, rfl, rfl, rfl, trivial⟩ ⟨rfl, rfl, rfl, wBren g _, rfl, trivial⟩ rfl (by simp [tupA, hpLt, tmLt, AV.lt, AE.lt, AC.lt, LL_cons, LL_nil, idOk, ABlk.lt, ints_LL, GB, tab64_LL, gC, wB, giC, noneB, gst, tC, pC, gN, gR, rC, rB, gO, gOH, gOK, tameH, tameR]) (by simp [tupA, hpLt, tmLt, AV.lt, AE.lt, AC.lt, LL_cons, LL_nil, idOk, ABlk.lt, ints_LL, GB, tab64_LL, gC, wB, giC, noneB, gst, tC, pC, gN, gR, rC, rB, gO, gOH, gOK, tameH, tameR])) ⟨by omega, ?_⟩ (by show g.ws.length - (k + 1) < g.ws.length - k; omega)
            show [v] = isort (shW a b (g.ws.take (k + 1)))
            rw [hsu]; rfl
      · have hfl2 : (ints (fl (w0 :: l))).length = (l.length + 1) * 2 := by rw [ints_len, fl_len]; rfl
        dsimp only [gOH, gOK]
        refine Wk.on ?_
        rw [decide_eq_true (show ((k : Nat) : Int) < ((g.ws.length : Nat) : Int) by omega)]
        refine Wk.on ?_
        refine Tr.draw (md := true) [⟨[], [50, 54, 55, 57, 58, 59, 60, 61, 62, 63, 64], [], [], []⟩, ⟨[0], [50, 54, 55, 57, 58, 59, 60, 61, 62, 63, 64], [], [], []⟩, ⟨[], [48, 49, 54, 55, 57, 58, 59, 60, 61, 62, 63, 64], [0, 1], [], []⟩, ⟨[0, 1, 2], [54, 55, 57, 58, 59, 60, 61, 62, 63, 64], [], [], []⟩, ⟨[0, 1, 2, 3], [54, 55, 57, 58, 59, 60, 61, 62, 63, 64], [], [], []⟩, ⟨[0, 1, 2, 3, 4], [54, 55, 57, 58, 59, 60, 61, 62, 63, 64], [], [], []⟩, ⟨[], [48, 49, 50, 51, 52, 53, 55, 57, 58, 59, 60, 61, 62, 63, 64], [0, 1, 2, 3, 4, 5], [], []⟩, ⟨[], [48, 49, 50, 51, 52, 53, 54, 57, 58, 59, 60, 61, 62, 63, 64], [0, 1, 2, 3, 4, 5, 6], [], []⟩, ⟨[0, 1, 2, 3, 4, 5, 6, 7], [57, 58, 59, 60, 61, 62, 63, 64], [], [], []⟩, ⟨[], [48, 49, 50, 51, 52, 53, 54, 55, 56, 59, 63, 64], [0, 1, 2, 3, 4, 5, 6, 7, 8], [], []⟩, ⟨[9], [48, 49, 50, 51, 52, 53, 54, 55, 56, 59, 63, 64], [0, 1, 2, 3, 4, 5, 6, 7, 8], [], []⟩, ⟨[], [48, 49, 50, 51, 52, 53, 54, 55, 56, 57, 58, 63, 64], [0, 1, 2, 3, 4, 5, 6, 7, 8, 9, 10], [], []⟩, ⟨[9, 10, 11], [48, 49, 50, 51, 52, 53, 54, 55, 56, 63, 64], [0, 1, 2, 3, 4, 5, 6, 7, 8], [], []⟩, ⟨[9, 10, 11, 12], [48, 49, 50, 51, 52, 53, 54, 55, 56, 63, 64], [0, 1, 2, 3, 4, 5, 6, 7, 8], [], []⟩, ⟨[9, 10, 11, 12, 13], [48, 49, 50, 51, 52, 53, 54, 55, 56, 63, 64], [0, 1, 2, 3, 4, 5, 6, 7, 8], [], []⟩, ⟨[], [48, 49, 50, 51, 52, 53, 54, 55, 56, 57, 58, 59, 60, 61, 62, 64], [0, 1, 2, 3, 4, 5, 6, 7, 8, 9, 10, 11, 12, 13, 14], [], []⟩, ⟨[], [48, 49, 50, 51, 52, 53, 54, 55, 56, 57, 58, 59, 60, 61, 62, 63], [0, 1, 2, 3, 4, 5, 6, 7, 8, 9, 10, 11, 12, 13, 14, 15], [], []⟩] tok (by kernel_rfl) (by kernel_rfl) ?_
        refine Wk.on ?_
        simp only [Int.toNat_natCast]
        rw [wget0, ← hw]
        refine Wk.on ?_
        refine CallQ.ro [] (.c (.int .i64 (plc a b w.1 : Nat))) (hp1) (by first | rfl | exact congrArg AV.g (ints_ren _ _) | (simp [ints_ren, AV.ren, ABlk.ren, AC.ren, AE.ren, qq]; done)) rfl (by (repeat (first | exact trivial | refine ⟨⟨(by first | exact .inl (by decide) | exact .inr (by decide)), (by first | (refine Or.inl ?_; first | rfl | exact congrArg some (ints_ren _ _).symm | exact congrArg ABlk.own (ints_ren _ _).symm | exact congrArg some (tab64_ren _).symm | exact congrArg (ABlk.row _ _) (ints_ren _ _).symm) | rfl | exact congrArg some (ints_ren _ _).symm | exact congrArg ABlk.own (ints_ren _ _).symm | exact congrArg some (tab64_ren _).symm | exact congrArg (ABlk.row _ _) (ints_ren _ _).symm | exact Or.inr ⟨rfl, rfl⟩)⟩, ?_⟩))) (by first | rfl | exact congrArg AV.g (ints_ren _ _) | (simp [ints_ren, AV.ren, ABlk.ren, AC.ren, AE.ren, qq]; done)) ?_
        refine Wk.on ?_
        simp only [Int.toNat_natCast]
        rw [wget1, ← hw]
        refine Wk.on ?_
        refine CallA.ro [] (.c (.int .i64 (plc a b w.2 : Nat))) (hp2) (by first | rfl | exact congrArg AV.g (ints_ren _ _) | (simp [ints_ren, AV.ren, ABlk.ren, AC.ren, AE.ren, qq]; done)) rfl (by (repeat (first | exact trivial | refine ⟨⟨(by first | exact .inl (by decide) | exact .inr (by decide)), (by first | (refine Or.inl ?_; first | rfl | exact congrArg some (ints_ren _ _).symm | exact congrArg ABlk.own (ints_ren _ _).symm | exact congrArg some (tab64_ren _).symm | exact congrArg (ABlk.row _ _) (ints_ren _ _).symm) | rfl | exact congrArg some (ints_ren _ _).symm | exact congrArg ABlk.own (ints_ren _ _).symm | exact congrArg some (tab64_ren _).symm | exact congrArg (ABlk.row _ _) (ints_ren _ _).symm | exact Or.inr ⟨rfl, rfl⟩)⟩, ?_⟩))) (by first | rfl | exact congrArg AV.g (ints_ren _ _) | (simp [ints_ren, AV.ren, ABlk.ren, AC.ren, AE.ren, qq]; done)) ?_
        refine Wk.on ?_
        by_cases hc : plc a b w.1 = plc a b w.2
        · rw [decide_eq_true (show ((plc a b w.1 : Nat) : Int) = ((plc a b w.2 : Nat) : Int) by omega)]
          refine Wk.on ?_
          refine Again.mk (k + 1, w0 :: l) (Sub.nil ⟨rfl, rfl, (by simp [tab64_LL, gC, wB, giC, noneB, gst, tC, pC, gN, gR, rC, rB, gO, gOH, gOK, tameH, tameR]), rfl, (by simp [tupA, hpLt, tmLt, AV.lt, AE.lt, AC.lt, LL_cons, LL_nil, idOk, ABlk.lt, ints_LL, GB, tab64_LL, gC, wB, giC, noneB, gst, tC, pC, gN, gR, rC, rB, gO, gOH, gOK, tameH, tameR]), (by simp [tupA, hpLt, tmLt, AV.lt, AE.lt, AC.lt, LL_cons, LL_nil, idOk, ABlk.lt, ints_LL, GB, tab64_LL, gC, wB, giC, noneB, gst, tC, pC, gN, gR, rC, rB, gO, gOH, gOK, tameH, tameR])⟩ ⟨rfl, rfl, rfl, rfl, rfl, rfl, trivial⟩ ⟨rfl, rfl, rfl, rfl, rfl, trivial⟩) ⟨by omega, ?_⟩ (by show g.ws.length - (k + 1) < g.ws.length - k; omega)
          show w0 :: l = isort (shW a b (g.ws.take (k + 1)))
          rw [hsu, if_neg (fun h => h hc)]
        · rw [decide_eq_false (show ¬ ((plc a b w.1 : Nat) : Int) = ((plc a b w.2 : Nat) : Int) by omega)]
          refine Wk.on ?_
          rw [show min ((plc a b w.1 : Nat) : Int) ((plc a b w.2 : Nat) : Int) = ((cw a b w).1 : Nat) by unfold cw; dsimp only; omega]
          refine Wk.on ?_
          rw [show max ((plc a b w.1 : Nat) : Int) ((plc a b w.2 : Nat) : Int) = ((cw a b w).2 : Nat) by unfold cw; dsimp only; omega]
          refine Wk.on ?_
          rw [if_pos hc] at hsu
          generalize cw a b w = v at *
          refine Tr.loop (md := true) (X := Nat) (st := fun j => ⟨[(2, .c (.ptr 1 0)), (4, .c (.ptr 2 0)), (5, .c (.int .i64 a)), (6, .c (.int .i64 b)), (7, .c (.ptr 3 0)), (8, .c (.int .i64 k)), (11, .c (.ptr 5 0)), (12, .c (.int .i64 j))], [(3, .own (gO (g.n - 1) (plc a b g.s) (plc a b g.t) (w0 :: l))), (2, .own [.int .i64 0, .int .i64 0, .int .i64 0, .nils]), (1, .own (gC g 0)), (0, wB g), (4, .row 60 2 (ints (fl (w0 :: l)))), (5, .own [.int .i64 (v.1 : Nat), .int .i64 (v.2 : Nat)])], 6, 112, 1⟩) (inv := fun j => scanI v (w0 :: l) j) (μ := fun j => j) (x0 := (w0 :: l).length) (l := []) tok (scan_all _ _) ?_ ?_
          · exact Sub.nil ⟨rfl, rfl, (by simp [tab64_LL, gC, wB, giC, noneB, gst, tC, pC, gN, gR, rC, rB, gO, gOH, gOK, tameH, tameR]), rfl, (by simp [tupA, hpLt, tmLt, AV.lt, AE.lt, AC.lt, LL_cons, LL_nil, idOk, ABlk.lt, ints_LL, GB, tab64_LL, gC, wB, giC, noneB, gst, tC, pC, gN, gR, rC, rB, gO, gOH, gOK, tameH, tameR]), (by simp [tupA, hpLt, tmLt, AV.lt, AE.lt, AC.lt, LL_cons, LL_nil, idOk, ABlk.lt, ints_LL, GB, tab64_LL, gC, wB, giC, noneB, gst, tC, pC, gN, gR, rC, rB, gO, gOH, gOK, tameH, tameR])⟩ ⟨rfl, rfl, rfl, rfl, rfl, rfl, rfl, rfl, trivial⟩ ⟨rfl, rfl, rfl, rfl, rfl, rfl, trivial⟩
          · intro j hj
            have hjl := hj.1
            rw [List.length_cons] at hjl hll
            rcases j with _ | j
            · have hin := scan_end hj
              rw [hin] at hsu
              refine Wk.on ?_
              refine Tr.draw (md := true) [⟨[], [], [], [], []⟩, ⟨[0], [], [], [], []⟩, ⟨[0, 1], [], [], [], []⟩, ⟨[0, 1, 2], [83, 84, 85, 86, 87, 88], [], [], []⟩, ⟨[0, 1, 2], [82, 85, 86], [3], [], []⟩, ⟨[0, 1, 2, 4], [82, 85, 86], [3], [], []⟩, ⟨[0, 1, 2], [82, 83, 84], [3, 4, 5], [], []⟩, ⟨[0, 1, 2, 6], [82, 83, 84], [3, 4, 5], [], []⟩, ⟨[0, 1, 2, 4, 5, 6, 7], [82], [3], [], []⟩, ⟨[0, 1, 2, 4, 5, 6, 7, 8], [82], [3], [], []⟩] tok (by kernel_rfl) (by kernel_rfl) ?_
              refine Wk.on ?_
              refine ⟨⟨by show (0 : Int) ≤ 0; omega, by show (0 : Int) ≤ ((0 : Nat) : Int); omega, .inl (by show ((0 : Nat) : Int) ≤ ((l.length + 1 : Nat) : Int); omega)⟩, ?_⟩
              refine Wk.on ?_
              refine ⟨fun _ => ?_, fun h => by simp at h⟩
              refine Wk.on ?_
              refine ⟨⟨by show (0 : Int) ≤ ((0 : Nat) : Int); omega, by show ((0 : Nat) : Int) ≤ ((l.length + 1 : Nat) : Int); omega, .inl (by show ((l.length + 1 : Nat) : Int) ≤ ((l.length + 1 : Nat) : Int); omega)⟩, ?_⟩
              simp only [Option.getD_some, Option.getD_none, Int.toNat_natCast, Int.toNat_zero, Nat.sub_zero, Nat.zero_add, Nat.zero_mul, Option.map_none]
              refine Wk.on ?_
              refine ⟨by rw [hfl2]; show 0 + (l.length + 1) * 2 ≤ _; omega, ?_⟩
              refine Wk.on ?_
              refine ⟨⟨Nat.le_of_ble_eq_true rfl, rfl, rfl, rfl, by show ((1 + (l.length + 1) : Nat) : Int) * 16 ≤ _; omega, by show 1 + (l.length + 1) ≤ _; omega⟩, ?_⟩
              rw [show 1 + (l.length + 1) = (w0 :: l).length + 1 by rw [List.length_cons]; omega]
              refine Wk.on ?_
              have hcl : [AC.int .i64 (v.1 : Nat), .int .i64 (v.2 : Nat)] ++ ((ints (fl (w0 :: l))).drop 0).take ((l.length + 1) * 2) = ints (fl (v :: w0 :: l)) := by
                rw [List.drop_zero, List.take_of_length_le (by omega)]; rfl
              refine Again.mk (k + 1, v :: w0 :: l) (Sub.new [(4, 8)] ⟨rfl, rfl, Nat.le_of_ble_eq_true rfl, Nat.le_of_ble_eq_true rfl⟩ rfl ⟨rfl, rfl, rfl, rfl, rfl, rfl, trivial⟩ ⟨by show some (ABlk.own _) = some (ABlk.own _); simp [gO, AC.ren, rn, lk], rfl, rfl, wBren g _, by show some (ABlk.row 60 2 _) = some (ABlk.row 60 2 ((ints _).map _)); rw [ints_ren]; exact congrArg (fun l => some (ABlk.row 60 2 l)) hcl, trivial⟩ rfl (by simp [tupA, hpLt, tmLt, AV.lt, AE.lt, AC.lt, LL_cons, LL_nil, idOk, ABlk.lt, ints_LL, GB, tab64_LL, gC, wB, giC, noneB, gst, tC, pC, gN, gR, rC, rB, gO, gOH, gOK, tameH, tameR]) (by simp [tupA, hpLt, tmLt, AV.lt, AE.lt, AC.lt, LL_cons, LL_nil, idOk, ABlk.lt, ints_LL, GB, tab64_LL, gC, wB, giC, noneB, gst, tC, pC, gN, gR, rC, rB, gO, gOH, gOK, tameH, tameR])) ⟨by omega, hsu.symm⟩ (by show g.ws.length - (k + 1) < g.ws.length - k; omega)
            · have hjl2 : j < (w0 :: l).length := by rw [List.length_cons]; omega
              have hr := rdn_fl2 (w0 :: l) j
              have hdn := fun h => scan_down hj h
              have hhr := fun h => scan_here hj h
              have k2 : (((j + 1 : Nat) : Int) - 1).toNat = j := by omega
              have hbf := before_spec v ((w0 :: l).getD j (0, 0))
              generalize (w0 :: l).getD j (0, 0) = y at *
              refine Wk.on ?_
              refine Tr.draw (md := true) [⟨[], [], [], [], []⟩, ⟨[0], [], [], [], []⟩, ⟨[0, 1], [], [], [], []⟩, ⟨[0, 1, 2], [83, 84, 85, 86, 87, 88], [], [], []⟩, ⟨[0, 1, 2], [82, 85, 86], [3], [], []⟩, ⟨[0, 1, 2, 4], [82, 85, 86], [3], [], []⟩, ⟨[0, 1, 2], [82, 83, 84], [3, 4, 5], [], []⟩, ⟨[0, 1, 2, 6], [82, 83, 84], [3, 4, 5], [], []⟩, ⟨[0, 1, 2, 4, 5, 6, 7], [82], [3], [], []⟩, ⟨[0, 1, 2, 4, 5, 6, 7, 8], [82], [3], [], []⟩] tok (by kernel_rfl) (by kernel_rfl) ?_
              refine Wk.on ?_
              rw [decide_eq_true (show (0 : Int) < ((j + 1 : Nat) : Int) by omega)]
              refine Wk.on ?_
              refine ⟨⟨by rw [k2, hfl2]; show j * 2 + 2 ≤ _; omega, rfl⟩, ?_⟩
              rw [k2]
              rw [show rdn (ints (fl (w0 :: l))) (j * 2) [.int .i64 0, .int .i64 0] = _ from hr]
              refine Wk.on ?_
              refine CallA.ro [] (.c (.bool (!leW y v))) (hbf) (by first | rfl | exact congrArg AV.g (ints_ren _ _) | (simp [ints_ren, AV.ren, ABlk.ren, AC.ren, AE.ren, qq]; done)) rfl (by (repeat (first | exact trivial | refine ⟨⟨(by first | exact .inl (by decide) | exact .inr (by decide)), (by first | (refine Or.inl ?_; first | rfl | exact congrArg some (ints_ren _ _).symm | exact congrArg ABlk.own (ints_ren _ _).symm | exact congrArg some (tab64_ren _).symm | exact congrArg (ABlk.row _ _) (ints_ren _ _).symm) | rfl | exact congrArg some (ints_ren _ _).symm | exact congrArg ABlk.own (ints_ren _ _).symm | exact congrArg some (tab64_ren _).symm | exact congrArg (ABlk.row _ _) (ints_ren _ _).symm | exact Or.inr ⟨rfl, rfl⟩)⟩, ?_⟩))) (by first | rfl | exact congrArg AV.g (ints_ren _ _) | (simp [ints_ren, AV.ren, ABlk.ren, AC.ren, AE.ren, qq]; done)) ?_
              refine Wk.on ?_
              cases hle : leW y v with
              | false =>
                refine Wk.on ?_
                rw [show ((j + 1 : Nat) : Int) - 1 = ((j : Nat) : Int) by omega]
                refine Again.mk (j) (Sub.nil ⟨rfl, rfl, (by simp [tab64_LL, gC, wB, giC, noneB, gst, tC, pC, gN, gR, rC, rB, gO, gOH, gOK, tameH, tameR]), rfl, (by simp [tupA, hpLt, tmLt, AV.lt, AE.lt, AC.lt, LL_cons, LL_nil, idOk, ABlk.lt, ints_LL, GB, tab64_LL, gC, wB, giC, noneB, gst, tC, pC, gN, gR, rC, rB, gO, gOH, gOK, tameH, tameR]), (by simp [tupA, hpLt, tmLt, AV.lt, AE.lt, AC.lt, LL_cons, LL_nil, idOk, ABlk.lt, ints_LL, GB, tab64_LL, gC, wB, giC, noneB, gst, tC, pC, gN, gR, rC, rB, gO, gOH, gOK, tameH, tameR])⟩ (by (repeat (first | exact trivial | refine ⟨trivial, ?_⟩ | refine ⟨rfl, ?_⟩))) (by (repeat (first | exact trivial | refine ⟨trivial, ?_⟩ | refine ⟨rfl, ?_⟩)))) (hdn hle) (by omega)
              | true =>
                have hin := hhr hle
                rw [hin] at hsu
                obtain ⟨d, hd⟩ : ∃ d, l.length = j + d := ⟨l.length - j, by omega⟩
                have e1 := flc_take (w0 :: l) (j + 1) 0
                have e2 := flc_drop (ws := w0 :: l) (k := j + 1) (d := d) (by rw [List.length_cons]; omega)
                have e3 : l.length + 1 - (j + 1) = d := by omega
                have hA : (l.take j).length = j := by rw [List.length_take]; omega
                have hB : (l.drop j).length = d := by rw [List.length_drop]; omega
                rw [List.take_succ_cons] at e1 hsu
                rw [List.drop_succ_cons] at e2 hsu
                generalize l.take j = A at *
                generalize l.drop j = B at *
                generalize hq : j + 1 = q at *
                refine Wk.on ?_
                refine ⟨⟨by show (0 : Int) ≤ 0; omega, by show (0 : Int) ≤ ((q : Nat) : Int); omega, .inl (by show ((q : Nat) : Int) ≤ ((l.length + 1 : Nat) : Int); omega)⟩, ?_⟩
                simp only [Option.getD_some, Option.getD_none, Int.toNat_natCast, Int.toNat_zero, Nat.sub_zero, Nat.zero_add, Nat.zero_mul, Option.map_none]
                refine Wk.on ?_
                refine ⟨by rw [hfl2]; show 0 + q * 2 ≤ _; omega, ?_⟩
                refine Wk.on ?_
                refine ⟨⟨Nat.le_of_ble_eq_true rfl, by show ((q : Nat) : Int) * 16 ≤ _; omega, by omega⟩, fun h0 => by (exfalso; omega), fun h0 => ?_⟩
                rw [show ((ints (fl (w0 :: l))).drop 0).take (q * 2) = _ from e1]
                refine Wk.on ?_
                refine ⟨⟨Nat.le_of_ble_eq_true rfl, rfl, rfl, by rw [ints_len, fl_len, List.length_cons, hA, hq], by show ((q + 1 : Nat) : Int) * 16 ≤ _; omega, by omega⟩, ?_⟩
                refine Wk.on ?_
                refine ⟨⟨by show (0 : Int) ≤ ((q : Nat) : Int); omega, by show ((q : Nat) : Int) ≤ ((l.length + 1 : Nat) : Int); omega, .inl (by show ((l.length + 1 : Nat) : Int) ≤ ((l.length + 1 : Nat) : Int); omega)⟩, ?_⟩
                simp only [Option.getD_some, Option.getD_none, Int.toNat_natCast, Int.toNat_zero, Nat.sub_zero, Nat.zero_add, Nat.zero_mul, Option.map_none]
                rw [e3]
                refine Wk.on ?_
                refine ⟨by rw [hfl2]; show q * 2 + d * 2 ≤ _; omega, ?_⟩
                refine Wk.on ?_
                refine ⟨⟨Nat.le_of_ble_eq_true rfl, rfl, rfl, ?_, by show ((q + 1 + d : Nat) : Int) * 16 ≤ _; omega, by omega⟩, ?_⟩
                · show (ints (fl (w0 :: A)) ++ [AC.int .i64 (v.1 : Nat), .int .i64 (v.2 : Nat)]).length = (q + 1) * 2
                  rw [List.length_append, ints_len, fl_len, List.length_cons, hA, hq, List.length_cons, List.length_cons, List.length_nil]; omega
                rw [show q + 1 + d = (A ++ v :: B).length + 1 by rw [List.length_append, List.length_cons, hA, hB]; omega]
                refine Wk.on ?_
                have hcl : ints (fl (w0 :: A)) ++ [AC.int .i64 (v.1 : Nat), .int .i64 (v.2 : Nat)] ++ ((ints (fl (w0 :: l))).drop (q * 2)).take (d * 2) = ints (fl (w0 :: (A ++ v :: B))) := by
                  rw [e2, show [AC.int .i64 (v.1 : Nat), .int .i64 (v.2 : Nat)] = ints (fl [v]) from rfl, fl_app, fl_app]; simp
                refine Again.mk (k + 1, w0 :: (A ++ v :: B)) (Sub.new [(4, 9)] ⟨rfl, rfl, Nat.le_of_ble_eq_true rfl, Nat.le_of_ble_eq_true rfl⟩ rfl ⟨rfl, rfl, rfl, rfl, rfl, rfl, trivial⟩ ⟨by show some (ABlk.own _) = some (ABlk.own _); simp [gO, AC.ren, rn, lk], rfl, rfl, wBren g _, by show some (ABlk.row 60 2 _) = some (ABlk.row 60 2 ((ints _).map _)); rw [ints_ren]; exact congrArg (fun l => some (ABlk.row 60 2 l)) hcl, trivial⟩ rfl (by simp [tupA, hpLt, tmLt, AV.lt, AE.lt, AC.lt, LL_cons, LL_nil, idOk, ABlk.lt, ints_LL, GB, tab64_LL, gC, wB, giC, noneB, gst, tC, pC, gN, gR, rC, rB, gO, gOH, gOK, tameH, tameR]) (by simp [tupA, hpLt, tmLt, AV.lt, AE.lt, AC.lt, LL_cons, LL_nil, idOk, ABlk.lt, ints_LL, GB, tab64_LL, gC, wB, giC, noneB, gst, tC, pC, gN, gR, rC, rB, gO, gOH, gOK, tameH, tameR])) ⟨by omega, hsu.symm⟩ (by show g.ws.length - (k + 1) < g.ws.length - k; omega)
    · rw [List.take_of_length_le (by omega)] at hlk
      rw [← hlk]
      clear hlk
      rcases l with _ | ⟨w0, l⟩
      · dsimp only [gOH, gOK]
        refine Wk.on ?_
        rw [decide_eq_false (show ¬ ((k : Nat) : Int) < ((g.ws.length : Nat) : Int) by omega)]
        refine Wk.on ?_
        exact AH.Fin.nil [] ⟨rfl, rfl, rfl⟩ (by first | exact trivial | (simp [tupA, hpLt, tmLt, AV.lt, AE.lt, AC.lt, LL_cons, LL_nil, idOk, ABlk.lt, ints_LL, GB, tab64_LL, gC, wB, giC, noneB, gst, tC, pC, gN, gR, rC, rB, gO, gOH, gOK, tameH, tameR]; done) | (simp [tupA, hpLt, tmLt, AV.lt, AE.lt, AC.lt, LL_cons, LL_nil, idOk, ABlk.lt, ints_LL, GB, tab64_LL, gC, wB, giC, noneB, gst, tC, pC, gN, gR, rC, rB, gO, gOH, gOK, tameH, tameR, rdn, wrn]; done)) trivial trivial rfl (by simp [GB])
      · dsimp only [gOH, gOK]
        refine Wk.on ?_
        rw [decide_eq_false (show ¬ ((k : Nat) : Int) < ((g.ws.length : Nat) : Int) by omega)]
        refine Wk.on ?_
        exact AH.Fin.new [4] _ _ ⟨rfl, rfl, rfl⟩ rfl ⟨by show some _ = some _; exact congrArg (fun l => some (ABlk.row 60 2 l)) (ints_ren _ _).symm, trivial⟩ rfl (by simp [tupA, hpLt, tmLt, AV.lt, AE.lt, AC.lt, LL_cons, LL_nil, idOk, ABlk.lt, ints_LL, GB, tab64_LL, gC, wB, giC, noneB, gst, tC, pC, gN, gR, rC, rB, gO, gOH, gOK, tameH, tameR]) (by simp [tupA, hpLt, tmLt, AV.lt, AE.lt, AC.lt, LL_cons, LL_nil, idOk, ABlk.lt, ints_LL, GB, tab64_LL, gC, wB, giC, noneB, gst, tC, pC, gN, gR, rC, rB, gO, gOH, gOK, tameH, tameR])
end Go.Proofs.YtfphkpdobbffeaaDoor

/-
  Plain law: a tree on some places, by both.
-/
namespace Go.Proofs.YtfphkpdobbffeaaDoor
open Go Go.AH
set_option maxRecDepth 100000
set_option maxHeartbeats 1000000

/-- All places of pl lie in one group. -/
def oneG (xs : List Int) (pl : Nat) : Prop := ∀ u v, pl.testBit u = true → pl.testBit v = true → root xs u = root xs v
def rootsIn (xs : List Int) (pl n : Nat) : Nat := (List.range n).countP fun u => decide (root xs u = u) && pl.testBit u
end Go.Proofs.YtfphkpdobbffeaaDoor

/-
  Plain law: a cut tree is mended by a wire of the other one.
-/
namespace Go.Proofs.YtfphkpdobbffeaaDoor
open Go Go.AH
set_option maxRecDepth 100000
set_option maxHeartbeats 1000000

end Go.Proofs.YtfphkpdobbffeaaDoor

/-
  Wires that join places: what is joined, how many groups there are, forests. (Plain.)
-/
namespace Go.Wire

/-- The least place that is joined to a place. -/
def lb {α : Type} (e : α → Nat × Nat) : List α → Nat → Nat
  | [], u => u
  | i :: l, u => if lb e l u = max (lb e l (e i).1) (lb e l (e i).2) then min (lb e l (e i).1) (lb e l (e i).2) else lb e l u
def Jn {α : Type} (e : α → Nat × Nat) (l : List α) (u v : Nat) : Prop := lb e l u = lb e l v
variable {α : Type} {e : α → Nat × Nat}
theorem lb_le : ∀ (l : List α) (u : Nat), lb e l u ≤ u
  | [], u => Nat.le_refl u
  | i :: l, u => by
    have h := lb_le l u
    rw [lb]
    split
    · omega
    · exact h
theorem lb_hit {i : α} {l : List α} {u : Nat} (h : lb e l u = max (lb e l (e i).1) (lb e l (e i).2)) : lb e (i :: l) u = min (lb e l (e i).1) (lb e l (e i).2) := by rw [lb, if_pos h]
theorem lb_mis {i : α} {l : List α} {u : Nat} (h : lb e l u ≠ max (lb e l (e i).1) (lb e l (e i).2)) : lb e (i :: l) u = lb e l u := by rw [lb, if_neg h]
theorem lb_lb : ∀ (l : List α) (u : Nat), lb e l (lb e l u) = lb e l u
  | [], u => rfl
  | i :: l, u => by
    have h := lb_lb l u
    have hm : lb e l (min (lb e l (e i).1) (lb e l (e i).2)) = min (lb e l (e i).1) (lb e l (e i).2) := by
      rcases Nat.le_total (lb e l (e i).1) (lb e l (e i).2) with k | k
      · rw [Nat.min_eq_left k]; exact lb_lb l _
      · rw [Nat.min_eq_right k]; exact lb_lb l _
    by_cases c : lb e l u = max (lb e l (e i).1) (lb e l (e i).2)
    · rw [lb_hit c]
      by_cases d : lb e l (min (lb e l (e i).1) (lb e l (e i).2)) = max (lb e l (e i).1) (lb e l (e i).2)
      · exact lb_hit d
      · rw [lb_mis d, hm]
    · rw [lb_mis c, lb_mis (by rw [h]; exact c), h]
theorem jn_cons {i : α} {l : List α} {u v : Nat} : Jn e (i :: l) u v ↔ Jn e l u v ∨ (Jn e l u (e i).1 ∧ Jn e l (e i).2 v) ∨ (Jn e l u (e i).2 ∧ Jn e l (e i).1 v) := by
  unfold Jn
  simp only [lb]
  generalize lb e l u = x
  generalize lb e l v = y
  generalize lb e l (e i).1 = A
  generalize lb e l (e i).2 = B
  split <;> split <;> omega
theorem Jn.refl (l : List α) (u : Nat) : Jn e l u u := rfl
theorem Jn.symm {l : List α} {u v : Nat} (h : Jn e l u v) : Jn e l v u := Eq.symm h
theorem Jn.trans {l : List α} {u v w : Nat} (h : Jn e l u v) (k : Jn e l v w) : Jn e l u w := Eq.trans h k
theorem jn_mem : ∀ {l : List α} {i : α}, i ∈ l → Jn e l (e i).1 (e i).2
  | j :: l, i, h => by
    rw [jn_cons]
    rcases List.mem_cons.1 h with rfl | h
    · exact .inr (.inl ⟨rfl, rfl⟩)
    · exact .inl (jn_mem h)
structure Eqv (R : Nat → Nat → Prop) : Prop where
  refl : ∀ u, R u u
  symm : ∀ {u v}, R u v → R v u
  trans : ∀ {u v w}, R u v → R v w → R u w
theorem Jn.eqv (l : List α) : Eqv (Jn e l) := ⟨fun _ => rfl, Eq.symm, Eq.trans⟩
theorem jn_least {R : Nat → Nat → Prop} (hR : Eqv R) : ∀ {l : List α} {u v : Nat}, (∀ i ∈ l, R (e i).1 (e i).2) → Jn e l u v → R u v
  | [], u, v, _, h => by have : u = v := h; subst this; exact hR.refl u
  | i :: l, u, v, hl, h => by
    have ih : ∀ {x y}, Jn e l x y → R x y := fun h => jn_least hR (fun j hj => hl j (List.mem_cons_of_mem _ hj)) h
    have hi := hl i (List.mem_cons_self ..)
    rcases jn_cons.1 h with h | ⟨h1, h2⟩ | ⟨h1, h2⟩
    · exact ih h
    · exact hR.trans (ih h1) (hR.trans hi (ih h2))
    · exact hR.trans (ih h1) (hR.trans (hR.symm hi) (ih h2))
theorem jn_mono {l l' : List α} {u v : Nat} (hs : ∀ i ∈ l, i ∈ l') (h : Jn e l u v) : Jn e l' u v := jn_least (Jn.eqv l') (fun _ hi => jn_mem (hs _ hi)) h
theorem jn_perm {l l' : List α} {u v : Nat} (hp : l.Perm l') : Jn e l u v ↔ Jn e l' u v := ⟨jn_mono fun _ h => hp.mem_iff.1 h, jn_mono fun _ h => hp.mem_iff.2 h⟩
theorem lb_congr {l l' : List α} (h : ∀ u v, Jn e l u v ↔ Jn e l' u v) (u : Nat) : lb e l u = lb e l' u := by
  have h1 : Jn e l' u (lb e l u) := (h _ _).1 (lb_lb l u).symm
  have h2 : Jn e l u (lb e l' u) := (h _ _).2 (lb_lb l' u).symm
  have h3 : lb e l' u ≤ lb e l u := by rw [show lb e l' u = lb e l' (lb e l u) from h1]; exact lb_le _ _
  have h4 : lb e l u ≤ lb e l' u := by rw [show lb e l u = lb e l (lb e l' u) from h2]; exact lb_le _ _
  omega
/-- How many groups there are. -/
def cp {α : Type} (e : α → Nat × Nat) (n : Nat) (l : List α) : Nat := (List.range n).countP fun u => decide (lb e l u = u)
theorem cp_congr {n : Nat} {l l' : List α} (h : ∀ u v, Jn e l u v ↔ Jn e l' u v) : cp e n l = cp e n l' := by
  unfold cp
  refine List.countP_congr fun u _ => ?_
  rw [lb_congr h]
theorem cp_nil (n : Nat) : cp e n [] = n := by
  have : (List.range n).countP (fun u => decide (lb e [] u = u)) = (List.range n).length := List.countP_eq_length.2 fun u _ => decide_eq_true rfl
  rw [cp, this, List.length_range]
theorem cnt_rm (p : Nat → Bool) (M : Nat) (hp : p M = true) : ∀ n, (List.range n).countP (fun u => p u && decide (u ≠ M)) + (if M < n then 1 else 0) = (List.range n).countP p
  | 0 => rfl
  | n + 1 => by
    have ih := cnt_rm p M hp n
    simp only [List.range_succ, List.countP_append, List.countP_cons, List.countP_nil]
    by_cases e : n = M
    · subst e
      simp [hp] at ih ⊢
      omega
    · simp only [show (decide (n ≠ M)) = true by simp [e], Bool.and_true]
      rw [show (if M < n + 1 then 1 else 0) = (if M < n then 1 else 0) from by simp only [show (M < n + 1) ↔ M < n by omega]]
      omega
theorem cp_same {n : Nat} {i : α} {l : List α} (h : Jn e l (e i).1 (e i).2) : cp e n (i :: l) = cp e n l := by
  refine cp_congr fun u v => ⟨fun k => ?_, jn_mono fun j hj => List.mem_cons_of_mem _ hj⟩
  rcases jn_cons.1 k with k | ⟨k1, k2⟩ | ⟨k1, k2⟩
  · exact k
  · exact k1.trans (h.trans k2)
  · exact k1.trans (h.symm.trans k2)
theorem cp_less {n : Nat} {i : α} {l : List α} (h : ¬ Jn e l (e i).1 (e i).2) (ha : (e i).1 < n) (hb : (e i).2 < n) : cp e n (i :: l) + 1 = cp e n l := by
  have hA := lb_lb (e := e) l (e i).1
  have hB := lb_lb (e := e) l (e i).2
  have lA := lb_le (e := e) l (e i).1
  have lB := lb_le (e := e) l (e i).2
  have hne : lb e l (e i).1 ≠ lb e l (e i).2 := h
  have hM : lb e l (max (lb e l (e i).1) (lb e l (e i).2)) = max (lb e l (e i).1) (lb e l (e i).2) := by
    rcases Nat.le_total (lb e l (e i).1) (lb e l (e i).2) with k | k
    · rw [Nat.max_eq_right k]; exact hB
    · rw [Nat.max_eq_left k]; exact hA
  have hm : lb e l (min (lb e l (e i).1) (lb e l (e i).2)) = min (lb e l (e i).1) (lb e l (e i).2) := by
    rcases Nat.le_total (lb e l (e i).1) (lb e l (e i).2) with k | k
    · rw [Nat.min_eq_left k]; exact hA
    · rw [Nat.min_eq_right k]; exact hB
  have := cnt_rm (fun u => decide (lb e l u = u)) (max (lb e l (e i).1) (lb e l (e i).2)) (decide_eq_true hM) n
  rw [if_pos (by omega)] at this
  rw [cp, cp, ← this]
  congr 1
  refine List.countP_congr fun u _ => ?_
  rw [Bool.and_eq_true, decide_eq_true_eq, decide_eq_true_eq, decide_eq_true_eq]
  by_cases c : lb e l u = max (lb e l (e i).1) (lb e l (e i).2)
  · rw [lb_hit c]
    constructor
    · intro k; rw [← k, hm] at c; omega
    · rintro ⟨k1, k2⟩; omega
  · rw [lb_mis c]
    constructor
    · intro k; exact ⟨k, by omega⟩
    · exact fun k => k.1
theorem cp_pos {n : Nat} (hn : 0 < n) (l : List α) : 0 < cp e n l := by
  rw [cp, List.countP_pos_iff]
  exact ⟨0, List.mem_range.2 hn, decide_eq_true (by have := lb_le (e := e) l 0; omega)⟩
/-- The wires' ends are places. -/
def In {α : Type} (e : α → Nat × Nat) (n : Nat) (l : List α) : Prop := ∀ i ∈ l, (e i).1 < n ∧ (e i).2 < n
theorem In.tail {n : Nat} {i : α} {l : List α} (h : In e n (i :: l)) : In e n l := fun j hj => h j (List.mem_cons_of_mem _ hj)
theorem In.sub {n : Nat} {l l' : List α} (h : In e n l) (hs : ∀ i ∈ l', i ∈ l) : In e n l' := fun j hj => h j (hs j hj)
theorem cp_ge {n : Nat} : ∀ {l : List α}, In e n l → n ≤ cp e n l + l.length
  | [], _ => by rw [cp_nil]; exact Nat.le_refl _
  | i :: l, h => by
    have ih := cp_ge h.tail
    have hi := h i (List.mem_cons_self ..)
    rw [List.length_cons]
    by_cases c : Jn e l (e i).1 (e i).2
    · rw [cp_same c]; omega
    · have := cp_less c hi.1 hi.2; omega
/-- Wires without a ring. -/
def Fo {α : Type} (e : α → Nat × Nat) (n : Nat) (l : List α) : Prop := In e n l ∧ cp e n l + l.length = n
theorem Fo.nil (n : Nat) : Fo e n [] := ⟨fun i hi => absurd hi List.not_mem_nil, by rw [cp_nil]; rfl⟩
theorem fo_cons {n : Nat} {i : α} {l : List α} (hi : (e i).1 < n ∧ (e i).2 < n) : Fo e n (i :: l) ↔ Fo e n l ∧ ¬ Jn e l (e i).1 (e i).2 := by
  constructor
  · rintro ⟨h1, h2⟩
    have := cp_ge h1.tail
    rw [List.length_cons] at h2
    by_cases c : Jn e l (e i).1 (e i).2
    · rw [cp_same c] at h2; omega
    · have h3 := cp_less c hi.1 hi.2
      exact ⟨⟨h1.tail, by omega⟩, c⟩
  · rintro ⟨⟨h1, h2⟩, c⟩
    have h3 := cp_less c hi.1 hi.2
    refine ⟨fun j hj => ?_, by rw [List.length_cons]; omega⟩
    rcases List.mem_cons.1 hj with rfl | hj
    · exact hi
    · exact h1 j hj
theorem Fo.perm {n : Nat} {l l' : List α} (hp : l.Perm l') (h : Fo e n l) : Fo e n l' := by
  refine ⟨h.1.sub fun i hi => hp.mem_iff.2 hi, ?_⟩
  rw [cp_congr (fun u v => (jn_perm hp.symm)), ← hp.length_eq]; exact h.2
theorem Fo.tail {n : Nat} {i : α} {l : List α} (h : Fo e n (i :: l)) : Fo e n l := ((fo_cons (h.1 i (List.mem_cons_self ..))).1 h).1
theorem Fo.head {n : Nat} {i : α} {l : List α} (h : Fo e n (i :: l)) : ¬ Jn e l (e i).1 (e i).2 := ((fo_cons (h.1 i (List.mem_cons_self ..))).1 h).2
theorem Fo.sub {n : Nat} {l l' : List α} (hs : l'.Sublist l) : Fo e n l → Fo e n l' := by
  induction hs with
  | slnil => exact id
  | cons a _ ih => exact fun h => ih h.tail
  | cons_cons a hs ih =>
    intro h
    exact (fo_cons (h.1 _ (List.mem_cons_self ..))).2 ⟨ih h.tail, fun k => h.head (jn_mono (fun j hj => hs.subset hj) k)⟩
theorem Fo.nodup {n : Nat} : ∀ {l : List α}, Fo e n l → l.Nodup
  | [], _ => List.nodup_nil
  | i :: l, h => List.nodup_cons.2 ⟨fun hi => h.head (jn_mem hi), Fo.nodup h.tail⟩
theorem Fo.len {n : Nat} {l : List α} (hn : 0 < n) (h : Fo e n l) : l.length + 1 ≤ n := by
  have := cp_pos (e := e) hn l
  have := h.2
  omega
/-- Wires of which none can be spared. -/
theorem least_join [DecidableEq α] {x y : Nat} : ∀ (k : Nat) (l : List α), l.length ≤ k → Jn e l x y → ∃ M, M.Sublist l ∧ Jn e M x y ∧ ∀ f ∈ M, ¬ Jn e (M.erase f) x y
  | 0, l, hk, h => ⟨l, List.Sublist.refl l, h, fun f hf => by
      have : l = [] := List.length_eq_zero_iff.1 (by omega)
      rw [this] at hf
      exact absurd hf List.not_mem_nil⟩
  | k + 1, l, hk, h => by
    by_cases c : ∃ f ∈ l, Jn e (l.erase f) x y
    · obtain ⟨f, hf, hj⟩ := c
      obtain ⟨M, h1, h2, h3⟩ := least_join k (l.erase f) (by rw [List.length_erase_of_mem hf]; omega) hj
      exact ⟨M, h1.trans List.erase_sublist, h2, h3⟩
    · exact ⟨l, List.Sublist.refl l, h, fun f hf hj => c ⟨f, hf, hj⟩⟩
theorem Fo.spare [DecidableEq α] {n : Nat} {l M : List α} {x y : Nat} {f : α} (h : Fo e n l) (hM : M.Sublist l) (hf : f ∈ M) (h1 : Jn e M x y) (h2 : ¬ Jn e (M.erase f) x y) : ¬ Jn e (l.erase f) x y := by
  intro k
  have hfl := hM.subset hf
  have h0 : Fo e n (f :: l.erase f) := Fo.perm (List.perm_cons_erase hfl) h
  have hs : ∀ j ∈ M.erase f, j ∈ l.erase f := fun j hj => (hM.erase f).subset hj
  have h3 := (jn_perm (List.perm_cons_erase hf)).1 h1
  rcases jn_cons.1 h3 with h3 | ⟨h3, h4⟩ | ⟨h3, h4⟩
  · exact h2 h3
  · exact h0.head ((jn_mono hs h3).symm.trans (k.trans (jn_mono hs h4).symm))
  · exact h0.head ((jn_mono hs h4).trans (k.symm.trans (jn_mono hs h3)))
/-- One wire in another one's place. -/
theorem Fo.turn [DecidableEq α] {n : Nat} {i f : α} {l : List α} (h : Fo e n l) (hi : (e i).1 < n ∧ (e i).2 < n) (hf : f ∈ l) (hn : ¬ Jn e (l.erase f) (e i).1 (e i).2) : Fo e n (i :: l.erase f) :=
  (fo_cons hi).2 ⟨h.sub List.erase_sublist, hn⟩
end Go.Wire

/-
  Two trees on all places, or a way to divide the places that too few wires cross. (Plain.)
-/
namespace Go.Wire
variable {e : Nat → Nat × Nat} {n m : Nat}

/-- Two forests without a common wire. -/
structure Pk (e : Nat → Nat × Nat) (n m : Nat) (P : Bool → List Nat) : Prop where
  fo : ∀ b, Fo e n (P b)
  lt : ∀ b, ∀ i ∈ P b, i < m
  dj : ∀ b, ∀ i ∈ P b, i ∉ P (!b)
def szP (P : Bool → List Nat) : Nat := (P true).length + (P false).length
def upd (P : Bool → List Nat) (b : Bool) (l : List Nat) : Bool → List Nat := fun c => if c = b then l else P c
theorem upd_eq (P : Bool → List Nat) (b : Bool) (l : List Nat) : upd P b l b = l := if_pos rfl
theorem upd_ne (P : Bool → List Nat) (b : Bool) (l : List Nat) : upd P b l (!b) = P (!b) := by cases b <;> rfl
theorem szP_b (P : Bool → List Nat) (b : Bool) : szP P = (P b).length + (P (!b)).length := by
  cases b
  · exact Nat.add_comm _ _
  · rfl
structure Opt (e : Nat → Nat × Nat) (n m : Nat) (P : Bool → List Nat) : Prop extends Pk e n m P where
  most : ∀ Q, Pk e n m Q → szP Q ≤ szP P
theorem Pk.put {P : Bool → List Nat} {b : Bool} {l : List Nat} (h : Pk e n m P) (hl : Fo e n l) (hm : ∀ i ∈ l, i < m) (hd : ∀ i ∈ l, i ∉ P (!b)) : Pk e n m (upd P b l) := by
  refine ⟨fun c => ?_, fun c i hi => ?_, fun c i hi => ?_⟩
  · by_cases k : c = b
    · subst k; rw [upd_eq]; exact hl
    · have k : c = !b := by revert k; cases c <;> cases b <;> simp
      subst k; rw [upd_ne]; exact h.fo _
  · by_cases k : c = b
    · subst k; rw [upd_eq] at hi; exact hm i hi
    · have k : c = !b := by revert k; cases c <;> cases b <;> simp
      subst k; rw [upd_ne] at hi; exact h.lt _ i hi
  · by_cases k : c = b
    · subst k; rw [upd_eq] at hi; rw [upd_ne]; exact hd i hi
    · have k : c = !b := by revert k; cases c <;> cases b <;> simp
      subst k; rw [upd_ne] at hi; rw [Bool.not_not, upd_eq]; exact fun hi2 => hd i hi2 hi
/-- One wire that is not used in another one's place. -/
def turnP (P : Bool → List Nat) (b : Bool) (i f : Nat) : Bool → List Nat := upd P b (i :: (P b).erase f)
inductive Rc (e : Nat → Nat × Nat) (n m : Nat) (P : Bool → List Nat) : (Bool → List Nat) → Prop
  | base : Rc e n m P P
  | turn {Q : Bool → List Nat} {b : Bool} {i f : Nat} : Rc e n m P Q → i < m → (∀ c, i ∉ Q c) → f ∈ Q b → Fo e n (i :: (Q b).erase f) → Rc e n m P (turnP Q b i f)
/-- The wires' ends are places. -/
def Ends (e : Nat → Nat × Nat) (n m : Nat) : Prop := ∀ i, i < m → (e i).1 < n ∧ (e i).2 < n
theorem Opt.turn {Q : Bool → List Nat} {b : Bool} {i f : Nat} (h : Opt e n m Q) (hi : i < m) (hn : ∀ c, i ∉ Q c) (hf : f ∈ Q b) (hfo : Fo e n (i :: (Q b).erase f)) : Opt e n m (turnP Q b i f) ∧ ∀ c, f ∉ turnP Q b i f c := by
  have hfi : f ≠ i := fun k => hn b (k ▸ hf)
  have hnd := (h.fo b).nodup
  refine ⟨⟨h.put hfo (fun j hj => ?_) (fun j hj => ?_), fun Z hZ => ?_⟩, fun c => ?_⟩
  · rcases List.mem_cons.1 hj with rfl | hj
    · exact hi
    · exact h.lt b j (List.mem_of_mem_erase hj)
  · rcases List.mem_cons.1 hj with rfl | hj
    · exact hn _
    · exact h.dj b j (List.mem_of_mem_erase hj)
  · refine Nat.le_trans (h.most Z hZ) ?_
    rw [szP_b Q b, szP_b (turnP Q b i f) b]
    unfold turnP
    rw [upd_eq, upd_ne, List.length_cons, List.length_erase_of_mem hf]
    have := List.length_pos_of_mem hf
    omega
  · unfold turnP
    by_cases k : c = b
    · subst k
      rw [upd_eq]
      intro hc
      rcases List.mem_cons.1 hc with hc | hc
      · exact hfi hc
      · exact (List.Nodup.not_mem_erase hnd) hc
    · have k : c = !b := by revert k; cases c <;> cases b <;> simp
      subst k; rw [upd_ne]; exact h.dj b f hf
theorem Rc.opt {P Q : Bool → List Nat} (hP : Opt e n m P) (h : Rc e n m P Q) : Opt e n m Q := by
  induction h with
  | base => exact hP
  | turn _ hi hn hf hfo ih => exact (ih.turn hi hn hf hfo).1
/-- A wire that some pair does not use. -/
def Lo (e : Nat → Nat × Nat) (n m : Nat) (P : Bool → List Nat) (i : Nat) : Prop := ∃ Q, Rc e n m P Q ∧ i < m ∧ ∀ c, i ∉ Q c
theorem Opt.joined {Q : Bool → List Nat} (he : Ends e n m) (h : Opt e n m Q) {i : Nat} (hi : i < m) (hn : ∀ c, i ∉ Q c) (b : Bool) : Jn e (Q b) (e i).1 (e i).2 := by
  apply Classical.byContradiction
  intro k
  have hfo := (fo_cons (he i hi)).2 ⟨h.fo b, k⟩
  have h2 := h.most _ (h.toPk.put (b := b) hfo (fun j hj => by
    rcases List.mem_cons.1 hj with rfl | hj
    · exact hi
    · exact h.lt b j hj) (fun j hj => by
    rcases List.mem_cons.1 hj with rfl | hj
    · exact hn _
    · exact h.dj b j hj))
  rw [szP_b Q b, szP_b (upd Q b (i :: Q b)) b, upd_eq, upd_ne, List.length_cons] at h2
  omega
/-- A way of wires that some pair does not use. -/
theorem loose_way {P Q : Bool → List Nat} (he : Ends e n m) (hP : Opt e n m P) (hQ : Rc e n m P Q) {i : Nat} (hi : i < m) (hn : ∀ c, i ∉ Q c) (b : Bool) : ∃ M : List Nat, (∀ f ∈ M, f ∈ Q b ∧ Lo e n m P f) ∧ Jn e M (e i).1 (e i).2 := by
  have hO := hQ.opt hP
  obtain ⟨M, h1, h2, h3⟩ := least_join _ (Q b) (Nat.le_refl _) (hO.joined he hi hn b)
  refine ⟨M, fun f hf => ⟨h1.subset hf, ?_⟩, h2⟩
  have hfo := (hO.fo b).turn (he i hi) (h1.subset hf) ((hO.fo b).spare h1 hf h2 (h3 f hf))
  exact ⟨_, .turn hQ hi hn (h1.subset hf) hfo, hO.lt b f (h1.subset hf), (hO.turn hi hn (h1.subset hf) hfo).2⟩
/-- Joined by such wires of a forest. -/
def Jl (e : Nat → Nat × Nat) (n m : Nat) (P Q : Bool → List Nat) (b : Bool) (u v : Nat) : Prop := ∃ M : List Nat, (∀ f ∈ M, f ∈ Q b ∧ Lo e n m P f) ∧ Jn e M u v
theorem Jl.eqv (e : Nat → Nat × Nat) (n m : Nat) (P Q : Bool → List Nat) (b : Bool) : Eqv (Jl e n m P Q b) where
  refl u := ⟨[], fun f hf => absurd hf List.not_mem_nil, rfl⟩
  symm := fun ⟨M, h1, h2⟩ => ⟨M, h1, h2.symm⟩
  trans := fun ⟨M, h1, h2⟩ ⟨N, k1, k2⟩ => ⟨M ++ N, fun f hf => (List.mem_append.1 hf).elim (h1 f) (k1 f), (jn_mono (fun _ hj => List.mem_append_left _ hj) h2).trans (jn_mono (fun _ hj => List.mem_append_right _ hj) k2)⟩
theorem Jl.one {P Q : Bool → List Nat} {b : Bool} {f : Nat} (h1 : f ∈ Q b) (h2 : Lo e n m P f) : Jl e n m P Q b (e f).1 (e f).2 := ⟨[f], fun g hg => by rw [List.mem_singleton.1 hg]; exact ⟨h1, h2⟩, jn_mem (List.mem_singleton.2 rfl)⟩
theorem Jl.turn {P Q : Bool → List Nat} {b : Bool} {i f : Nat} (he : Ends e n m) (hP : Opt e n m P) (hQ : Rc e n m P Q) (hi : i < m) (hn : ∀ c, i ∉ Q c) (hf : f ∈ Q b) (hfo : Fo e n (i :: (Q b).erase f)) (c : Bool) (u v : Nat) : Jl e n m P (turnP Q b i f) c u v ↔ Jl e n m P Q c u v := by
  have hO := hQ.opt hP
  have hR : Rc e n m P (turnP Q b i f) := .turn hQ hi hn hf hfo
  have hfn := (hO.turn hi hn hf hfo).2
  have hfm := hO.lt b f hf
  have hLi : Lo e n m P i := ⟨Q, hQ, hi, hn⟩
  by_cases k : c = b
  · subst k
    constructor
    · rintro ⟨M, h1, h2⟩
      refine jn_least (Jl.eqv e n m P Q c) (fun j hj => ?_) h2
      obtain ⟨h3, h4⟩ := h1 j hj
      unfold turnP at h3
      rw [upd_eq] at h3
      rcases List.mem_cons.1 h3 with rfl | h3
      · exact loose_way he hP hQ hi hn c
      · exact Jl.one (List.mem_of_mem_erase h3) h4
    · rintro ⟨M, h1, h2⟩
      refine jn_least (Jl.eqv e n m P (turnP Q c i f) c) (fun j hj => ?_) h2
      obtain ⟨h3, h4⟩ := h1 j hj
      by_cases hjf : j = f
      · subst hjf
        exact loose_way he hP hR hfm hfn c
      · refine Jl.one ?_ h4
        unfold turnP
        rw [upd_eq]
        exact List.mem_cons_of_mem _ ((List.mem_erase_of_ne hjf).2 h3)
  · have k : c = !b := by revert k; cases c <;> cases b <;> simp
    subst k
    unfold Jl turnP
    rw [upd_ne]
theorem Jl.same {P Q : Bool → List Nat} (he : Ends e n m) (hP : Opt e n m P) (hQ : Rc e n m P Q) : ∀ (c : Bool) (u v : Nat), Jl e n m P Q c u v ↔ Jl e n m P P c u v := by
  induction hQ with
  | base => exact fun c u v => Iff.rfl
  | turn hQ hi hn hf hfo ih => exact fun c u v => (Jl.turn he hP hQ hi hn hf hfo c u v).trans (ih c u v)
theorem Jl.lo {P : Bool → List Nat} (he : Ends e n m) (hP : Opt e n m P) {i : Nat} (h : Lo e n m P i) (c : Bool) : Jl e n m P P c (e i).1 (e i).2 := by
  obtain ⟨Q, hQ, hi, hn⟩ := h
  exact (Jl.same he hP hQ c _ _).1 (loose_way he hP hQ hi hn c)
/-- A tree on all places. -/
def Tree (e : Nat → Nat × Nat) (n : Nat) (l : List Nat) : Prop := Fo e n l ∧ cp e n l = 1
/-- How many wires join places with different numbers. -/
def crs (e : Nat → Nat × Nat) (m : Nat) (q : Nat → Nat) : Nat := (List.range m).countP fun i => decide (q (e i).1 ≠ q (e i).2)
end Go.Wire

/-
  The switching game: more never harms; two trees win; who wins moving second has two trees. (Plain.)
-/
namespace Go.Wire
variable {e : Nat → Nat × Nat} {n m s t : Nat}

/-- Whether Short wins, with F free and K kept. -/
def Sw (e : Nat → Nat × Nat) (s t : Nat) : Nat → List Nat → List Nat → Bool → Prop
  | 0, _, K, _ => Jn e K s t
  | n + 1, F, K, true => ∀ i ∈ F, Sw e s t n (F.erase i) K false
  | n + 1, F, K, false => ∃ i ∈ F, Sw e s t n (F.erase i) (i :: K) true
theorem Sw.kept : ∀ {n : Nat} {F K K' : List Nat} {c : Bool}, (∀ i ∈ K, i ∈ K') → Sw e s t n F K c → Sw e s t n F K' c
  | 0, F, K, K', c, hs, h => jn_mono hs h
  | n + 1, F, K, K', true, hs, h => fun i hi => Sw.kept hs (h i hi)
  | n + 1, F, K, K', false, hs, ⟨i, hi, h⟩ => ⟨i, hi, Sw.kept (fun j hj => by
      rcases List.mem_cons.1 hj with rfl | hj
      · exact List.mem_cons_self ..
      · exact List.mem_cons_of_mem _ (hs j hj)) h⟩
theorem Sw.swap {n : Nat} {F K : List Nat} {i j : Nat} {c : Bool} (h : Sw e s t n F (i :: j :: K) c) : Sw e s t n F (j :: i :: K) c := Sw.kept (fun x hx => by
  simp only [List.mem_cons] at hx ⊢
  rcases hx with h | h | h
  · exact .inr (.inl h)
  · exact .inl h
  · exact .inr (.inr h)) h
structure More (e : Nat → Nat × Nat) (s t n : Nat) : Prop where
  to : ∀ {F K : List Nat}, F.length = n → Sw e s t n F K true → Sw e s t n F K false
  keep : ∀ {F K : List Nat} {w : Nat} {c : Bool}, F.length = n + 1 → w ∈ F → Sw e s t (n + 1) F K c → Sw e s t n (F.erase w) (w :: K) c
  cut : ∀ {F K : List Nat} {w : Nat} {c : Bool}, F.length = n + 1 → w ∈ F → Sw e s t n (F.erase w) K c → Sw e s t (n + 1) F K c
theorem one_mem {F : List Nat} {w i : Nat} (h : F.length = 1) (hw : w ∈ F) (hi : i ∈ F) : i = w := by
  obtain ⟨x, rfl⟩ := List.length_eq_one_iff.1 h
  rw [List.mem_singleton.1 hw, List.mem_singleton.1 hi]
theorem erase_in {F : List Nat} {w i : Nat} (hw : w ∈ F) (hi : i ∈ F.erase w) : w ∈ F.erase i := by
  by_cases h : w = i
  · subst h; exact hi
  · exact (List.mem_erase_of_ne h).2 hw
theorem Sw.more (e : Nat → Nat × Nat) (s t : Nat) : ∀ n, More e s t n
  | 0 => by
    have to : ∀ {F K : List Nat}, F.length = 0 → Sw e s t 0 F K true → Sw e s t 0 F K false := fun _ h => h
    refine ⟨to, fun {F K w c} hl hw h => ?_, fun {F K w c} hl hw h => ?_⟩
    · cases c
      · obtain ⟨i, hi, h⟩ := h
        obtain rfl := one_mem hl hw hi
        exact h
      · exact jn_mono (fun j hj => List.mem_cons_of_mem _ hj) (h w hw)
    · cases c
      · exact ⟨w, hw, jn_mono (fun j hj => List.mem_cons_of_mem _ hj) h⟩
      · intro i hi
        exact h
  | n + 1 => by
    have ih := Sw.more e s t n
    have to : ∀ {F K : List Nat}, F.length = n + 1 → Sw e s t (n + 1) F K true → Sw e s t (n + 1) F K false := fun {F K} hl h => by
      cases F with
      | nil => cases hl
      | cons i F => exact ⟨i, List.mem_cons_self .., ih.keep hl (List.mem_cons_self ..) h⟩
    refine ⟨to, fun {F K w c} hl hw h => ?_, fun {F K w c} hl hw h => ?_⟩
    · have hle : (F.erase w).length = n + 1 := by rw [List.length_erase_of_mem hw, hl]; rfl
      cases c
      · obtain ⟨i, hi, h⟩ := h
        by_cases k : i = w
        · subst k; exact to hle h
        · have hiw : i ∈ F.erase w := (List.mem_erase_of_ne k).2 hi
          have hle2 : (F.erase i).length = n + 1 := by rw [List.length_erase_of_mem hi, hl]; rfl
          refine ⟨i, hiw, ?_⟩
          rw [List.erase_comm]
          exact Sw.swap (ih.keep hle2 (erase_in hw hiw) h)
      · intro i hi
        have hiF := List.mem_of_mem_erase hi
        have hle2 : (F.erase i).length = n + 1 := by rw [List.length_erase_of_mem hiF, hl]; rfl
        rw [List.erase_comm]
        exact ih.keep hle2 (erase_in hw hi) (h i hiF)
    · have hle : (F.erase w).length = n + 1 := by rw [List.length_erase_of_mem hw, hl]; rfl
      cases c
      · obtain ⟨i, hi, h⟩ := h
        have hiF := List.mem_of_mem_erase hi
        have hle2 : (F.erase i).length = n + 1 := by rw [List.length_erase_of_mem hiF, hl]; rfl
        refine ⟨i, hiF, ?_⟩
        rw [List.erase_comm] at h
        exact ih.cut hle2 (erase_in hw hi) h
      · intro i hi
        have hle2 : (F.erase i).length = n + 1 := by rw [List.length_erase_of_mem hi, hl]; rfl
        by_cases k : i = w
        · subst k; exact to hle h
        · have hiw : i ∈ F.erase w := (List.mem_erase_of_ne k).2 hi
          have h := h i hiw
          rw [List.erase_comm] at h
          exact ih.cut hle2 (erase_in hw hiw) h
theorem exch {f b : Nat} {l : List Nat} (h : Jn e (f :: l) (e b).1 (e b).2) (hn : ¬ Jn e l (e b).1 (e b).2) : Jn e (b :: l) (e f).1 (e f).2 := by
  have up : ∀ {x y}, Jn e l x y → Jn e (b :: l) x y := fun h => jn_mono (fun j hj => List.mem_cons_of_mem _ hj) h
  have hb : Jn e (b :: l) (e b).1 (e b).2 := jn_mem (List.mem_cons_self ..)
  rcases jn_cons.1 h with h | ⟨h1, h2⟩ | ⟨h1, h2⟩
  · exact absurd h hn
  · exact (up h1).symm.trans (hb.trans (up h2).symm)
  · exact (up h2).trans (hb.symm.trans (up h1))
/-- Two ways to join some places, with no free wire in common. -/
structure SI (e : Nat → Nat × Nat) (X : Nat → Prop) (F K A B : List Nat) : Prop where
  a : ∀ i ∈ A, i ∈ F
  b : ∀ i ∈ B, i ∈ F
  dj : ∀ i ∈ A, i ∉ B
  ae : ∀ i ∈ A, X (e i).1 ∧ X (e i).2
  be : ∀ i ∈ B, X (e i).1 ∧ X (e i).2
  aj : ∀ {u v}, X u → X v → Jn e (K ++ A) u v
  bj : ∀ {u v}, X u → X v → Jn e (K ++ B) u v
theorem SI.swap {X : Nat → Prop} {F K A B : List Nat} (h : SI e X F K A B) : SI e X F K B A := ⟨h.b, h.a, fun i hb ha => h.dj i ha hb, h.be, h.ae, h.bj, h.aj⟩
theorem SI.pass {X : Nat → Prop} {F K A B : List Nat} (h : SI e X F K A B) {b : Nat} : SI e X (F.erase b) (b :: K) (A.filter fun j => decide (j ≠ b)) (B.filter fun j => decide (j ≠ b)) := by
  have key : ∀ {C : List Nat} {u v : Nat}, Jn e (K ++ C) u v → Jn e ((b :: K) ++ C.filter fun j => decide (j ≠ b)) u v := fun {C u v} hj => jn_mono (fun j hj => by
    by_cases k : j = b
    · subst k; exact List.mem_append_left _ (List.mem_cons_self ..)
    · rcases List.mem_append.1 hj with hj | hj
      · exact List.mem_append_left _ (List.mem_cons_of_mem _ hj)
      · exact List.mem_append_right _ (List.mem_filter.2 ⟨hj, decide_eq_true k⟩)) hj
  exact ⟨fun i hi => (List.mem_erase_of_ne (of_decide_eq_true (List.mem_filter.1 hi).2)).2 (h.a i (List.mem_filter.1 hi).1), fun i hi => (List.mem_erase_of_ne (of_decide_eq_true (List.mem_filter.1 hi).2)).2 (h.b i (List.mem_filter.1 hi).1), fun i hi hb => h.dj i (List.mem_filter.1 hi).1 (List.mem_filter.1 hb).1, fun i hi => h.ae i (List.mem_filter.1 hi).1, fun i hi => h.be i (List.mem_filter.1 hi).1, fun hu hv => key (h.aj hu hv), fun hu hv => key (h.bj hu hv)⟩
/-- The reply to a cut wire. -/
theorem SI.reply {X : Nat → Prop} {F K A B : List Nat} (h : SI e X F K A B) {c : Nat} (hc : c ∈ A) (hn : ¬ Jn e (K ++ A.filter fun j => decide (j ≠ c)) (e c).1 (e c).2) : ∃ b ∈ B, b ≠ c ∧ SI e X ((F.erase c).erase b) (b :: K) (A.filter fun j => decide (j ≠ c)) (B.filter fun j => decide (j ≠ b)) := by
  obtain ⟨xc1, xc2⟩ := h.ae c hc
  obtain ⟨A', hA'⟩ : ∃ A', A' = A.filter fun j => decide (j ≠ c) := ⟨_, rfl⟩
  rw [← hA'] at hn ⊢
  have hex : ∃ b ∈ B, ¬ Jn e (K ++ A') (e b).1 (e b).2 := by
    apply Classical.byContradiction
    intro hno
    refine hn (jn_least (Jn.eqv _) (fun i hi => ?_) (h.bj xc1 xc2))
    rcases List.mem_append.1 hi with hi | hi
    · exact jn_mem (List.mem_append_left _ hi)
    · exact Classical.byContradiction fun k => hno ⟨i, hi, k⟩
  obtain ⟨b, hb, hbn⟩ := hex
  have hbc : b ≠ c := fun k => h.dj c hc (k ▸ hb)
  have hcA : ∀ {u v}, Jn e (K ++ A) u v → Jn e (c :: (K ++ A')) u v := fun hj => jn_mono (fun j hj => by
    by_cases k : j = c
    · exact k ▸ List.mem_cons_self ..
    · refine List.mem_cons_of_mem _ ?_
      rcases List.mem_append.1 hj with hj | hj
      · exact List.mem_append_left _ hj
      · exact List.mem_append_right _ (hA' ▸ List.mem_filter.2 ⟨hj, decide_eq_true k⟩)) hj
  obtain ⟨xb1, xb2⟩ := h.be b hb
  have hx := exch (hcA (h.aj xb1 xb2)) hbn
  refine ⟨b, hb, hbc, fun i hi => ?_, fun i hi => ?_, fun i hi hi2 => ?_, fun i hi => ?_, fun i hi => h.be i (List.mem_filter.1 hi).1, fun hu hv => ?_, fun hu hv => ?_⟩
  · rw [hA'] at hi
    obtain ⟨h1, h2⟩ := List.mem_filter.1 hi
    exact (List.mem_erase_of_ne (fun k : i = b => h.dj i h1 (k ▸ hb))).2 ((List.mem_erase_of_ne (of_decide_eq_true h2)).2 (h.a i h1))
  · obtain ⟨h1, h2⟩ := List.mem_filter.1 hi
    exact (List.mem_erase_of_ne (of_decide_eq_true h2)).2 ((List.mem_erase_of_ne (fun k : i = c => h.dj c hc (k ▸ h1))).2 (h.b i h1))
  · rw [hA'] at hi
    exact h.dj i (List.mem_filter.1 hi).1 (List.mem_filter.1 hi2).1
  · rw [hA'] at hi
    exact h.ae i (List.mem_filter.1 hi).1
  · refine jn_least (Jn.eqv _) (fun i hi => ?_) (hcA (h.aj hu hv))
    rcases List.mem_cons.1 hi with rfl | hi
    · exact jn_mono (fun j hj => hj) hx
    · exact jn_mem (List.mem_cons_of_mem _ hi)
  · refine jn_mono (fun j hj => ?_) (h.bj hu hv)
    by_cases k : j = b
    · exact k ▸ List.mem_append_left _ (List.mem_cons_self ..)
    · rcases List.mem_append.1 hj with hj | hj
      · exact List.mem_append_left _ (List.mem_cons_of_mem _ hj)
      · exact List.mem_append_right _ (List.mem_filter.2 ⟨hj, decide_eq_true k⟩)
theorem SI.cutA {X : Nat → Prop} {F K A B : List Nat} (h : SI e X F K A B) {c : Nat} (hc : c ∈ A) (hj : Jn e (K ++ A.filter fun j => decide (j ≠ c)) (e c).1 (e c).2) : SI e X (F.erase c) K (A.filter fun j => decide (j ≠ c)) B := by
  refine ⟨fun i hi => ?_, fun i hi => (List.mem_erase_of_ne (fun k : i = c => h.dj c hc (k ▸ hi))).2 (h.b i hi), fun i hi => h.dj i (List.mem_filter.1 hi).1, fun i hi => h.ae i (List.mem_filter.1 hi).1, h.be, fun hu hv => ?_, h.bj⟩
  · obtain ⟨h1, h2⟩ := List.mem_filter.1 hi
    exact (List.mem_erase_of_ne (of_decide_eq_true h2)).2 (h.a i h1)
  · refine jn_least (Jn.eqv _) (fun i hi => ?_) (h.aj hu hv)
    by_cases k : i = c
    · exact k ▸ hj
    · rcases List.mem_append.1 hi with hi | hi
      · exact jn_mem (List.mem_append_left _ hi)
      · exact jn_mem (List.mem_append_right _ (List.mem_filter.2 ⟨hi, decide_eq_true k⟩))
theorem SI.cutN {X : Nat → Prop} {F K A B : List Nat} (h : SI e X F K A B) {c : Nat} (ha : c ∉ A) (hb : c ∉ B) : SI e X (F.erase c) K A B :=
  ⟨fun i hi => (List.mem_erase_of_ne (fun k : i = c => ha (k ▸ hi))).2 (h.a i hi), fun i hi => (List.mem_erase_of_ne (fun k : i = c => hb (k ▸ hi))).2 (h.b i hi), h.dj, h.ae, h.be, h.aj, h.bj⟩
theorem SI.joined {X : Nat → Prop} {K A B : List Nat} (h : SI e X [] K A B) {u v : Nat} (hu : X u) (hv : X v) : Jn e K u v :=
  jn_mono (fun i hi => by
    rcases List.mem_append.1 hi with hi | hi
    · exact hi
    · exact absurd (h.a i hi) List.not_mem_nil) (h.aj hu hv)
/-- Two trees win. -/
theorem SI.wins {X : Nat → Prop} (hs : X s) (ht : X t) : ∀ (k n : Nat) {F K A B : List Nat}, n ≤ k → F.length = n → SI e X F K A B → Sw e s t n F K true
  | k, 0, F, K, A, B, _, hl, h => by
    obtain rfl := List.length_eq_zero_iff.1 hl
    exact h.joined hs ht
  | 0, n + 1, F, K, A, B, hk, hl, h => by omega
  | k + 1, n + 1, F, K, A, B, hk, hl, h => by
    intro c hc
    have hlc : (F.erase c).length = n := by rw [List.length_erase_of_mem hc, hl]; rfl
    cases n with
    | zero =>
      show Jn e K s t
      have h0 : F = [c] := by
        obtain ⟨x, rfl⟩ := List.length_eq_one_iff.1 hl
        rw [List.mem_singleton.1 hc]
      subst h0
      by_cases hca : c ∈ A
      · refine jn_mono (fun i hi => ?_) (h.bj hs ht)
        rcases List.mem_append.1 hi with hi | hi
        · exact hi
        · have := List.mem_singleton.1 (h.b i hi)
          exact absurd (this ▸ hi) (h.dj c hca)
      · refine jn_mono (fun i hi => ?_) (h.aj hs ht)
        rcases List.mem_append.1 hi with hi | hi
        · exact hi
        · have := List.mem_singleton.1 (h.a i hi)
          exact absurd (this ▸ hi) hca
    | succ n =>
      have go : ∀ {A B : List Nat}, SI e X (F.erase c) K A B → Sw e s t (n + 1) (F.erase c) K false := fun {A B} h2 => by
        cases hF : F.erase c with
        | nil => rw [hF] at hlc; cases hlc
        | cons b G =>
          rw [hF] at h2
          refine ⟨b, List.mem_cons_self .., SI.wins hs ht k n (by omega) ?_ (h2.pass (b := b))⟩
          rw [List.length_erase_of_mem (List.mem_cons_self ..), ← hF, hlc]; rfl
      have two : ∀ {A B : List Nat}, SI e X F K A B → c ∈ A → Sw e s t (n + 1) (F.erase c) K false := fun {A B} h2 hca => by
        by_cases hj : Jn e (K ++ A.filter fun j => decide (j ≠ c)) (e c).1 (e c).2
        · exact go (h2.cutA hca hj)
        · obtain ⟨b, hb, hbc, h3⟩ := h2.reply hca hj
          have hbF : b ∈ F.erase c := (List.mem_erase_of_ne hbc).2 (h2.b b hb)
          exact ⟨b, hbF, SI.wins hs ht k n (by omega) (by rw [List.length_erase_of_mem hbF, hlc]; rfl) h3⟩
      by_cases hca : c ∈ A
      · exact two h hca
      · by_cases hcb : c ∈ B
        · exact two h.swap hcb
        · exact go (h.cutN hca hcb)
end Go.Wire

/-
  Lehman's theorem: who wins moving second has two trees. (Plain.)
-/
namespace Go.Wire
variable {e : Nat → Nat × Nat} {n m s t z : Nat}

/-- Cut wins, with the other one to move: what is free is two forests with the wire between the ends (z), and wires that join nothing more. -/
structure CS (e : Nat → Nat × Nat) (n z : Nat) (F K A B L : List Nat) : Prop where
  k : ∀ i ∈ K, Jn e L (e i).1 (e i).2
  f : ∀ i ∈ F, i ∈ A ∨ i ∈ B ∨ Jn e L (e i).1 (e i).2
  a : Fo e n (z :: (A ++ L))
  b : Fo e n (z :: (B ++ L))
/-- Cut to move: one wire may be too much. -/
structure CC (e : Nat → Nat × Nat) (n z : Nat) (F K A B L : List Nat) : Prop where
  k : ∀ i ∈ K, Jn e L (e i).1 (e i).2
  f : ∀ i ∈ F, i ∈ A ∨ i ∈ B ∨ Jn e L (e i).1 (e i).2
  a : Fo e n (z :: (A ++ L))
  b : Fo e n (z :: (B ++ L)) ∨ ∃ b ∈ B, Fo e n (z :: (B.erase b ++ L))
theorem CS.swap {F K A B L : List Nat} (h : CS e n z F K A B L) : CS e n z F K B A L := ⟨h.k, fun i hi => by
  rcases h.f i hi with h | h | h
  · exact .inr (.inl h)
  · exact .inl h
  · exact .inr (.inr h), h.b, h.a⟩
/-- Two lists without a common wire, forests, that join the same places, the ends among them. -/
structure Pair (e : Nat → Nat × Nat) (n m s t : Nat) (A B : List Nat) : Prop where
  fa : Fo e n A
  fb : Fo e n B
  la : ∀ i ∈ A, i < m
  lb : ∀ i ∈ B, i < m
  dj : ∀ i ∈ A, i ∉ B
  same : ∀ u v, Jn e A u v ↔ Jn e B u v
  st : Jn e A s t
theorem Fo.same {A B C : List Nat} (hA : Fo e n (C ++ A)) (hB : Fo e n B) (h : ∀ u v, Jn e A u v ↔ Jn e B u v) : Fo e n (C ++ B) := by
  have hin : In e n (C ++ B) := fun i hi => by
    rcases List.mem_append.1 hi with hi | hi
    · exact hA.1 i (List.mem_append_left _ hi)
    · exact hB.1 i hi
  have hA0 : Fo e n A := hA.sub (List.sublist_append_right ..)
  have key : ∀ {A B : List Nat}, (∀ u v, Jn e A u v ↔ Jn e B u v) → ∀ {u v}, Jn e (C ++ A) u v → Jn e (C ++ B) u v := fun {A B} h {u v} hj => jn_least (Jn.eqv _) (fun i hi => by
    rcases List.mem_append.1 hi with hi | hi
    · exact jn_mem (List.mem_append_left _ hi)
    · exact jn_mono (fun j hj => List.mem_append_right _ hj) ((h _ _).1 (jn_mem hi))) hj
  have h1 : cp e n (C ++ A) = cp e n (C ++ B) := cp_congr fun u v => ⟨key h, key fun u v => (h u v).symm⟩
  have h2 : cp e n A = cp e n B := cp_congr h
  have h3 := hA.2
  have h4 := hA0.2
  have h5 := hB.2
  rw [List.length_append] at h3
  exact ⟨hin, by rw [← h1, List.length_append]; omega⟩
end Go.Wire

/-
  Wires as pairs of places: a wire made short; trees with and without a wire; two trees as lists of wires. (Plain.)
-/
namespace Go.Wire

theorem plc_eq {a b u v : Nat} (hab : a < b) : plc a b u = plc a b v ↔ u = v ∨ (u = a ∧ v = b) ∨ (u = b ∧ v = a) := by
  unfold plc
  split <;> split <;> (try split) <;> (try split) <;> omega
theorem plc_sur {a b : Nat} (hab : a < b) (y : Nat) : ∃ u, plc a b u = y := by
  by_cases h : y < b
  · exact ⟨y, by unfold plc; rw [if_neg (by omega), if_neg (by omega)]⟩
  · exact ⟨y + 1, by unfold plc; rw [if_neg (by omega), if_pos (by omega)]; omega⟩
theorem plc_lt {a b n x : Nat} (hab : a < b) (hb : b < n) (hx : x < n) : plc a b x < n - 1 := by
  unfold plc
  split
  · omega
  · split <;> omega
theorem cw_lt {a b n : Nat} {w : Wr} (hab : a < b) (hb : b < n) (h : w.1 < n ∧ w.2 < n) : (cw a b w).1 < n - 1 ∧ (cw a b w).2 < n - 1 := by
  have h1 := plc_lt hab hb h.1
  have h2 := plc_lt hab hb h.2
  unfold cw
  exact ⟨by show min _ _ < _; omega, by show max _ _ < _; omega⟩
theorem jn_ends {l : List Wr} {a b : Nat} (w : Wr) : Jn id l (cw a b w).1 (cw a b w).2 ↔ Jn id l (plc a b w.1) (plc a b w.2) := by
  show Jn id l (min (plc a b w.1) (plc a b w.2)) (max (plc a b w.1) (plc a b w.2)) ↔ _
  rcases Nat.le_total (plc a b w.1) (plc a b w.2) with h | h
  · rw [Nat.min_eq_left h, Nat.max_eq_right h]
  · rw [Nat.min_eq_right h, Nat.max_eq_left h]
    exact ⟨Jn.symm, Jn.symm⟩
theorem jn_short {a b : Nat} (hab : a < b) {L : List Wr} {u v : Nat} : Jn id (L.map (cw a b)) (plc a b u) (plc a b v) ↔ Jn id (L ++ [(a, b)]) u v := by
  have hw : Jn (id : Wr → Wr) (L ++ [(a, b)]) a b := jn_mem (e := (id : Wr → Wr)) (i := (a, b)) (by simp)
  have hsame : ∀ {u v}, plc a b u = plc a b v → Jn (id : Wr → Wr) (L ++ [(a, b)]) u v := fun {u v} h => by
    rcases (plc_eq hab).1 h with rfl | ⟨rfl, rfl⟩ | ⟨rfl, rfl⟩
    · exact Jn.refl _ _
    · exact hw
    · exact hw.symm
  constructor
  · intro h
    refine jn_least (R := fun x y => ∀ u v, plc a b u = x → plc a b v = y → Jn (id : Wr → Wr) (L ++ [(a, b)]) u v) ⟨fun x u v hu hv => hsame (hu.trans hv.symm), fun h u v hu hv => (h v u hv hu).symm, fun {x y z} h1 h2 u v hu hv => ?_⟩ (fun w hw => ?_) h u v rfl rfl
    · obtain ⟨q, hq⟩ := plc_sur hab y
      exact (h1 u q hu hq).trans (h2 q v hq hv)
    · obtain ⟨x, hx, rfl⟩ := List.mem_map.1 hw
      have hj : Jn (id : Wr → Wr) (L ++ [(a, b)]) x.1 x.2 := jn_mem (e := (id : Wr → Wr)) (List.mem_append_left _ hx)
      show ∀ u v, plc a b u = min (plc a b x.1) (plc a b x.2) → plc a b v = max (plc a b x.1) (plc a b x.2) → _
      intro u v hu hv
      rcases Nat.le_total (plc a b x.1) (plc a b x.2) with h | h
      · rw [Nat.min_eq_left h] at hu
        rw [Nat.max_eq_right h] at hv
        exact (hsame hu).trans (hj.trans (hsame hv).symm)
      · rw [Nat.min_eq_right h] at hu
        rw [Nat.max_eq_left h] at hv
        exact (hsame hu).trans (hj.symm.trans (hsame hv).symm)
  · refine jn_least (R := fun u v => Jn id (L.map (cw a b)) (plc a b u) (plc a b v)) ⟨fun _ => rfl, Eq.symm, Eq.trans⟩ (fun w hw => ?_)
    rcases List.mem_append.1 hw with hw | hw
    · exact (jn_ends w).1 (jn_mem (e := (id : Wr → Wr)) (List.mem_map.2 ⟨w, hw, rfl⟩))
    · rw [List.mem_singleton.1 hw]
      show Jn id _ (plc a b a) (plc a b b)
      rw [(plc_eq hab).2 (.inr (.inl ⟨rfl, rfl⟩))]; rfl
theorem fo_short {a b n : Nat} (hab : a < b) (hb : b < n) : ∀ {L : List Wr}, In (id : Wr → Wr) n L → (Fo id (n - 1) (L.map (cw a b)) ↔ Fo id n (L ++ [(a, b)]))
  | [], _ => by
    refine ⟨fun _ => (fo_cons (e := (id : Wr → Wr)) (i := (a, b)) ⟨by show a < n; omega, hb⟩).2 ⟨Fo.nil n, fun h => ?_⟩, fun _ => Fo.nil _⟩
    have : a = b := h
    omega
  | w :: L, h => by
    have ih := fo_short hab hb h.tail
    have hw := h w (List.mem_cons_self ..)
    show Fo id (n - 1) (cw a b w :: L.map (cw a b)) ↔ Fo id n (w :: (L ++ [(a, b)]))
    refine (fo_cons (e := (id : Wr → Wr)) (i := cw a b w) (cw_lt hab hb hw)).trans (Iff.trans ?_ (fo_cons (e := (id : Wr → Wr)) hw).symm)
    refine and_congr ih (not_congr ?_)
    exact (jn_ends w).trans (jn_short hab)

/-- A tree on all places. -/
def treeB (n : Nat) (L : List Wr) : Bool := decide (cp id n L + L.length = n) && decide (L.length + 1 = n)
/-- How many choices of wires there are, with some chosen before. -/
def cS (P : List Wr → Bool) : List Wr → List Wr → Nat
  | [], L => if P L then 1 else 0
  | w :: W, L => cS P W L + cS P W (w :: L)
/-- Two trees, as lists of wires. -/
structure PairL (n s t : Nat) (W A B C : List Wr) : Prop where
  sub : (A ++ (B ++ C)).Perm W
  fa : Fo (id : Wr → Wr) n A
  fb : Fo (id : Wr → Wr) n B
  same : ∀ u v, Jn (id : Wr → Wr) A u v ↔ Jn (id : Wr → Wr) B u v
  st : Jn (id : Wr → Wr) A s t
theorem PairL.perm {n s t : Nat} {W W' A B C : List Wr} (h : PairL n s t W A B C) (hp : W.Perm W') : PairL n s t W' A B C := ⟨h.sub.trans hp, h.fa, h.fb, h.same, h.st⟩
/-- A wire of one tree is cut, and one of the other tree is made short. -/
theorem PairL.short {n s t a b : Nat} {W A B C : List Wr} (hab : a < b) (hb : b < n) (hn : In (id : Wr → Wr) n C) (sub : (A ++ (B ++ C)).Perm W) (fa : Fo (id : Wr → Wr) n (A ++ [(a, b)])) (fb : Fo (id : Wr → Wr) n (B ++ [(a, b)])) (same : ∀ u v, Jn (id : Wr → Wr) (A ++ [(a, b)]) u v ↔ Jn (id : Wr → Wr) (B ++ [(a, b)]) u v) (st : Jn (id : Wr → Wr) (A ++ [(a, b)]) s t) : PairL (n - 1) (plc a b s) (plc a b t) (shW a b W) (A.map (cw a b)) (B.map (cw a b)) (shW a b C) := by
  have key : ∀ {A : List Wr}, Fo (id : Wr → Wr) n (A ++ [(a, b)]) → A.filter (fun w => decide (plc a b w.1 ≠ plc a b w.2)) = A := fun {A} h => by
    refine List.filter_eq_self.2 fun w hw => decide_eq_true fun k => ?_
    have hp : (A ++ [(a, b)]).Perm (w :: (A.erase w ++ [(a, b)])) := (List.perm_cons_erase hw).append_right _
    refine (h.perm hp).head ((jn_short (L := A.erase w) hab).1 ?_)
    show Jn id _ (plc a b w.1) (plc a b w.2)
    rw [k]; rfl
  refine ⟨?_, (fo_short hab hb (fun w hw => fa.1 w (List.mem_append_left _ hw))).2 fa, (fo_short hab hb (fun w hw => fb.1 w (List.mem_append_left _ hw))).2 fb, fun x y => ?_, (jn_short hab).2 st⟩
  · have := (sub.filter fun w => decide (plc a b w.1 ≠ plc a b w.2)).map (cw a b)
    rw [List.filter_append, List.filter_append, key fa, key fb, List.map_append, List.map_append] at this
    exact this
  · obtain ⟨u, rfl⟩ := plc_sur hab x
    obtain ⟨v, rfl⟩ := plc_sur hab y
    rw [jn_short hab, jn_short hab]
    exact same u v
end Go.Wire

/-
  Plain: the games' wires as wires that join places; the number of trees as choices; two trees; who wins.
-/
namespace Go.Proofs.YtfphkpdobbffeaaDoor
open Go Go.AH Go.Wire
set_option maxRecDepth 100000
set_option maxHeartbeats 1000000

def eg (g : Gm) (i : Nat) : Nat × Nat := g.ws.getD i (0, 0)
/-! Two trees. -/
def bm : List Nat → Nat
  | [] => 0
  | i :: l => bm l ||| 2 ^ i
/-! Lehman. -/
/-- One wire more, between the ends. -/
def ez (g : Gm) (i : Nat) : Nat × Nat := if i = g.ws.length then (g.s, g.t) else eg g i
end Go.Proofs.YtfphkpdobbffeaaDoor

/-
  Plain: keeping and cutting wires; the game without a wire.
-/
namespace Go.Proofs.YtfphkpdobbffeaaDoor
open Go Go.AH Go.Wire
set_option maxRecDepth 100000
set_option maxHeartbeats 1000000

/-! Other numbers for the wires. -/
def upW (w i : Nat) : Nat := if i < w then i else i + 1
end Go.Proofs.YtfphkpdobbffeaaDoor

/-
  Plain: the game without a wire, and with one made short, are games; the number of trees; the trees that are left.
-/
namespace Go.Proofs.YtfphkpdobbffeaaDoor
open Go Go.AH Go.Wire
set_option maxRecDepth 100000
set_option maxHeartbeats 1000000

/-! Games. -/
theorem shE_ok {g : Gm} (hT : Tm g.n g.ws) {w : Nat} (hw : w < g.ws.length) : (shE g w).1 < (shE g w).2 ∧ (shE g w).2 < g.n := by
  refine hT.1 _ ?_
  unfold shE
  rw [List.getD_eq_getElem?_getD, List.getElem?_eq_getElem hw]; exact List.getElem_mem hw
theorem shW_Tm {n a b : Nat} {l : List (Nat × Nat)} (hab : a < b) (hb : b < n) (h : Tm n l) : Tm (n - 1) (isort (shW a b l)) := by
  refine ⟨fun w hw => ?_, isort_sorted _⟩
  have hw := (isort_perm _).mem_iff.1 hw
  obtain ⟨v, hv, rfl⟩ := List.mem_map.1 hw
  obtain ⟨h1, h2⟩ := List.mem_filter.1 hv
  have h2 := of_decide_eq_true h2
  have h3 := h.1 v h1
  have h4 := cw_lt (w := v) hab hb ⟨by omega, h3.2⟩
  refine ⟨?_, h4.2⟩
  show min _ _ < max _ _
  omega
theorem shortG_game {g : Gm} (hg : g.game) (hT : Tm g.n g.ws) {w : Nat} (hw : w < g.ws.length) (hj : ¬ joinsE g w) : (shortG g w).game := by
  have hE := shE_ok hT hw
  have hn2 := hg.ok.n2
  have hs := hg.ok.s
  have ht := hg.ok.t
  have hst := game_ends hg
  have h8 := hg.ok.n8
  have hl := hg.ok.len
  unfold joinsE at hj
  have hlen : (shortG g w).ws.length ≤ 10 := by
    show (isort (shW _ _ g.ws)).length ≤ 10
    rw [isort_len]
    refine Nat.le_trans ?_ hl
    show ((g.ws.filter _).map _).length ≤ _
    rw [List.length_map]
    exact List.length_filter_le _ _
  refine game_of (g := shortG g w) ?_ ?_ (plc_lt hE.1 hE.2 hs) (plc_lt hE.1 hE.2 ht) ?_ hlen (shW_Tm hE.1 hE.2 hT)
  · show 2 ≤ g.n - 1; omega
  · show g.n - 1 ≤ 8; omega
  · intro h
    have := (plc_eq hE.1 (u := g.s) (v := g.t)).1 h
    omega
/-! The number of trees. -/
theorem Tm.in {n : Nat} {l : List (Nat × Nat)} (h : Tm n l) : In (id : Wr → Wr) n l := fun w hw => by
  have := h.1 w hw
  exact ⟨by show w.1 < n; omega, this.2⟩
/-! The trees that are left. -/
end Go.Proofs.YtfphkpdobbffeaaDoor
