/-
  Contract: LightDegrees.
-/
import Derived.Test.YtimknijehaamlaaDoorSwS9
import Derived.Test.YtimknijehaamlaaDoorSw5
set_option linter.unusedSimpArgs false
set_option linter.unusedVariables false
namespace Go.Proofs.YtimknijehaamlaaDoor
open Go Go.AH Go.Lin
set_option maxRecDepth 100000
set_option maxHeartbeats 1000000

theorem um60 (v : Int) : IntKind.i64.wrap (IntKind.u64.wrap v % 60) = ((um v 60 : Nat) : Int) := um_wrap v (n := 60) (by decide) (by decide)
theorem pN_test (k j : Nat) : (pN false k).2.testBit j = pc k j := by
  rw [← (pathQ_nB false k).2, nB_test (pathQ_trim false k).2]; rfl
def plT (k : Nat) : List Nat := exN (pc k) 61
theorem plT_mem {k : Nat} (hk : k ≤ 60) (j : Nat) : (pN false k).2.testBit j = decide (j ∈ plT k) := by
  have h1 : lenK (pN false k).2 ≤ 61 := by rw [pN_lenE false hk]; omega
  rw [plT, exN]
  by_cases hj : j < 61
  · rw [pN_test]
    cases e : pc k j
    · exact (decide_eq_false (by simp [e])).symm
    · exact (decide_eq_true (by simp [e, hj])).symm
  · rw [Nat.testBit_lt_two_pow (lenK_le.1 (show lenK (pN false k).2 ≤ j by omega))]
    exact (decide_eq_false (by simp; omega)).symm
theorem plT_ne {k : Nat} (hk : k ≤ 60) : plT k ≠ [] := fun e => by
  have h1 := lenK_top (pN_ne false hk)
  rw [plT_mem hk, e] at h1
  simp at h1
theorem plT_le {k : Nat} : ∀ t ∈ plT k, t ≤ 200 := fun t ht => by
  have := List.mem_range.1 (List.mem_filter.1 ht).1
  omega
theorem plT_len (k : Nat) : (plT k).length ≤ 61 := exN_len _ _
theorem Poly_rs {k : Nat} (hk : k ≤ 60) : FDet Tryd.prog 28 [.c (.int .i64 (k + 1 : Nat))] [(100001, .ro tab64)] 0 (.t [.c (.rs 0 0 (plT k).length), .c (.int .i64 0)]) [(0, .row 3 1 (ints (castL (plT k))))] 1 := by
  have h := Polynomial_spec (n := k + 1) (by omega) (by omega)
  rw [exQ_exN (k := k + 1) (m := 61) (by omega) (by omega), Nat.add_sub_cancel] at h
  change FDet Tryd.prog 28 [.c (.int .i64 (k + 1 : Nat))] [(100001, .ro tab64)] 0 (pV (plT k)) (pH (plT k)) (pK (plT k)) at h
  have h0 := plT_ne hk
  generalize plT k = T at *
  cases T with
  | nil => exact absurd rfl h0
  | cons b L => exact FDet.post h _ _ ⟨⟨⟨rfl, rfl, rfl⟩, trivial⟩, rfl, trivial⟩ ⟨⟨⟨rfl, rfl⟩, .inl rfl⟩, trivial⟩ (by simp [tupA, hpLt, tmLt, AV.lt, AE.lt, AC.lt, LL_cons, LL_nil, idOk, ABlk.lt, ints_LL, GB, tab64_LL, pC, castL, prs, pV, pH, pK]) (by simp [tupA, hpLt, tmLt, AV.lt, AE.lt, AC.lt, LL_cons, LL_nil, idOk, ABlk.lt, ints_LL, GB, tab64_LL, pC, castL, prs, pV, pH, pK]) rfl
theorem lcommon_sl (own : Bool) {r c : Nat} (hr : r ≤ 60) (hc : c ≤ 60) : FDet Tryd.prog 32 [.c (.sl 0 0 201 (some 201)), .c (.sl 1 0 201 (some 201))] [(0, .ro (ints (cN (pN false c).2))), (1, .ro (ints (cN (pN own r).2)))] 2 (.c (.int .i64 ((gN own r c : Int) - 1))) [] 2 := by
  have l1 := pN_lenE own hr
  have l2 := pN_lenE false hc
  exact FDet.wk (lcommon_spec (by omega) (by omega) (mu_le (by omega) (by omega)) (want_eq own hr hc)) ⟨⟨rfl, rfl, rfl⟩, ⟨rfl, rfl, rfl⟩, trivial⟩ ⟨.inl rfl, .inl rfl, trivial⟩
theorem shifted_sl {r : Nat} (hr : r ≤ 60) : FDet Tryd.prog 33 [.c (.sl 0 0 201 (some 201))] [(0, .ro (ints (cN (pN false r).2)))] 1 (.c (.sl 1 0 201 (some 201))) [(1, .own (ints (cN (pN true r).2)))] 2 := by
  have h := shifted_spec (pN false r).2
  rw [shift_eq hr] at h
  exact FDet.wk h ⟨⟨rfl, rfl, rfl⟩, trivial⟩ ⟨.inl rfl, trivial⟩
theorem Grid_gN (own : Bool) {r c : Nat} (hr : 1 ≤ r) (hc : 1 ≤ c) (hr2 : r ≤ 60) (hc2 : c ≤ 60) : FDet Tryd.prog 26 [.c (.int .i64 r), .c (.int .i64 c), .c (.bool own)] [(100001, .ro tab64)] 0 (.t [.c (.int .i64 ((gN own r c : Int) - 1)), .c (.int .i64 0)]) [] 0 := by
  have h := GridQuiet_spec hr hc hr2 hc2 own
  rw [com_gN own hr2 hc2] at h
  exact h
theorem degrees_all (x0 y0 : Int) : FDet Tryd.prog 8 [.c (.int .i64 x0), .c (.int .i64 y0)] [(100001, .ro tab64)] 0 (.c (.bool true)) [] 0 := by
  have hu := um_lt x0 (n := 60) (by decide)
  have hv := um_lt y0 (n := 60) (by decide)
  have hwx := wrap_nn x0
  have hwy := wrap_nn y0
  obtain ⟨r, hr⟩ : ∃ N, N = 1 + um x0 60 := ⟨_, rfl⟩
  obtain ⟨c, hc⟩ : ∃ N, N = 1 + um y0 60 := ⟨_, rfl⟩
  have r1 : 1 ≤ r := by omega
  have c1 : 1 ≤ c := by omega
  have r60 : r ≤ 60 := by omega
  have c60 : c ≤ 60 := by omega
  have pr := Poly_rs r60
  have pq := Poly_rs c60
  have ar := polynomial_spec (plT r) plT_le (by have := plT_len r; omega) _ (plT_mem r60)
  have ac := polynomial_spec (plT c) plT_le (by have := plT_len c; omega) _ (plT_mem c60)
  have g1 := fun own => Grid_gN own r1 c1 r60 c60
  have g2 := fun own => Grid_gN own c1 r1 c60 r60
  have gs := fun own => gN_sym own r1 c1 r60 c60
  have ct := lcommon_sl true r60 c60
  have cf := lcommon_sl false r60 c60
  have sh := shifted_sl r60
  generalize plT r = TR at *
  generalize plT c = TC at *
  generalize (pN false c).2 = A at *
  generalize (pN false r).2 = B at *
  generalize (pN true r).2 = S at *
  simp only [gs] at g2
  refine FSpec.body2 tok true Tryd.func8 ?_
  refine Wk.on ?_
  rw [um60]
  refine ⟨by unfold I64; omega, ?_⟩
  rw [show (1 : Int) + (um x0 60 : Nat) = (r : Int) by omega]
  refine Wk.on ?_
  rw [um60]
  refine ⟨by unfold I64; omega, ?_⟩
  rw [show (1 : Int) + (um y0 60 : Nat) = (c : Int) by omega]
  refine Wk.on ?_
  refine CallA.det2 [] (.t [.c (.rs 0 0 TC.length), .c (.int .i64 0)]) ([(100001, .ro tab64), (0, .row 3 1 (ints (castL TC)))]) (pq) ?_
  refine Wk.on ?_
  refine CallA.det2 [] (.t [.c (.rs 1 0 TR.length), .c (.int .i64 0)]) ([(100001, .ro tab64), (0, .row 3 1 (ints (castL TC))), (1, .row 3 1 (ints (castL TR)))]) (pr) ?_
  refine Wk.on ?_
  refine CallA.det2 [0] (.t [.c (.sl 2 0 201 (some 201)), .c (.bool true)]) ([(100001, .ro tab64), (0, .row 3 1 (ints (castL TC))), (1, .row 3 1 (ints (castL TR))), (2, .own (ints (cN A)))]) (ac) ?_
  refine Wk.on ?_
  refine CallA.det2 [1] (.t [.c (.sl 3 0 201 (some 201)), .c (.bool true)]) ([(100001, .ro tab64), (0, .row 3 1 (ints (castL TC))), (1, .row 3 1 (ints (castL TR))), (2, .own (ints (cN A))), (3, .own (ints (cN B)))]) (ar) ?_
  refine Wk.on ?_
  refine Tr.loop (md := true) (X := Nat) (st := fun k => ⟨[(0, .c (.int .i64 r)), (1, .c (.int .i64 c)), (9, .c (.sl 2 0 201 (some 201))), (11, .c (.sl 3 0 201 (some 201))), (13, .c (.int .i64 k))], [(100001, .ro tab64), (2, .own (ints (cN A))), (3, .own (ints (cN B)))], 4, 111, 0⟩) (inv := fun k => k ≤ 2) (μ := fun k => 2 - k) (x0 := 0) (l := []) tok (by omega) ?_ ?_
  · exact Sub.nil ⟨rfl, rfl, (by simp [tab64_LL, pC, castL, prs, pV, pH, pK]), rfl, (by simp [tupA, hpLt, tmLt, AV.lt, AE.lt, AC.lt, LL_cons, LL_nil, idOk, ABlk.lt, ints_LL, GB, tab64_LL, pC, castL, prs, pV, pH, pK]), (by simp [tupA, hpLt, tmLt, AV.lt, AE.lt, AC.lt, LL_cons, LL_nil, idOk, ABlk.lt, ints_LL, GB, tab64_LL, pC, castL, prs, pV, pH, pK])⟩ (by (repeat (first | exact trivial | refine ⟨trivial, ?_⟩ | refine ⟨rfl, ?_⟩))) (by (repeat (first | exact trivial | refine ⟨trivial, ?_⟩ | refine ⟨rfl, ?_⟩)))
  intro k hk
  have g1t := g1 true
  have g1f := g1 false
  have g2t := g2 true
  have g2f := g2 false
  obtain ⟨et, het⟩ : ∃ e : Int, e = (gN true r c : Int) - 1 := ⟨_, rfl⟩
  obtain ⟨ef, hef⟩ : ∃ e : Int, e = (gN false r c : Int) - 1 := ⟨_, rfl⟩
  rw [← het] at g1t g2t ct
  rw [← hef] at g1f g2f cf
  by_cases h0 : k = 0
  · subst h0
    refine Wk.on ?_
    refine CallA.ro2 [] (.t [.c (.int .i64 et), .c (.int .i64 0)]) (g1t) ?_
    refine Wk.on ?_
    refine CallA.ro2 [] (.t [.c (.int .i64 et), .c (.int .i64 0)]) (g2t) ?_
    refine Wk.on ?_
    refine CallA.ro2 [2, 3] (.c (.int .i64 ef)) (cf) ?_
    refine Wk.on ?_
    refine CallA.det2 [3] (.c (.sl 4 0 201 (some 201))) ([(100001, .ro tab64), (2, .own (ints (cN A))), (3, .own (ints (cN B))), (4, .own (ints (cN S)))]) (sh) ?_
    refine Wk.on ?_
    refine CallA.ro2 [2, 4] (.c (.int .i64 et)) (ct) ?_
    refine Wk.on ?_
    rw [decide_eq_false (fun h : et ≠ et => h rfl)]
    refine Wk.on ?_
    rw [decide_eq_false (fun h : et ≠ et => h rfl)]
    refine Wk.on ?_
    intro _
    refine Wk.on ?_
    refine Again.mk (0 + 1) (Sub.nil ⟨rfl, rfl, (by simp [tab64_LL, pC, castL, prs, pV, pH, pK]), rfl, (by simp [tupA, hpLt, tmLt, AV.lt, AE.lt, AC.lt, LL_cons, LL_nil, idOk, ABlk.lt, ints_LL, GB, tab64_LL, pC, castL, prs, pV, pH, pK]), (by simp [tupA, hpLt, tmLt, AV.lt, AE.lt, AC.lt, LL_cons, LL_nil, idOk, ABlk.lt, ints_LL, GB, tab64_LL, pC, castL, prs, pV, pH, pK])⟩ (by (repeat (first | exact trivial | refine ⟨trivial, ?_⟩ | refine ⟨rfl, ?_⟩))) (by (repeat (first | exact trivial | refine ⟨trivial, ?_⟩ | refine ⟨rfl, ?_⟩)))) (by omega) (by omega)
  by_cases h1 : k = 1
  · subst h1
    refine Wk.on ?_
    refine CallA.ro2 [] (.t [.c (.int .i64 ef), .c (.int .i64 0)]) (g1f) ?_
    refine Wk.on ?_
    refine CallA.ro2 [] (.t [.c (.int .i64 ef), .c (.int .i64 0)]) (g2f) ?_
    refine Wk.on ?_
    refine CallA.ro2 [2, 3] (.c (.int .i64 ef)) (cf) ?_
    refine Wk.on ?_
    rw [decide_eq_false (fun h : ef ≠ ef => h rfl)]
    refine Wk.on ?_
    rw [decide_eq_false (fun h : ef ≠ ef => h rfl)]
    refine Wk.on ?_
    intro _
    refine Wk.on ?_
    refine Again.mk (1 + 1) (Sub.nil ⟨rfl, rfl, (by simp [tab64_LL, pC, castL, prs, pV, pH, pK]), rfl, (by simp [tupA, hpLt, tmLt, AV.lt, AE.lt, AC.lt, LL_cons, LL_nil, idOk, ABlk.lt, ints_LL, GB, tab64_LL, pC, castL, prs, pV, pH, pK]), (by simp [tupA, hpLt, tmLt, AV.lt, AE.lt, AC.lt, LL_cons, LL_nil, idOk, ABlk.lt, ints_LL, GB, tab64_LL, pC, castL, prs, pV, pH, pK])⟩ (by (repeat (first | exact trivial | refine ⟨trivial, ?_⟩ | refine ⟨rfl, ?_⟩))) (by (repeat (first | exact trivial | refine ⟨trivial, ?_⟩ | refine ⟨rfl, ?_⟩)))) (by omega) (by omega)
  obtain rfl : k = 2 := by omega
  refine Wk.on ?_
  refine CallA.ro2 [] (.c (.bool true)) (awake_spec) ?_
  refine Wk.on ?_
  exact AH.Fin.nil2 ⟨rfl, rfl, rfl⟩
end Go.Proofs.YtimknijehaamlaaDoor
