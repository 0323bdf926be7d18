/-
  Contracts: open at any data: what is wrong is told.
-/
import Derived.Test.YtimknijehaamlaaDoorSwE21
import Derived.Test.YtimknijehaamlaaDoorSw3
set_option linter.unusedSimpArgs false
set_option linter.unusedVariables false
namespace Go.Proofs.YtimknijehaamlaaDoor
open Go Go.AH Go.Lin
set_option maxRecDepth 100000
set_option maxHeartbeats 1000000

theorem flI_rdn (B : List (Int × Int)) (i : Nat) : rdn (ints (flI B)) (i * 2) [.int .i64 0, .int .i64 0] = [.int .i64 (B.getD i (0, 0)).1, .int .i64 (B.getD i (0, 0)).2] := by
  simp only [rdn, ints_getD, (flI_get B i).1, (flI_get B i).2]
/-- The first pairs are a graph's. -/
def goodTo (ws : List (Nat × Nat)) (es : List (Int × Int)) : Prop := ∀ i, i < ws.length → es.getD i (0, 0) = (((ws.getD i (0, 0)).1 : Int), ((ws.getD i (0, 0)).2 : Int))
theorem bad_cmp {n : Nat} {ws : List (Nat × Nat)} {es : List (Int × Int)} (hg : goodTo ws es) {a b : Int} (ha : a = (es.getD ws.length (0, 0)).1) (hb : b = (es.getD ws.length (0, 0)).2)
    (h1 : ¬ cmp2 a b (prevP ws ws.length).1 (prevP ws ws.length).2 ≤ 0) (h2 : ¬ a < 0) (h3 : ¬ b ≤ a) (h4 : ¬ (n : Int) ≤ b) : badE n es ws.length = false := by
  unfold badE badP
  rw [← ha, ← hb, decide_eq_false h2, decide_eq_false h3, decide_eq_false h4]
  by_cases e : ws.length = 0
  · rw [e]; rfl
  · unfold prevP at h1
    rw [if_neg e] at h1
    rw [hg (ws.length - 1) (by omega)]
    dsimp only at h1 ⊢
    generalize (((ws.getD (ws.length - 1) (0, 0)).1 : Nat) : Int) = c at *
    generalize (((ws.getD (ws.length - 1) (0, 0)).2 : Nat) : Int) = d at *
    unfold cmp2 cmpI at h1
    by_cases e1 : a < c
    · exfalso; apply h1; rw [if_pos e1, if_neg (by decide)]; decide
    · by_cases e2 : c < a
      · rw [decide_eq_false e1, decide_eq_false (show ¬ c = a by omega)]; simp
      · have e3 : c = a := by omega
        subst e3
        rw [if_neg e1, if_neg e1, if_pos rfl] at h1
        have e4 : ¬ b ≤ d := by
          intro e4
          apply h1
          split
          · decide
          · split
            · omega
            · decide
        rw [decide_eq_false e1, decide_eq_false e4]; simp
theorem open_bad_n {n : Nat} {ws : List (Nat × Nat)} (h : Gr n ws) (es : List (Int × Int)) (own : Bool) (hl : es.length ≤ 1000) (hk : ws.length < es.length) (hg : goodTo ws es) (hbad : badE n es ws.length = true) : FDet Tryd.prog 50 [.c (.int .i64 n), .c (.rs 0 0 es.length), .c (.bool own), .c (.nils)] [(0, .ro (ints (flI es)))] 1 (.t [.c .nilp, .c (.int .i64 40)]) [] 1 := by
  have hn1 := h.n1
  have hn := h.n16
  have hlen : (ints (flI es)).length = es.length * 2 := by rw [ints_len, flI_len]
  refine FSpec.body2 tok true Tryd.func50 ?_
  refine Wk.on ?_
  rw [decide_eq_false (show ¬ ((n : Nat) : Int) < 1 by omega)]
  refine Wk.on ?_
  rw [decide_eq_false (show ¬ 16 < ((n : Nat) : Int) by omega)]
  refine Wk.on ?_
  refine Tr.loop (md := true) (X := Nat) (st := fun i => ⟨[(2, .c (.bool own)), (3, .c (.nils)), (4, .c (.ptr 1 0)), (10, .c (.ptr 2 0)), (11, .c (.ptr 3 0)), (25, .c (.rs 0 0 es.length)), (26, .c (.int .i64 es.length)), (27, .c (.int .i64 i))], [(1, .own [.int .i64 n]), (2, .own (lC n (nearR (ws.take i)))), (3, .own [.int .i64 (prevP ws i).1, .int .i64 (prevP ws i).2]), (0, .ro (ints (flI es)))], 4, 108, 1⟩) (inv := fun i => i ≤ ws.length) (μ := fun i => es.length - i) (x0 := 0) (l := []) tok (by omega) ?_ ?_
  · exact Sub.nil ⟨rfl, rfl, (by simp [tab64_LL, pC, castL, lC]), rfl, (by simp [tupA, hpLt, tmLt, AV.lt, AE.lt, AC.lt, LL_cons, LL_nil, idOk, ABlk.lt, ints_LL, GB, tab64_LL, pC, castL, lC]), (by simp [tupA, hpLt, tmLt, AV.lt, AE.lt, AC.lt, LL_cons, LL_nil, idOk, ABlk.lt, ints_LL, GB, tab64_LL, pC, castL, lC])⟩ (by (repeat (first | exact trivial | refine ⟨trivial, ?_⟩ | refine ⟨rfl, ?_⟩))) (by (repeat (first | exact trivial | refine ⟨trivial, ?_⟩ | refine ⟨rfl, ?_⟩)))
  intro i hi
  obtain ⟨rows, hrows⟩ : ∃ rows, rows = nearR (ws.take i) := ⟨_, rfl⟩
  have hL : Lm n rows := by rw [hrows]; exact nearR_lm h i hi
  have hl17 : (lC n rows).length = 17 := by rw [lC, List.length_cons, ints_len, castL_len, hL.len]
  obtain ⟨pa, hpa⟩ : ∃ pa, pa = (prevP ws i).1 := ⟨_, rfl⟩
  obtain ⟨pb, hpb⟩ : ∃ pb, pb = (prevP ws i).2 := ⟨_, rfl⟩
  by_cases hil : i < ws.length
  · have hnx : nearR (ws.take (i + 1)) = nearF rows (ws.getD i (0, 0)) := by rw [take_succ ws (0, 0) hil, hrows, nearR, List.foldl_append]; rfl
    have hcmp := cmp_prev h hil
    have hok := h.ok i hil
    have hgi := hg i hil
    have hprev : prevP ws (i + 1) = ((((ws.getD i (0, 0)).1 : Nat) : Int), (((ws.getD i (0, 0)).2 : Nat) : Int)) := by rw [prevP, if_neg (by omega), Nat.add_sub_cancel]
    obtain ⟨a, ha⟩ : ∃ a, a = (ws.getD i (0, 0)).1 := ⟨_, rfl⟩
    obtain ⟨b, hb2⟩ : ∃ b, b = (ws.getD i (0, 0)).2 := ⟨_, rfl⟩
    have hpc : rdn (ints (flI es)) (i * 2) [.int .i64 0, .int .i64 0] = [.int .i64 a, .int .i64 b] := by rw [flI_rdn, hgi, ha, hb2]
    rw [← hrows, ← hpa, ← hpb]
    rw [← hpa, ← hpb, ← ha, ← hb2] at hcmp
    rw [← ha, ← hb2] at hok hprev
    obtain ⟨hab, hbn⟩ := hok
    obtain ⟨qa, hqa⟩ : ∃ q, q = 2 ^ a := ⟨_, rfl⟩
    obtain ⟨qb, hqb⟩ : ∃ q, q = 2 ^ b := ⟨_, rfl⟩
    have hqa2 : qa < 65536 := by rw [hqa]; exact Nat.pow_lt_pow_right (n := 16) (by omega) (by omega)
    have hqb2 : qb < 65536 := by rw [hqb]; exact Nat.pow_lt_pow_right (n := 16) (by omega) (by omega)
    have hsa : (1 : Int) * 2 ^ (Int.toNat (a : Int)) = (qa : Int) := by simp [hqa]
    have hsb : (1 : Int) * 2 ^ (Int.toNat (b : Int)) = (qb : Int) := by simp [hqb]
    have hwa : IntKind.u64.wrap (a : Int) = a := wrapU (by omega)
    have hwb : IntKind.u64.wrap (b : Int) = b := wrapU (by omega)
    have hp16 : 2 ^ n ≤ 65536 := hL.pow
    obtain ⟨ea, hea⟩ : ∃ e, e = rows.getD a 0 := ⟨_, rfl⟩
    have hea2 : ea < 65536 := by have := hL.row a; omega
    have hL1 : Lm n (orAt rows a qb) := orAt_lm hL (by rw [hqb]; exact Nat.pow_lt_pow_right (by omega) hbn)
    obtain ⟨rows1, hrows1⟩ : ∃ r, r = orAt rows a qb := ⟨_, rfl⟩
    rw [← hrows1] at hL1
    obtain ⟨eb, heb⟩ : ∃ e, e = rows1.getD b 0 := ⟨_, rfl⟩
    have heb2 : eb < 65536 := by have := hL1.row b; omega
    have hl171 : (lC n rows1).length = 17 := by rw [lC, List.length_cons, ints_len, castL_len, hL1.len]
    refine Wk.on ?_
    rw [decide_eq_true (show ((i : Nat) : Int) < ((es.length : Nat) : Int) by omega)]
    refine Wk.on ?_
    refine ⟨⟨by rw [hlen, Int.toNat_natCast]; show 0 + i * 2 + 2 ≤ _; omega, rfl⟩, ?_⟩
    rw [Int.toNat_natCast, Nat.zero_add]
    refine Wk.on ?_
    rw [hpc]
    refine Wk.on ?_
    refine Tr.draw (md := true) [⟨[], [32], [], [], []⟩, ⟨[], [31], [0], [], []⟩, ⟨[0, 1], [], [], [], []⟩, ⟨[0, 1, 2], [], [], [], []⟩, ⟨[0, 1, 2, 3], [], [], [], []⟩, ⟨[0, 1, 2, 3, 4], [], [], [], []⟩, ⟨[0, 1, 2, 3, 4, 5], [], [], [], []⟩, ⟨[0, 1, 2, 3, 4, 5, 6], [], [], [], []⟩, ⟨[0, 1, 2, 3, 4, 5, 6, 7], [], [], [], []⟩, ⟨[0, 1, 2, 3, 4, 5, 6, 7, 8], [], [], [], []⟩, ⟨[0, 1, 2, 3, 4, 5, 6, 7, 8, 9], [43, 44], [], [], []⟩, ⟨[0, 1, 2, 3, 4, 5, 6, 7, 8, 9, 10], [43, 44], [], [], []⟩, ⟨[0, 1, 2, 3, 4, 5, 6, 7, 8, 9], [41, 42], [10, 11], [], []⟩, ⟨[0, 1, 2, 3, 4, 5, 6, 7, 8, 9, 12], [41, 42], [10, 11], [], []⟩, ⟨[0, 1, 2, 3, 4, 5, 6, 7, 8, 9, 10, 11, 12, 13], [], [], [], []⟩, ⟨[0, 1, 2, 3, 4, 5, 6, 7, 8, 9, 10, 11, 12, 13, 14], [], [], [], []⟩, ⟨[0, 1, 2, 3, 4, 5, 6, 7, 8, 9, 10, 11, 12, 13, 14, 15], [], [], [], []⟩, ⟨[0, 1, 2, 3, 4, 5, 6, 7, 8, 9, 10, 11, 12, 13, 14, 15, 16], [50], [], [], []⟩, ⟨[0, 1, 2, 3, 4, 5, 6, 7, 8, 9, 10, 11, 12, 13, 14, 15, 16, 17], [50], [], [], []⟩, ⟨[0, 1, 2, 3, 4, 5, 6, 7, 8, 9, 10, 11, 12, 13, 14, 15, 16], [48, 49], [17, 18], [], []⟩] tok (by kernel_rfl) (by kernel_rfl) ?_
    refine Wk.on ?_
    refine CallQ.ro2 [4, 3] (.c (.int .i64 (cmp2 a b pa pb))) (cmp22_spec a b pa pb) ?_
    rw [hcmp]
    refine Wk.on ?_
    rw [decide_eq_false (show ¬ ((a : Nat) : Int) < 0 by omega)]
    refine Wk.on ?_
    rw [decide_eq_false (show ¬ ((b : Nat) : Int) ≤ ((a : Nat) : Int) by omega)]
    refine Wk.on ?_
    rw [decide_eq_false (show ¬ ((n : Nat) : Int) ≤ ((b : Nat) : Int) by omega)]
    refine Wk.on ?_
    have hga : (lC n rows).getD (0 + 1 + Int.toNat ((a : Nat) : Int) * 1) (.int .i64 0) = .int .i64 (ea : Int) := by rw [hea, show 0 + 1 + Int.toNat ((a : Nat) : Int) * 1 = a + 1 by rw [Int.toNat_natCast]; omega]; exact lC_getD a
    refine Tr.draw (md := true) [⟨[], [54, 55, 60, 61, 62, 63], [], [], []⟩, ⟨[], [53, 56, 57, 60, 61, 62, 63, 65, 66], [0], [], []⟩, ⟨[1], [53, 56, 57, 60, 61, 62, 63, 65, 66], [0], [], []⟩, ⟨[0], [54, 55, 60, 61, 62, 63, 65, 66], [1, 2], [], []⟩, ⟨[0, 3], [54, 55, 60, 61, 62, 63, 65, 66], [1, 2], [], []⟩, ⟨[0, 1, 2, 3, 4], [60, 61, 62, 63, 65, 66], [], [], []⟩, ⟨[0, 1, 2, 3, 4, 5], [60, 61, 62, 63, 65, 66], [], [], []⟩, ⟨[], [53, 54, 55, 56, 57, 58, 59, 65, 66], [0, 1, 2, 3, 4, 5, 6], [], []⟩, ⟨[7], [53, 54, 55, 56, 57, 58, 59, 65, 66], [0, 1, 2, 3, 4, 5, 6], [], []⟩, ⟨[7, 8], [53, 54, 55, 56, 57, 58, 59, 65, 66], [0, 1, 2, 3, 4, 5, 6], [], []⟩, ⟨[7, 8, 9], [53, 54, 55, 56, 57, 58, 59, 65, 66], [0, 1, 2, 3, 4, 5, 6], [], []⟩, ⟨[0, 1, 2, 3, 4, 5, 6, 7, 8, 9, 10], [65, 66], [], [], []⟩, ⟨[0], [54, 55, 56, 57, 58, 59, 60, 61, 62, 63, 64], [1, 2, 3, 4, 5, 6, 7, 8, 9, 10, 11], [], []⟩, ⟨[0, 12], [54, 55, 56, 57, 58, 59, 60, 61, 62, 63, 64], [1, 2, 3, 4, 5, 6, 7, 8, 9, 10, 11], [], []⟩] tok (by kernel_rfl) (by kernel_rfl) ?_
    refine Wk.on ?_
    rw [hga]
    refine Wk.on ?_
    rw [hwb]
    refine Wk.on ?_
    rw [hsb]
    refine Wk.on ?_
    have hst : (lC n rows).set (0 + 1 + Int.toNat ((a : Nat) : Int) * 1) (.int .i64 ((Int.toNat ((ea : Nat) : Int) ||| Int.toNat ((qb : Nat) : Int) : Nat) : Int)) = lC n rows1 := by
      rw [show 0 + 1 + Int.toNat ((a : Nat) : Int) * 1 = a + 1 by rw [Int.toNat_natCast]; omega, Int.toNat_natCast, Int.toNat_natCast, lC_set, hrows1, orAt, hea]
    rw [hst]
    have hgb : (lC n rows1).getD (0 + 1 + Int.toNat ((b : Nat) : Int) * 1) (.int .i64 0) = .int .i64 (eb : Int) := by rw [heb, show 0 + 1 + Int.toNat ((b : Nat) : Int) * 1 = b + 1 by rw [Int.toNat_natCast]; omega]; exact lC_getD b
    refine Tr.draw (md := true) [⟨[], [69, 70, 75, 76, 77, 78], [], [], []⟩, ⟨[], [68, 71, 72, 75, 76, 77, 78, 80, 81], [0], [], []⟩, ⟨[1], [68, 71, 72, 75, 76, 77, 78, 80, 81], [0], [], []⟩, ⟨[0], [69, 70, 75, 76, 77, 78, 80, 81], [1, 2], [], []⟩, ⟨[0, 3], [69, 70, 75, 76, 77, 78, 80, 81], [1, 2], [], []⟩, ⟨[0, 1, 2, 3, 4], [75, 76, 77, 78, 80, 81], [], [], []⟩, ⟨[0, 1, 2, 3, 4, 5], [75, 76, 77, 78, 80, 81], [], [], []⟩, ⟨[], [68, 69, 70, 71, 72, 73, 74, 80, 81], [0, 1, 2, 3, 4, 5, 6], [], []⟩, ⟨[7], [68, 69, 70, 71, 72, 73, 74, 80, 81], [0, 1, 2, 3, 4, 5, 6], [], []⟩, ⟨[7, 8], [68, 69, 70, 71, 72, 73, 74, 80, 81], [0, 1, 2, 3, 4, 5, 6], [], []⟩, ⟨[7, 8, 9], [68, 69, 70, 71, 72, 73, 74, 80, 81], [0, 1, 2, 3, 4, 5, 6], [], []⟩, ⟨[0, 1, 2, 3, 4, 5, 6, 7, 8, 9, 10], [80, 81], [], [], []⟩, ⟨[0], [69, 70, 71, 72, 73, 74, 75, 76, 77, 78, 79], [1, 2, 3, 4, 5, 6, 7, 8, 9, 10, 11], [], []⟩, ⟨[0, 12], [69, 70, 71, 72, 73, 74, 75, 76, 77, 78, 79], [1, 2, 3, 4, 5, 6, 7, 8, 9, 10, 11], [], []⟩] tok (by kernel_rfl) (by kernel_rfl) ?_
    refine Wk.on ?_
    rw [hgb]
    refine Wk.on ?_
    rw [hwa]
    refine Wk.on ?_
    rw [hsa]
    refine Wk.on ?_
    have hst2 : (lC n rows1).set (0 + 1 + Int.toNat ((b : Nat) : Int) * 1) (.int .i64 ((Int.toNat ((eb : Nat) : Int) ||| Int.toNat ((qa : Nat) : Int) : Nat) : Int)) = lC n (nearR (ws.take (i + 1))) := by
      rw [show 0 + 1 + Int.toNat ((b : Nat) : Int) * 1 = b + 1 by rw [Int.toNat_natCast]; omega, Int.toNat_natCast, Int.toNat_natCast, lC_set, hnx, nearF, ← ha, ← hb2, ← hqa, ← hqb, ← hrows1, orAt, heb]
    rw [hst2]
    refine Wk.on ?_
    refine Again.mk (i + 1) (Sub.nil ⟨rfl, rfl, (by simp [tab64_LL, pC, castL, lC]), rfl, (by simp [tupA, hpLt, tmLt, AV.lt, AE.lt, AC.lt, LL_cons, LL_nil, idOk, ABlk.lt, ints_LL, GB, tab64_LL, pC, castL, lC]), (by simp [tupA, hpLt, tmLt, AV.lt, AE.lt, AC.lt, LL_cons, LL_nil, idOk, ABlk.lt, ints_LL, GB, tab64_LL, pC, castL, lC])⟩ (by (repeat (first | exact trivial | refine ⟨trivial, ?_⟩ | refine ⟨rfl, ?_⟩))) ⟨rfl, rfl, by show ABlk.own [.int .i64 a, .int .i64 b] = ABlk.own _; rw [hprev], rfl, trivial⟩) (by omega) (by omega)
  · obtain rfl : i = ws.length := by omega
    obtain ⟨a, ha⟩ : ∃ a, a = (es.getD ws.length (0, 0)).1 := ⟨_, rfl⟩
    obtain ⟨b, hb2⟩ : ∃ b, b = (es.getD ws.length (0, 0)).2 := ⟨_, rfl⟩
    have hpc : rdn (ints (flI es)) (ws.length * 2) [.int .i64 0, .int .i64 0] = [.int .i64 a, .int .i64 b] := by rw [flI_rdn, ha, hb2]
    have hno := bad_cmp (n := n) hg ha hb2
    rw [hbad] at hno
    rw [← hrows, ← hpa, ← hpb]
    rw [← hpa, ← hpb] at hno
    refine Wk.on ?_
    rw [decide_eq_true (show ((ws.length : Nat) : Int) < ((es.length : Nat) : Int) by omega)]
    refine Wk.on ?_
    refine ⟨⟨by rw [hlen, Int.toNat_natCast]; show 0 + ws.length * 2 + 2 ≤ _; omega, rfl⟩, ?_⟩
    rw [Int.toNat_natCast, Nat.zero_add]
    refine Wk.on ?_
    rw [hpc]
    refine Wk.on ?_
    refine Tr.draw (md := true) [⟨[], [32], [], [], []⟩, ⟨[], [31], [0], [], []⟩, ⟨[0, 1], [], [], [], []⟩, ⟨[0, 1, 2], [], [], [], []⟩, ⟨[0, 1, 2, 3], [], [], [], []⟩, ⟨[0, 1, 2, 3, 4], [], [], [], []⟩, ⟨[0, 1, 2, 3, 4, 5], [], [], [], []⟩, ⟨[0, 1, 2, 3, 4, 5, 6], [], [], [], []⟩, ⟨[0, 1, 2, 3, 4, 5, 6, 7], [], [], [], []⟩, ⟨[0, 1, 2, 3, 4, 5, 6, 7, 8], [], [], [], []⟩, ⟨[0, 1, 2, 3, 4, 5, 6, 7, 8, 9], [43, 44], [], [], []⟩, ⟨[0, 1, 2, 3, 4, 5, 6, 7, 8, 9, 10], [43, 44], [], [], []⟩, ⟨[0, 1, 2, 3, 4, 5, 6, 7, 8, 9], [41, 42], [10, 11], [], []⟩, ⟨[0, 1, 2, 3, 4, 5, 6, 7, 8, 9, 12], [41, 42], [10, 11], [], []⟩, ⟨[0, 1, 2, 3, 4, 5, 6, 7, 8, 9, 10, 11, 12, 13], [], [], [], []⟩, ⟨[0, 1, 2, 3, 4, 5, 6, 7, 8, 9, 10, 11, 12, 13, 14], [], [], [], []⟩, ⟨[0, 1, 2, 3, 4, 5, 6, 7, 8, 9, 10, 11, 12, 13, 14, 15], [], [], [], []⟩, ⟨[0, 1, 2, 3, 4, 5, 6, 7, 8, 9, 10, 11, 12, 13, 14, 15, 16], [50], [], [], []⟩, ⟨[0, 1, 2, 3, 4, 5, 6, 7, 8, 9, 10, 11, 12, 13, 14, 15, 16, 17], [50], [], [], []⟩, ⟨[0, 1, 2, 3, 4, 5, 6, 7, 8, 9, 10, 11, 12, 13, 14, 15, 16], [48, 49], [17, 18], [], []⟩] tok (by kernel_rfl) (by kernel_rfl) ?_
    refine Wk.on ?_
    refine CallQ.ro2 [4, 3] (.c (.int .i64 (cmp2 a b pa pb))) (cmp22_spec a b pa pb) ?_
    refine Wk.on ?_
    by_cases d1 : cmp2 a b pa pb ≤ 0
    · rw [decide_eq_true d1]
      refine Wk.on ?_
      exact AH.Fin.nil2 ⟨rfl, rfl, rfl⟩
    rw [decide_eq_false d1]
    refine Wk.on ?_
    by_cases d2 : a < 0
    · rw [decide_eq_true d2]
      refine Wk.on ?_
      exact AH.Fin.nil2 ⟨rfl, rfl, rfl⟩
    rw [decide_eq_false d2]
    refine Wk.on ?_
    by_cases d3 : b ≤ a
    · rw [decide_eq_true d3]
      refine Wk.on ?_
      exact AH.Fin.nil2 ⟨rfl, rfl, rfl⟩
    rw [decide_eq_false d3]
    refine Wk.on ?_
    by_cases d4 : (n : Int) ≤ b
    · rw [decide_eq_true d4]
      refine Wk.on ?_
      exact AH.Fin.nil2 ⟨rfl, rfl, rfl⟩
    exact absurd (hno d1 d2 d3 d4) (by decide)
theorem open_arg_n {n : Int} (h : n < 1 ∨ 16 < n) (es : List (Int × Int)) (own : Bool) (hl : es.length ≤ 1000) : FDet Tryd.prog 50 [.c (.int .i64 n), .c (.rs 0 0 es.length), .c (.bool own), .c (.nils)] [(0, .ro (ints (flI es)))] 1 (.t [.c .nilp, .c (.int .i64 1)]) [] 1 := by
  refine FSpec.body2 tok true Tryd.func50 ?_
  refine Wk.on ?_
  by_cases d1 : n < 1
  · rw [decide_eq_true d1]
    refine Wk.on ?_
    exact AH.Fin.nil2 ⟨rfl, rfl, rfl⟩
  rw [decide_eq_false d1]
  refine Wk.on ?_
  rw [decide_eq_true (show 16 < n by omega)]
  refine Wk.on ?_
  exact AH.Fin.nil2 ⟨rfl, rfl, rfl⟩
theorem open_bad_r {n : Nat} {ws : List (Nat × Nat)} (h : Gr n ws) (es : List (Int × Int)) (own : Bool) (hl : es.length ≤ 1000) (hk : ws.length < es.length) (hg : goodTo ws es) (hbad : badE n es ws.length = true) (S : List Int) (hS : S.length ≤ 1000) : FDet Tryd.prog 50 [.c (.int .i64 n), .c (.rs 0 0 es.length), .c (.bool own), .c (.rs 1 0 S.length)] [(0, .ro (ints (flI es))), (1, .ro (ints S))] 2 (.t [.c .nilp, .c (.int .i64 40)]) [] 2 := by
  have hn1 := h.n1
  have hn := h.n16
  have hlen : (ints (flI es)).length = es.length * 2 := by rw [ints_len, flI_len]
  refine FSpec.body2 tok true Tryd.func50 ?_
  refine Wk.on ?_
  rw [decide_eq_false (show ¬ ((n : Nat) : Int) < 1 by omega)]
  refine Wk.on ?_
  rw [decide_eq_false (show ¬ 16 < ((n : Nat) : Int) by omega)]
  refine Wk.on ?_
  refine Tr.loop (md := true) (X := Nat) (st := fun i => ⟨[(2, .c (.bool own)), (3, .c (.rs 1 0 S.length)), (4, .c (.ptr 2 0)), (10, .c (.ptr 3 0)), (11, .c (.ptr 4 0)), (25, .c (.rs 0 0 es.length)), (26, .c (.int .i64 es.length)), (27, .c (.int .i64 i))], [(2, .own [.int .i64 n]), (3, .own (lC n (nearR (ws.take i)))), (4, .own [.int .i64 (prevP ws i).1, .int .i64 (prevP ws i).2]), (0, .ro (ints (flI es))), (1, .ro (ints S))], 5, 108, 2⟩) (inv := fun i => i ≤ ws.length) (μ := fun i => es.length - i) (x0 := 0) (l := []) tok (by omega) ?_ ?_
  · exact Sub.nil ⟨rfl, rfl, (by simp [tab64_LL, pC, castL, lC]), rfl, (by simp [tupA, hpLt, tmLt, AV.lt, AE.lt, AC.lt, LL_cons, LL_nil, idOk, ABlk.lt, ints_LL, GB, tab64_LL, pC, castL, lC]), (by simp [tupA, hpLt, tmLt, AV.lt, AE.lt, AC.lt, LL_cons, LL_nil, idOk, ABlk.lt, ints_LL, GB, tab64_LL, pC, castL, lC])⟩ (by (repeat (first | exact trivial | refine ⟨trivial, ?_⟩ | refine ⟨rfl, ?_⟩))) (by (repeat (first | exact trivial | refine ⟨trivial, ?_⟩ | refine ⟨rfl, ?_⟩)))
  intro i hi
  obtain ⟨rows, hrows⟩ : ∃ rows, rows = nearR (ws.take i) := ⟨_, rfl⟩
  have hL : Lm n rows := by rw [hrows]; exact nearR_lm h i hi
  have hl17 : (lC n rows).length = 17 := by rw [lC, List.length_cons, ints_len, castL_len, hL.len]
  obtain ⟨pa, hpa⟩ : ∃ pa, pa = (prevP ws i).1 := ⟨_, rfl⟩
  obtain ⟨pb, hpb⟩ : ∃ pb, pb = (prevP ws i).2 := ⟨_, rfl⟩
  by_cases hil : i < ws.length
  · have hnx : nearR (ws.take (i + 1)) = nearF rows (ws.getD i (0, 0)) := by rw [take_succ ws (0, 0) hil, hrows, nearR, List.foldl_append]; rfl
    have hcmp := cmp_prev h hil
    have hok := h.ok i hil
    have hgi := hg i hil
    have hprev : prevP ws (i + 1) = ((((ws.getD i (0, 0)).1 : Nat) : Int), (((ws.getD i (0, 0)).2 : Nat) : Int)) := by rw [prevP, if_neg (by omega), Nat.add_sub_cancel]
    obtain ⟨a, ha⟩ : ∃ a, a = (ws.getD i (0, 0)).1 := ⟨_, rfl⟩
    obtain ⟨b, hb2⟩ : ∃ b, b = (ws.getD i (0, 0)).2 := ⟨_, rfl⟩
    have hpc : rdn (ints (flI es)) (i * 2) [.int .i64 0, .int .i64 0] = [.int .i64 a, .int .i64 b] := by rw [flI_rdn, hgi, ha, hb2]
    rw [← hrows, ← hpa, ← hpb]
    rw [← hpa, ← hpb, ← ha, ← hb2] at hcmp
    rw [← ha, ← hb2] at hok hprev
    obtain ⟨hab, hbn⟩ := hok
    obtain ⟨qa, hqa⟩ : ∃ q, q = 2 ^ a := ⟨_, rfl⟩
    obtain ⟨qb, hqb⟩ : ∃ q, q = 2 ^ b := ⟨_, rfl⟩
    have hqa2 : qa < 65536 := by rw [hqa]; exact Nat.pow_lt_pow_right (n := 16) (by omega) (by omega)
    have hqb2 : qb < 65536 := by rw [hqb]; exact Nat.pow_lt_pow_right (n := 16) (by omega) (by omega)
    have hsa : (1 : Int) * 2 ^ (Int.toNat (a : Int)) = (qa : Int) := by simp [hqa]
    have hsb : (1 : Int) * 2 ^ (Int.toNat (b : Int)) = (qb : Int) := by simp [hqb]
    have hwa : IntKind.u64.wrap (a : Int) = a := wrapU (by omega)
    have hwb : IntKind.u64.wrap (b : Int) = b := wrapU (by omega)
    have hp16 : 2 ^ n ≤ 65536 := hL.pow
    obtain ⟨ea, hea⟩ : ∃ e, e = rows.getD a 0 := ⟨_, rfl⟩
    have hea2 : ea < 65536 := by have := hL.row a; omega
    have hL1 : Lm n (orAt rows a qb) := orAt_lm hL (by rw [hqb]; exact Nat.pow_lt_pow_right (by omega) hbn)
    obtain ⟨rows1, hrows1⟩ : ∃ r, r = orAt rows a qb := ⟨_, rfl⟩
    rw [← hrows1] at hL1
    obtain ⟨eb, heb⟩ : ∃ e, e = rows1.getD b 0 := ⟨_, rfl⟩
    have heb2 : eb < 65536 := by have := hL1.row b; omega
    have hl171 : (lC n rows1).length = 17 := by rw [lC, List.length_cons, ints_len, castL_len, hL1.len]
    refine Wk.on ?_
    rw [decide_eq_true (show ((i : Nat) : Int) < ((es.length : Nat) : Int) by omega)]
    refine Wk.on ?_
    refine ⟨⟨by rw [hlen, Int.toNat_natCast]; show 0 + i * 2 + 2 ≤ _; omega, rfl⟩, ?_⟩
    rw [Int.toNat_natCast, Nat.zero_add]
    refine Wk.on ?_
    rw [hpc]
    refine Wk.on ?_
    refine Tr.draw (md := true) [⟨[], [32], [], [], []⟩, ⟨[], [31], [0], [], []⟩, ⟨[0, 1], [], [], [], []⟩, ⟨[0, 1, 2], [], [], [], []⟩, ⟨[0, 1, 2, 3], [], [], [], []⟩, ⟨[0, 1, 2, 3, 4], [], [], [], []⟩, ⟨[0, 1, 2, 3, 4, 5], [], [], [], []⟩, ⟨[0, 1, 2, 3, 4, 5, 6], [], [], [], []⟩, ⟨[0, 1, 2, 3, 4, 5, 6, 7], [], [], [], []⟩, ⟨[0, 1, 2, 3, 4, 5, 6, 7, 8], [], [], [], []⟩, ⟨[0, 1, 2, 3, 4, 5, 6, 7, 8, 9], [43, 44], [], [], []⟩, ⟨[0, 1, 2, 3, 4, 5, 6, 7, 8, 9, 10], [43, 44], [], [], []⟩, ⟨[0, 1, 2, 3, 4, 5, 6, 7, 8, 9], [41, 42], [10, 11], [], []⟩, ⟨[0, 1, 2, 3, 4, 5, 6, 7, 8, 9, 12], [41, 42], [10, 11], [], []⟩, ⟨[0, 1, 2, 3, 4, 5, 6, 7, 8, 9, 10, 11, 12, 13], [], [], [], []⟩, ⟨[0, 1, 2, 3, 4, 5, 6, 7, 8, 9, 10, 11, 12, 13, 14], [], [], [], []⟩, ⟨[0, 1, 2, 3, 4, 5, 6, 7, 8, 9, 10, 11, 12, 13, 14, 15], [], [], [], []⟩, ⟨[0, 1, 2, 3, 4, 5, 6, 7, 8, 9, 10, 11, 12, 13, 14, 15, 16], [50], [], [], []⟩, ⟨[0, 1, 2, 3, 4, 5, 6, 7, 8, 9, 10, 11, 12, 13, 14, 15, 16, 17], [50], [], [], []⟩, ⟨[0, 1, 2, 3, 4, 5, 6, 7, 8, 9, 10, 11, 12, 13, 14, 15, 16], [48, 49], [17, 18], [], []⟩] tok (by kernel_rfl) (by kernel_rfl) ?_
    refine Wk.on ?_
    refine CallQ.ro2 [5, 4] (.c (.int .i64 (cmp2 a b pa pb))) (cmp22_spec a b pa pb) ?_
    rw [hcmp]
    refine Wk.on ?_
    rw [decide_eq_false (show ¬ ((a : Nat) : Int) < 0 by omega)]
    refine Wk.on ?_
    rw [decide_eq_false (show ¬ ((b : Nat) : Int) ≤ ((a : Nat) : Int) by omega)]
    refine Wk.on ?_
    rw [decide_eq_false (show ¬ ((n : Nat) : Int) ≤ ((b : Nat) : Int) by omega)]
    refine Wk.on ?_
    have hga : (lC n rows).getD (0 + 1 + Int.toNat ((a : Nat) : Int) * 1) (.int .i64 0) = .int .i64 (ea : Int) := by rw [hea, show 0 + 1 + Int.toNat ((a : Nat) : Int) * 1 = a + 1 by rw [Int.toNat_natCast]; omega]; exact lC_getD a
    refine Tr.draw (md := true) [⟨[], [54, 55, 60, 61, 62, 63], [], [], []⟩, ⟨[], [53, 56, 57, 60, 61, 62, 63, 65, 66], [0], [], []⟩, ⟨[1], [53, 56, 57, 60, 61, 62, 63, 65, 66], [0], [], []⟩, ⟨[0], [54, 55, 60, 61, 62, 63, 65, 66], [1, 2], [], []⟩, ⟨[0, 3], [54, 55, 60, 61, 62, 63, 65, 66], [1, 2], [], []⟩, ⟨[0, 1, 2, 3, 4], [60, 61, 62, 63, 65, 66], [], [], []⟩, ⟨[0, 1, 2, 3, 4, 5], [60, 61, 62, 63, 65, 66], [], [], []⟩, ⟨[], [53, 54, 55, 56, 57, 58, 59, 65, 66], [0, 1, 2, 3, 4, 5, 6], [], []⟩, ⟨[7], [53, 54, 55, 56, 57, 58, 59, 65, 66], [0, 1, 2, 3, 4, 5, 6], [], []⟩, ⟨[7, 8], [53, 54, 55, 56, 57, 58, 59, 65, 66], [0, 1, 2, 3, 4, 5, 6], [], []⟩, ⟨[7, 8, 9], [53, 54, 55, 56, 57, 58, 59, 65, 66], [0, 1, 2, 3, 4, 5, 6], [], []⟩, ⟨[0, 1, 2, 3, 4, 5, 6, 7, 8, 9, 10], [65, 66], [], [], []⟩, ⟨[0], [54, 55, 56, 57, 58, 59, 60, 61, 62, 63, 64], [1, 2, 3, 4, 5, 6, 7, 8, 9, 10, 11], [], []⟩, ⟨[0, 12], [54, 55, 56, 57, 58, 59, 60, 61, 62, 63, 64], [1, 2, 3, 4, 5, 6, 7, 8, 9, 10, 11], [], []⟩] tok (by kernel_rfl) (by kernel_rfl) ?_
    refine Wk.on ?_
    rw [hga]
    refine Wk.on ?_
    rw [hwb]
    refine Wk.on ?_
    rw [hsb]
    refine Wk.on ?_
    have hst : (lC n rows).set (0 + 1 + Int.toNat ((a : Nat) : Int) * 1) (.int .i64 ((Int.toNat ((ea : Nat) : Int) ||| Int.toNat ((qb : Nat) : Int) : Nat) : Int)) = lC n rows1 := by
      rw [show 0 + 1 + Int.toNat ((a : Nat) : Int) * 1 = a + 1 by rw [Int.toNat_natCast]; omega, Int.toNat_natCast, Int.toNat_natCast, lC_set, hrows1, orAt, hea]
    rw [hst]
    have hgb : (lC n rows1).getD (0 + 1 + Int.toNat ((b : Nat) : Int) * 1) (.int .i64 0) = .int .i64 (eb : Int) := by rw [heb, show 0 + 1 + Int.toNat ((b : Nat) : Int) * 1 = b + 1 by rw [Int.toNat_natCast]; omega]; exact lC_getD b
    refine Tr.draw (md := true) [⟨[], [69, 70, 75, 76, 77, 78], [], [], []⟩, ⟨[], [68, 71, 72, 75, 76, 77, 78, 80, 81], [0], [], []⟩, ⟨[1], [68, 71, 72, 75, 76, 77, 78, 80, 81], [0], [], []⟩, ⟨[0], [69, 70, 75, 76, 77, 78, 80, 81], [1, 2], [], []⟩, ⟨[0, 3], [69, 70, 75, 76, 77, 78, 80, 81], [1, 2], [], []⟩, ⟨[0, 1, 2, 3, 4], [75, 76, 77, 78, 80, 81], [], [], []⟩, ⟨[0, 1, 2, 3, 4, 5], [75, 76, 77, 78, 80, 81], [], [], []⟩, ⟨[], [68, 69, 70, 71, 72, 73, 74, 80, 81], [0, 1, 2, 3, 4, 5, 6], [], []⟩, ⟨[7], [68, 69, 70, 71, 72, 73, 74, 80, 81], [0, 1, 2, 3, 4, 5, 6], [], []⟩, ⟨[7, 8], [68, 69, 70, 71, 72, 73, 74, 80, 81], [0, 1, 2, 3, 4, 5, 6], [], []⟩, ⟨[7, 8, 9], [68, 69, 70, 71, 72, 73, 74, 80, 81], [0, 1, 2, 3, 4, 5, 6], [], []⟩, ⟨[0, 1, 2, 3, 4, 5, 6, 7, 8, 9, 10], [80, 81], [], [], []⟩, ⟨[0], [69, 70, 71, 72, 73, 74, 75, 76, 77, 78, 79], [1, 2, 3, 4, 5, 6, 7, 8, 9, 10, 11], [], []⟩, ⟨[0, 12], [69, 70, 71, 72, 73, 74, 75, 76, 77, 78, 79], [1, 2, 3, 4, 5, 6, 7, 8, 9, 10, 11], [], []⟩] tok (by kernel_rfl) (by kernel_rfl) ?_
    refine Wk.on ?_
    rw [hgb]
    refine Wk.on ?_
    rw [hwa]
    refine Wk.on ?_
    rw [hsa]
    refine Wk.on ?_
    have hst2 : (lC n rows1).set (0 + 1 + Int.toNat ((b : Nat) : Int) * 1) (.int .i64 ((Int.toNat ((eb : Nat) : Int) ||| Int.toNat ((qa : Nat) : Int) : Nat) : Int)) = lC n (nearR (ws.take (i + 1))) := by
      rw [show 0 + 1 + Int.toNat ((b : Nat) : Int) * 1 = b + 1 by rw [Int.toNat_natCast]; omega, Int.toNat_natCast, Int.toNat_natCast, lC_set, hnx, nearF, ← ha, ← hb2, ← hqa, ← hqb, ← hrows1, orAt, heb]
    rw [hst2]
    refine Wk.on ?_
    refine Again.mk (i + 1) (Sub.nil ⟨rfl, rfl, (by simp [tab64_LL, pC, castL, lC]), rfl, (by simp [tupA, hpLt, tmLt, AV.lt, AE.lt, AC.lt, LL_cons, LL_nil, idOk, ABlk.lt, ints_LL, GB, tab64_LL, pC, castL, lC]), (by simp [tupA, hpLt, tmLt, AV.lt, AE.lt, AC.lt, LL_cons, LL_nil, idOk, ABlk.lt, ints_LL, GB, tab64_LL, pC, castL, lC])⟩ (by (repeat (first | exact trivial | refine ⟨trivial, ?_⟩ | refine ⟨rfl, ?_⟩))) ⟨rfl, rfl, by show ABlk.own [.int .i64 a, .int .i64 b] = ABlk.own _; rw [hprev], rfl, rfl, trivial⟩) (by omega) (by omega)
  · obtain rfl : i = ws.length := by omega
    obtain ⟨a, ha⟩ : ∃ a, a = (es.getD ws.length (0, 0)).1 := ⟨_, rfl⟩
    obtain ⟨b, hb2⟩ : ∃ b, b = (es.getD ws.length (0, 0)).2 := ⟨_, rfl⟩
    have hpc : rdn (ints (flI es)) (ws.length * 2) [.int .i64 0, .int .i64 0] = [.int .i64 a, .int .i64 b] := by rw [flI_rdn, ha, hb2]
    have hno := bad_cmp (n := n) hg ha hb2
    rw [hbad] at hno
    rw [← hrows, ← hpa, ← hpb]
    rw [← hpa, ← hpb] at hno
    refine Wk.on ?_
    rw [decide_eq_true (show ((ws.length : Nat) : Int) < ((es.length : Nat) : Int) by omega)]
    refine Wk.on ?_
    refine ⟨⟨by rw [hlen, Int.toNat_natCast]; show 0 + ws.length * 2 + 2 ≤ _; omega, rfl⟩, ?_⟩
    rw [Int.toNat_natCast, Nat.zero_add]
    refine Wk.on ?_
    rw [hpc]
    refine Wk.on ?_
    refine Tr.draw (md := true) [⟨[], [32], [], [], []⟩, ⟨[], [31], [0], [], []⟩, ⟨[0, 1], [], [], [], []⟩, ⟨[0, 1, 2], [], [], [], []⟩, ⟨[0, 1, 2, 3], [], [], [], []⟩, ⟨[0, 1, 2, 3, 4], [], [], [], []⟩, ⟨[0, 1, 2, 3, 4, 5], [], [], [], []⟩, ⟨[0, 1, 2, 3, 4, 5, 6], [], [], [], []⟩, ⟨[0, 1, 2, 3, 4, 5, 6, 7], [], [], [], []⟩, ⟨[0, 1, 2, 3, 4, 5, 6, 7, 8], [], [], [], []⟩, ⟨[0, 1, 2, 3, 4, 5, 6, 7, 8, 9], [43, 44], [], [], []⟩, ⟨[0, 1, 2, 3, 4, 5, 6, 7, 8, 9, 10], [43, 44], [], [], []⟩, ⟨[0, 1, 2, 3, 4, 5, 6, 7, 8, 9], [41, 42], [10, 11], [], []⟩, ⟨[0, 1, 2, 3, 4, 5, 6, 7, 8, 9, 12], [41, 42], [10, 11], [], []⟩, ⟨[0, 1, 2, 3, 4, 5, 6, 7, 8, 9, 10, 11, 12, 13], [], [], [], []⟩, ⟨[0, 1, 2, 3, 4, 5, 6, 7, 8, 9, 10, 11, 12, 13, 14], [], [], [], []⟩, ⟨[0, 1, 2, 3, 4, 5, 6, 7, 8, 9, 10, 11, 12, 13, 14, 15], [], [], [], []⟩, ⟨[0, 1, 2, 3, 4, 5, 6, 7, 8, 9, 10, 11, 12, 13, 14, 15, 16], [50], [], [], []⟩, ⟨[0, 1, 2, 3, 4, 5, 6, 7, 8, 9, 10, 11, 12, 13, 14, 15, 16, 17], [50], [], [], []⟩, ⟨[0, 1, 2, 3, 4, 5, 6, 7, 8, 9, 10, 11, 12, 13, 14, 15, 16], [48, 49], [17, 18], [], []⟩] tok (by kernel_rfl) (by kernel_rfl) ?_
    refine Wk.on ?_
    refine CallQ.ro2 [5, 4] (.c (.int .i64 (cmp2 a b pa pb))) (cmp22_spec a b pa pb) ?_
    refine Wk.on ?_
    by_cases d1 : cmp2 a b pa pb ≤ 0
    · rw [decide_eq_true d1]
      refine Wk.on ?_
      exact AH.Fin.nil2 ⟨rfl, rfl, rfl⟩
    rw [decide_eq_false d1]
    refine Wk.on ?_
    by_cases d2 : a < 0
    · rw [decide_eq_true d2]
      refine Wk.on ?_
      exact AH.Fin.nil2 ⟨rfl, rfl, rfl⟩
    rw [decide_eq_false d2]
    refine Wk.on ?_
    by_cases d3 : b ≤ a
    · rw [decide_eq_true d3]
      refine Wk.on ?_
      exact AH.Fin.nil2 ⟨rfl, rfl, rfl⟩
    rw [decide_eq_false d3]
    refine Wk.on ?_
    by_cases d4 : (n : Int) ≤ b
    · rw [decide_eq_true d4]
      refine Wk.on ?_
      exact AH.Fin.nil2 ⟨rfl, rfl, rfl⟩
    exact absurd (hno d1 d2 d3 d4) (by decide)
theorem open_arg_r {n : Int} (h : n < 1 ∨ 16 < n) (es : List (Int × Int)) (own : Bool) (hl : es.length ≤ 1000) (S : List Int) (hS : S.length ≤ 1000) : FDet Tryd.prog 50 [.c (.int .i64 n), .c (.rs 0 0 es.length), .c (.bool own), .c (.rs 1 0 S.length)] [(0, .ro (ints (flI es))), (1, .ro (ints S))] 2 (.t [.c .nilp, .c (.int .i64 1)]) [] 2 := by
  refine FSpec.body2 tok true Tryd.func50 ?_
  refine Wk.on ?_
  by_cases d1 : n < 1
  · rw [decide_eq_true d1]
    refine Wk.on ?_
    exact AH.Fin.nil2 ⟨rfl, rfl, rfl⟩
  rw [decide_eq_false d1]
  refine Wk.on ?_
  rw [decide_eq_true (show 16 < n by omega)]
  refine Wk.on ?_
  exact AH.Fin.nil2 ⟨rfl, rfl, rfl⟩
end Go.Proofs.YtimknijehaamlaaDoor
