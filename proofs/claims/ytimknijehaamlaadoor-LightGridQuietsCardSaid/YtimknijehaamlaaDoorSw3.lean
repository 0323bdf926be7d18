/-
  Contracts: the effect of a set; sets out of range; pairs compared.
-/
import Derived.Test.YtimknijehaamlaaDoorSw2
set_option linter.unusedSimpArgs false
set_option linter.unusedVariables false
namespace Go.Proofs.YtimknijehaamlaaDoor
open Go Go.AH Go.Lin
set_option maxRecDepth 100000
set_option maxHeartbeats 1000000

def effI (rows : List Nat) (a : Nat) (i : Int) : Nat := a ^^^ rows.getD i.toNat 0
theorem eff_mem {rows : List Nat} (hl : rows.length = 16) (x : Nat) : (mem x).foldl (effI rows) 0 = eff rows x := by
  rw [mem, memN, List.foldl_map, List.foldl_filter, eff, effX, hl]
  rfl
theorem effI_lt {n : Nat} {rows : List Nat} (h : Lm n rows) (L : List Int) : L.foldl (effI rows) 0 < 2 ^ n := by
  have : ∀ (L : List Int) (a : Nat), a < 2 ^ n → L.foldl (effI rows) a < 2 ^ n := by
    intro L
    induction L with
    | nil => intro a h; exact h
    | cons i L ih => intro a ha; exact ih _ (Nat.xor_lt_two_pow ha (h.row _))
  exact this L 0 (Nat.two_pow_pos n)
theorem effect_spec {n : Nat} {rows : List Nat} (h : Lm n rows) {x : Nat} (hx : x < 2 ^ n) : FDet Tryd.prog 57 [.c (.ptr 0 0), .c (.int .i64 x)] [(0, .ro (lC n rows)), (100001, .ro tab64)] 1 (.c (.int .i64 (eff rows x : Nat))) [] 1 := by
  have hn := h.n16
  have hp := h.pow
  have hx16 : x < 65536 := by omega
  have hl17 : (lC n rows).length = 17 := by rw [lC, List.length_cons, ints_len, castL_len, h.len]
  refine FSpec.body2 tok true Tryd.func57 ?_
  refine Wk.on ?_
  refine CallA.det2 [] (.c (.fn 89 [] [3])) ([(2, .own [.int .i64 0]), (1, .own [.ptr 0 0]), (0, .ro (lC n rows)), (100001, .ro tab64), (3, .own [.int .i64 x])]) (members_spec x) ?_
  refine Wk.on ?_
  refine Tr.range (md := true) tok rfl (mem x) ([(3, .ro [.int .i64 x]), (100001, .ro tab64)]) (members1_iter hx16 3 (by decide)) (by (repeat (first | exact trivial | refine ⟨trivial, ?_⟩ | refine ⟨rfl, ?_⟩))) rfl (fun pre => [(3, .ro [.int .i64 x]), (2, .own [.int .i64 (pre.foldl (effI rows) 0 : Nat)]), (1, .own [.ptr 0 0]), (0, .ro (lC n rows)), (100001, .ro tab64)]) (fun _ => True) (4) (by decide) (by first | trivial | rfl | decide | simp) (by (repeat (first | exact trivial | refine ⟨trivial, ?_⟩ | refine ⟨rfl, ?_⟩))) (fun pre hpre => (by simp [tupA, hpLt, tmLt, AV.lt, AE.lt, AC.lt, LL_cons, LL_nil, idOk, ABlk.lt, ints_LL, GB, tab64_LL, pC, castL, lC])) (fun pre hpre => ⟨(by (repeat (first | exact trivial | refine ⟨trivial, ?_⟩ | refine ⟨rfl, ?_⟩))), (by (repeat (first | exact trivial | refine ⟨trivial, ?_⟩ | refine ⟨rfl, ?_⟩)))⟩) rfl rfl (by decide) ?_ ?_
  · intro pre y hpre _ hy hl
    obtain ⟨y0, y1, y2⟩ := mem_lt hx hy
    obtain ⟨j, rfl⟩ : ∃ j : Nat, y = j := ⟨y.toNat, by omega⟩
    rw [Int.toNat_natCast] at y1
    obtain ⟨a, ha⟩ : ∃ a, a = pre.foldl (effI rows) 0 := ⟨_, rfl⟩
    obtain ⟨e, he⟩ : ∃ e, e = rows.getD j 0 := ⟨_, rfl⟩
    simp only [← ha]
    have hget : (lC n rows).getD (j + 1) (.int .i64 0) = .int .i64 (e : Int) := by rw [he]; exact lC_getD j
    have ha2 : a < 65536 := by have := effI_lt h pre; omega
    have he2 : e < 65536 := by have := h.row j; omega
    refine Wk.on ?_
    refine Tr.draw (md := true) [⟨[], [11, 12, 13, 14, 15, 16], [], [], []⟩, ⟨[], [10, 12], [0], [], []⟩, ⟨[], [10, 11, 13, 14], [0, 1], [], []⟩, ⟨[1], [10, 12], [0, 2], [], []⟩, ⟨[1, 3], [10, 12], [0, 2], [], []⟩, ⟨[1, 2, 3, 4], [10], [0], [], []⟩, ⟨[1, 2, 3, 4, 5], [10], [0], [], []⟩] tok (by kernel_rfl) (by kernel_rfl) ?_
    refine Wk.on ?_
    rw [show 0 + 1 + Int.toNat ((j : Nat) : Int) * 1 = j + 1 by rw [Int.toNat_natCast]; omega, hget]
    refine Wk.on ?_
    refine Wk.on ?_
    refine ⟨(), trivial, RoundOk.nil ⟨rfl, ?_, rfl, rfl, rfl, trivial⟩ rfl⟩
    show ABlk.own [.int .i64 ((((a : Int).toNat ^^^ (e : Int).toNat : Nat) : Int))] = ABlk.own _
    rw [List.foldl_append, ← ha, Int.toNat_natCast, Int.toNat_natCast, he]
    rfl
  · intro _
    rw [eff_mem h.len]
    refine Wk.on ?_
    exact AH.Fin.nil2 ⟨rfl, rfl, rfl⟩

/-- Numbers that are no set of the lamps. -/
def oorB (n : Nat) (v : Int) : Bool := decide (v < 0) || decide ((2 ^ n : Nat) ≤ v)
theorem oor_spec {n : Nat} (hn : n ≤ 16) (v : Int) : FDet Tryd.prog 66 [.c (.int .i64 v), .c (.ptr 0 0)] [(0, .ro [.int .i64 n])] 1 (.c (.bool (oorB n v))) [] 1 := by
  have hwi : IntKind.u64.wrap (n : Int) = n := wrapU (by omega)
  obtain ⟨q, hq⟩ : ∃ q, q = 2 ^ n := ⟨_, rfl⟩
  have hq2 : q ≤ 65536 := by rw [hq]; exact (Nat.pow_le_pow_right (by omega) hn : 2 ^ n ≤ 2 ^ 16)
  have hsh : (1 : Int) * 2 ^ (Int.toNat (n : Int)) = (q : Int) := by simp [hq]
  unfold oorB
  rw [← hq]
  refine FSpec.body2 tok true Tryd.func66 ?_
  refine Wk.on ?_
  by_cases h1 : v < 0
  · rw [decide_eq_true h1]
    refine Wk.on ?_
    exact AH.Fin.nil2 ⟨rfl, rfl, rfl⟩
  · rw [decide_eq_false h1]
    refine Wk.on ?_
    rw [hwi]
    refine Wk.on ?_
    rw [hsh]
    refine Wk.on ?_
    exact AH.Fin.nil2 ⟨rfl, rfl, rfl⟩
def ixS (n : Nat) (S : List Int) : Int := if S.any (oorB n) then (S.findIdx (oorB n) : Nat) else -1
theorem ixS_nn (n : Nat) (S : List Int) : decide (0 ≤ ixS n S) = S.any (oorB n) := by
  unfold ixS
  cases S.any (oorB n)
  · rfl
  · exact decide_eq_true (by simp)
theorem indexF_spec {n : Nat} (hn : n ≤ 16) (S : List Int) (hS : S.length ≤ 1000) : FDet Tryd.prog 82 [.c (.rs 0 0 S.length), .c (.fn 66 [] [1])] [(0, .ro (ints S)), (1, .ro [.int .i64 n])] 2 (.c (.int .i64 (ixS n S))) [] 2 := by
  have hlen : (ints S).length = S.length := by rw [ints_len]
  refine FSpec.body2 tok true Tryd.func82 ?_
  refine Wk.on ?_
  refine Tr.loop (md := true) (X := Nat) (st := fun k => ⟨[(0, .c (.rs 0 0 S.length)), (1, .c (.fn 66 [] [1])), (7, .c (.int .i64 S.length)), (8, .c (.int .i64 k))], [(0, .ro (ints S)), (1, .ro [.int .i64 n])], 2, 19, 2⟩) (inv := fun k => k ≤ S.length ∧ ∀ j, j < k → oorB n (S.getD j 0) = false) (μ := fun k => S.length - k) (x0 := 0) (l := []) tok ⟨by omega, fun j hj => by omega⟩ ?_ ?_
  · exact Sub.nil ⟨rfl, rfl, (by simp [tab64_LL, pC, castL, lC]), rfl, (by simp [tupA, hpLt, tmLt, AV.lt, AE.lt, AC.lt, LL_cons, LL_nil, idOk, ABlk.lt, ints_LL, GB, tab64_LL, pC, castL, lC]), (by simp [tupA, hpLt, tmLt, AV.lt, AE.lt, AC.lt, LL_cons, LL_nil, idOk, ABlk.lt, ints_LL, GB, tab64_LL, pC, castL, lC])⟩ (by (repeat (first | exact trivial | refine ⟨trivial, ?_⟩ | refine ⟨rfl, ?_⟩))) (by (repeat (first | exact trivial | refine ⟨trivial, ?_⟩ | refine ⟨rfl, ?_⟩)))
  · rintro k ⟨hk, hall⟩
    by_cases hkl : k < S.length
    · refine Wk.on ?_
      rw [decide_eq_true (show ((k : Nat) : Int) < ((S.length : Nat) : Int) by omega)]
      refine Wk.on ?_
      rw [show 0 + Int.toNat ((k : Nat) : Int) * 1 = k by rw [Int.toNat_natCast]; omega, ints_getD]
      refine CallA.ro2 [1] (.c (.bool (oorB n (S.getD k 0)))) (oor_spec hn _) ?_
      refine Wk.on ?_
      cases hc : oorB n (S.getD k 0)
      · refine Wk.on ?_
        have hnx : ∀ j, j < k + 1 → oorB n (S.getD j 0) = false := fun j hj => by
          by_cases e1 : j = k
          · rw [e1]; exact hc
          · exact hall j (by omega)
        refine Again.mk (k + 1) (Sub.nil ⟨rfl, rfl, (by simp [tab64_LL, pC, castL, lC]), rfl, (by simp [tupA, hpLt, tmLt, AV.lt, AE.lt, AC.lt, LL_cons, LL_nil, idOk, ABlk.lt, ints_LL, GB, tab64_LL, pC, castL, lC]), (by simp [tupA, hpLt, tmLt, AV.lt, AE.lt, AC.lt, LL_cons, LL_nil, idOk, ABlk.lt, ints_LL, GB, tab64_LL, pC, castL, lC])⟩ (by (repeat (first | exact trivial | refine ⟨trivial, ?_⟩ | refine ⟨rfl, ?_⟩))) (by (repeat (first | exact trivial | refine ⟨trivial, ?_⟩ | refine ⟨rfl, ?_⟩)))) (⟨by omega, hnx⟩) (by omega)
      · refine Wk.on ?_
        have hg : ∀ j (hj : j < S.length), S.getD j 0 = S[j] := fun j hj => by rw [List.getD_eq_getElem?_getD, List.getElem?_eq_getElem hj]; rfl
        have ha : S.any (oorB n) = true := List.any_eq_true.2 ⟨S[k], List.getElem_mem hkl, by rw [← hg k hkl]; exact hc⟩
        have hf : S.findIdx (oorB n) = k := (List.findIdx_eq hkl).2 ⟨by rw [← hg k hkl]; exact hc, fun j hj => by rw [← hg j (by omega)]; exact hall j hj⟩
        exact AH.Fin.nil2 ⟨by rw [ixS, if_pos ha, hf]; rfl, rfl, rfl⟩
    · refine Wk.on ?_
      rw [decide_eq_false (show ¬ ((k : Nat) : Int) < ((S.length : Nat) : Int) by omega)]
      refine Wk.on ?_
      have ha : ¬ S.any (oorB n) = true := by
        rw [List.any_eq_true]
        rintro ⟨x, hx, hb⟩
        obtain ⟨j, hj, rfl⟩ := List.getElem_of_mem hx
        have := hall j (by omega)
        rw [List.getD_eq_getElem?_getD, List.getElem?_eq_getElem hj] at this
        rw [show oorB n S[j] = false from this] at hb
        cases hb
      exact AH.Fin.nil2 ⟨by rw [ixS, if_neg ha]; rfl, rfl, rfl⟩
theorem contains_spec {n : Nat} (hn : n ≤ 16) (S : List Int) (hS : S.length ≤ 1000) : FDet Tryd.prog 65 [.c (.rs 0 0 S.length), .c (.fn 66 [] [1])] [(0, .ro (ints S)), (1, .ro [.int .i64 n])] 2 (.c (.bool (S.any (oorB n)))) [] 2 := by
  refine FSpec.body2 tok true Tryd.func65 ?_
  refine Wk.on ?_
  refine CallA.ro2 [0, 1] (.c (.int .i64 (ixS n S))) (indexF_spec hn S hS) ?_
  refine Wk.on ?_
  exact AH.Fin.nil2 ⟨congrArg (fun b => AV.c (.bool b)) (ixS_nn n S), rfl, rfl⟩
theorem indexF_nil (n : Nat) : FDet Tryd.prog 82 [.c .nils, .c (.fn 66 [] [0])] [(0, .ro [.int .i64 n])] 1 (.c (.int .i64 (-1))) [] 1 := by
  refine FSpec.body2 tok true Tryd.func82 ?_
  refine Wk.on ?_
  refine Tr.loop (md := true) (X := Unit) (st := fun _ => ⟨[(7, .c (.int .i64 0)), (8, .c (.int .i64 0))], [], 1, 19, 1⟩) (inv := fun _ => True) (μ := fun _ => 0) (x0 := ()) (l := []) tok trivial ?_ ?_
  · exact Sub.nil ⟨rfl, rfl, (by simp [tab64_LL, pC, castL, lC]), rfl, (by simp [tupA, hpLt, tmLt, AV.lt, AE.lt, AC.lt, LL_cons, LL_nil, idOk, ABlk.lt, ints_LL, GB, tab64_LL, pC, castL, lC]), (by simp [tupA, hpLt, tmLt, AV.lt, AE.lt, AC.lt, LL_cons, LL_nil, idOk, ABlk.lt, ints_LL, GB, tab64_LL, pC, castL, lC])⟩ (by (repeat (first | exact trivial | refine ⟨trivial, ?_⟩ | refine ⟨rfl, ?_⟩))) (by (repeat (first | exact trivial | refine ⟨trivial, ?_⟩ | refine ⟨rfl, ?_⟩)))
  · intro _ _
    refine Wk.on ?_
    exact AH.Fin.nil2 ⟨rfl, rfl, rfl⟩
theorem contains_nil (n : Nat) : FDet Tryd.prog 65 [.c .nils, .c (.fn 66 [] [0])] [(0, .ro [.int .i64 n])] 1 (.c (.bool false)) [] 1 := by
  refine FSpec.body2 tok true Tryd.func65 ?_
  refine Wk.on ?_
  refine CallA.ro2 [0] (.c (.int .i64 (-1))) (indexF_nil n) ?_
  refine Wk.on ?_
  exact AH.Fin.nil2 ⟨rfl, rfl, rfl⟩

/-! Comparing. -/
def cmpI (a b : Int) : Int := if a < b then -1 else if b < a then 1 else 0
theorem cmpI_spec (x y : Int) : FDet Tryd.prog 81 [.c (.int .i64 x), .c (.int .i64 y)] [] 0 (.c (.int .i64 (cmpI x y))) [] 0 := by
  refine FSpec.body2 tok true Tryd.func81 ?_
  refine Wk.on ?_
  refine CallA.ro2 [] (.c (.bool false)) (isNaN_spec x) ?_
  refine Wk.on ?_
  refine CallA.ro2 [] (.c (.bool false)) (isNaN_spec y) ?_
  refine Wk.on ?_
  refine ⟨fun hc => ?_, fun hc => ?_⟩ <;> (try simp only [decide_eq_true_eq, decide_eq_false_iff_not, Decidable.not_not, Bool.not_true, Bool.not_false, ne_eq, cond_true, cond_false, Bool.not_eq_true', Bool.not_eq_false'] at hc)
  · refine Wk.on ?_
    exact AH.Fin.nil [] ⟨by simp only [cmpI, if_pos hc]; rfl, rfl, rfl⟩ trivial trivial trivial rfl (by simp [GB])
  · refine Wk.on ?_
    have hc1 := hc
    refine ⟨fun hc => ?_, fun hc => ?_⟩ <;> (try simp only [decide_eq_true_eq, decide_eq_false_iff_not, Decidable.not_not, Bool.not_true, Bool.not_false, ne_eq, cond_true, cond_false, Bool.not_eq_true', Bool.not_eq_false'] at hc)
    · refine Wk.on ?_
      exact AH.Fin.nil [] ⟨by simp only [cmpI, if_neg hc1, if_pos hc]; rfl, rfl, rfl⟩ trivial trivial trivial rfl (by simp [GB])
    · refine Wk.on ?_
      exact AH.Fin.nil [] ⟨by simp only [cmpI, if_neg hc1, if_neg hc]; rfl, rfl, rfl⟩ trivial trivial trivial rfl (by simp [GB])
/-- Two pairs of numbers compared. -/
def cmp2 (a b c d : Int) : Int := if cmpI a c = 0 then cmpI b d else cmpI a c
def cAt (a b : Int) (i : Nat) : Int := if i = 0 then a else b
theorem cmp2_spec (a b c d : Int) : FDet Tryd.prog 64 [.c (.rs 0 0 2), .c (.rs 1 0 2)] [(0, .ro (ints [a, b])), (1, .ro (ints [c, d]))] 2 (.c (.int .i64 (cmp2 a b c d))) [] 2 := by
  refine FSpec.body2 tok true Tryd.func64 ?_
  refine Wk.on ?_
  refine Tr.loop (md := true) (X := Nat) (st := fun i => ⟨[(0, .c (.rs 0 0 2)), (1, .c (.rs 1 0 2)), (9, .c (.rs 0 0 2)), (10, .c (.int .i64 2)), (11, .c (.int .i64 i))], [(0, .ro (ints [a, b])), (1, .ro (ints [c, d]))], 2, 36, 2⟩) (inv := fun i => i = 0 ∨ (i = 1 ∧ cmpI a c = 0) ∨ (i = 2 ∧ cmpI a c = 0 ∧ cmpI b d = 0)) (μ := fun i => 2 - i) (x0 := 0) (l := []) tok (.inl rfl) ?_ ?_
  · exact Sub.nil ⟨rfl, rfl, (by simp [tab64_LL, pC, castL, lC]), rfl, (by simp [tupA, hpLt, tmLt, AV.lt, AE.lt, AC.lt, LL_cons, LL_nil, idOk, ABlk.lt, ints_LL, GB, tab64_LL, pC, castL, lC]), (by simp [tupA, hpLt, tmLt, AV.lt, AE.lt, AC.lt, LL_cons, LL_nil, idOk, ABlk.lt, ints_LL, GB, tab64_LL, pC, castL, lC])⟩ (by (repeat (first | exact trivial | refine ⟨trivial, ?_⟩ | refine ⟨rfl, ?_⟩))) (by (repeat (first | exact trivial | refine ⟨trivial, ?_⟩ | refine ⟨rfl, ?_⟩)))
  · rintro i (rfl | ⟨rfl, h1⟩ | ⟨rfl, h1, h2⟩)
    · refine Wk.on ?_
      refine CallA.ro2 [] (.c (.int .i64 (cmpI a c))) (cmpI_spec _ _) ?_
      refine Wk.on ?_
      by_cases hc : cmpI a c = 0
      · rw [decide_eq_false (fun h => h hc)]
        refine Wk.on ?_
        refine Again.mk (1) (Sub.nil ⟨rfl, rfl, (by simp [tab64_LL, pC, castL, lC]), rfl, (by simp [tupA, hpLt, tmLt, AV.lt, AE.lt, AC.lt, LL_cons, LL_nil, idOk, ABlk.lt, ints_LL, GB, tab64_LL, pC, castL, lC]), (by simp [tupA, hpLt, tmLt, AV.lt, AE.lt, AC.lt, LL_cons, LL_nil, idOk, ABlk.lt, ints_LL, GB, tab64_LL, pC, castL, lC])⟩ (by (repeat (first | exact trivial | refine ⟨trivial, ?_⟩ | refine ⟨rfl, ?_⟩))) (by (repeat (first | exact trivial | refine ⟨trivial, ?_⟩ | refine ⟨rfl, ?_⟩)))) (.inr (.inl ⟨rfl, hc⟩)) (by omega)
      · rw [decide_eq_true hc]
        refine Wk.on ?_
        exact AH.Fin.nil2 ⟨by rw [cmp2, if_neg hc]; rfl, rfl, rfl⟩
    · refine Wk.on ?_
      refine CallA.ro2 [] (.c (.int .i64 (cmpI b d))) (cmpI_spec _ _) ?_
      refine Wk.on ?_
      by_cases hc : cmpI b d = 0
      · rw [decide_eq_false (fun h => h hc)]
        refine Wk.on ?_
        refine Again.mk (2) (Sub.nil ⟨rfl, rfl, (by simp [tab64_LL, pC, castL, lC]), rfl, (by simp [tupA, hpLt, tmLt, AV.lt, AE.lt, AC.lt, LL_cons, LL_nil, idOk, ABlk.lt, ints_LL, GB, tab64_LL, pC, castL, lC]), (by simp [tupA, hpLt, tmLt, AV.lt, AE.lt, AC.lt, LL_cons, LL_nil, idOk, ABlk.lt, ints_LL, GB, tab64_LL, pC, castL, lC])⟩ (by (repeat (first | exact trivial | refine ⟨trivial, ?_⟩ | refine ⟨rfl, ?_⟩))) (by (repeat (first | exact trivial | refine ⟨trivial, ?_⟩ | refine ⟨rfl, ?_⟩)))) (.inr (.inr ⟨rfl, h1, hc⟩)) (by omega)
      · rw [decide_eq_true hc]
        refine Wk.on ?_
        exact AH.Fin.nil2 ⟨by rw [cmp2, if_pos h1]; rfl, rfl, rfl⟩
    · refine Wk.on ?_
      exact AH.Fin.nil2 ⟨by rw [cmp2, if_pos h1, h2]; rfl, rfl, rfl⟩
end Go.Proofs.YtimknijehaamlaaDoor

/-
  Contracts: a graph's lamps are laid out.
-/
namespace Go.Proofs.YtimknijehaamlaaDoor
open Go Go.AH Go.Lin
set_option maxRecDepth 100000
set_option maxHeartbeats 1000000

/-- A graph: how many lamps, its pairs in their order. -/
structure Gr (n : Nat) (ws : List (Nat × Nat)) : Prop where
  n1 : 1 ≤ n
  n16 : n ≤ 16
  ok : ∀ i, i < ws.length → (ws.getD i (0, 0)).1 < (ws.getD i (0, 0)).2 ∧ (ws.getD i (0, 0)).2 < n
  inc : ∀ i, i + 1 < ws.length → 16 * (ws.getD i (0, 0)).1 + (ws.getD i (0, 0)).2 < 16 * (ws.getD (i + 1) (0, 0)).1 + (ws.getD (i + 1) (0, 0)).2
def orAt (rows : List Nat) (i v : Nat) : List Nat := rows.set i (rows.getD i 0 ||| v)
def nearF (rows : List Nat) (p : Nat × Nat) : List Nat := orAt (orAt rows p.1 (2 ^ p.2)) p.2 (2 ^ p.1)
def ownF (rows : List Nat) (i : Nat) : List Nat := orAt rows i (2 ^ i)
def zero16 : List Nat := List.replicate 16 0
def nearR (ws : List (Nat × Nat)) : List Nat := ws.foldl nearF zero16
def ownR (n : Nat) (rows : List Nat) : List Nat := (List.range n).foldl ownF rows
def openR (n : Nat) (ws : List (Nat × Nat)) (own : Bool) : List Nat := if own then ownR n (nearR ws) else nearR ws
theorem orAt_lm {n : Nat} {rows : List Nat} (h : Lm n rows) {i v : Nat} (hv : v < 2 ^ n) : Lm n (orAt rows i v) := by
  refine ⟨h.n16, by rw [orAt, List.length_set, h.len], fun r hr => ?_⟩
  rcases List.mem_or_eq_of_mem_set hr with hr | rfl
  · exact h.lt r hr
  · exact Nat.or_lt_two_pow (h.row i) hv
theorem zero_lm {n : Nat} (hn : n ≤ 16) : Lm n zero16 := ⟨hn, rfl, fun r hr => by
  rw [List.eq_of_mem_replicate hr]; exact Nat.two_pow_pos n⟩
theorem near_lm {n : Nat} {rows : List Nat} (h : Lm n rows) {p : Nat × Nat} (h1 : p.1 < n) (h2 : p.2 < n) : Lm n (nearF rows p) :=
  orAt_lm (orAt_lm h (Nat.pow_lt_pow_right (by omega) h2)) (Nat.pow_lt_pow_right (by omega) h1)
theorem take_succ {α : Type} (L : List α) (d : α) {k : Nat} (hk : k < L.length) : L.take (k + 1) = L.take k ++ [L.getD k d] := by
  rw [List.take_add_one, List.getElem?_eq_getElem hk, List.getD_eq_getElem?_getD, List.getElem?_eq_getElem hk]; rfl
theorem nearR_lm {n : Nat} {ws : List (Nat × Nat)} (h : Gr n ws) (k : Nat) (hk : k ≤ ws.length) : Lm n (nearR (ws.take k)) := by
  induction k with
  | zero => exact zero_lm h.n16
  | succ k ih =>
    have := h.ok k (by omega)
    rw [take_succ ws (0, 0) (by omega), nearR, List.foldl_append]
    exact near_lm (ih (by omega)) (by omega) this.2
theorem ownR_lm {n : Nat} {rows : List Nat} (h : Lm n rows) (k : Nat) (hk : k ≤ n) : Lm n (ownR k rows) := by
  induction k with
  | zero => exact h
  | succ k ih =>
    rw [ownR, List.range_succ, List.foldl_append]
    exact orAt_lm (ih (by omega)) (Nat.pow_lt_pow_right (by omega) hk)
theorem openR_lm {n : Nat} {ws : List (Nat × Nat)} (h : Gr n ws) (own : Bool) : Lm n (openR n ws own) := by
  have h1 := nearR_lm h ws.length (by omega)
  rw [List.take_of_length_le (by omega)] at h1
  cases own
  · exact h1
  · exact ownR_lm h1 n (by omega)
theorem openP_lm {n : Nat} {ws : List (Nat × Nat)} (h : Gr n ws) (own : Bool) (i : Nat) (hi : i ≤ n) : Lm n (openR i ws own) := by
  have h1 := nearR_lm h ws.length (by omega)
  rw [List.take_of_length_le (by omega)] at h1
  cases own
  · exact h1
  · exact ownR_lm h1 i hi
theorem contains_ok {n : Nat} (hn : n ≤ 16) (S : List Int) (hS : S.length ≤ 1000) (hb : S.any (oorB n) = false) : FDet Tryd.prog 65 [.c (.rs 0 0 S.length), .c (.fn 66 [] [1])] [(0, .ro (ints S)), (1, .ro [.int .i64 n])] 2 (.c (.bool false)) [] 2 := hb ▸ contains_spec hn S hS
theorem lC_set {n : Nat} {rows : List Nat} (i v : Nat) : (lC n rows).set (i + 1) (.int .i64 (v : Int)) = lC n (rows.set i v) := by
  rw [lC, lC, List.set_cons_succ, castL, castL, List.map_set]
  simp only [ints, List.map_set]
  rfl
theorem cmp22_spec (a b c d : Int) : FDet Tryd.prog 64 [.c (.sl 0 0 2 (some 2)), .c (.sl 1 0 2 (some 2))] [(0, .ro (ints [a, b])), (1, .ro (ints [c, d]))] 2 (.c (.int .i64 (cmp2 a b c d))) [] 2 :=
  FDet.wk (cmp2_spec a b c d) ⟨⟨rfl, rfl, rfl⟩, ⟨rfl, rfl, rfl⟩, trivial⟩ ⟨.inl rfl, .inl rfl, trivial⟩
/-- The pair ahead of a pair. -/
def prevP (ws : List (Nat × Nat)) (i : Nat) : Int × Int := if i = 0 then (-1, -1) else (((ws.getD (i - 1) (0, 0)).1 : Nat), ((ws.getD (i - 1) (0, 0)).2 : Nat))
theorem cmp_prev {n : Nat} {ws : List (Nat × Nat)} (h : Gr n ws) {i : Nat} (hi : i < ws.length) : cmp2 ((ws.getD i (0, 0)).1 : Nat) ((ws.getD i (0, 0)).2 : Nat) (prevP ws i).1 (prevP ws i).2 = 1 := by
  have h1 := h.ok i hi
  have hn := h.n16
  unfold prevP
  by_cases e : i = 0
  · rw [if_pos e]
    dsimp only
    unfold cmp2 cmpI
    rw [if_neg (by split <;> (try split) <;> omega)]
    split <;> (try split) <;> omega
  · obtain ⟨k, rfl⟩ : ∃ k, i = k + 1 := ⟨i - 1, by omega⟩
    have h2 := h.inc k hi
    have h3 := h.ok k (by omega)
    rw [if_neg e, Nat.add_sub_cancel]
    dsimp only
    generalize (ws.getD (k + 1) (0, 0)).1 = a at *
    generalize (ws.getD (k + 1) (0, 0)).2 = b at *
    generalize (ws.getD k (0, 0)).1 = c at *
    generalize (ws.getD k (0, 0)).2 = d at *
    unfold cmp2
    by_cases e2 : a = c
    · subst e2
      rw [if_pos (by unfold cmpI; split <;> (try split) <;> omega)]
      unfold cmpI
      split <;> (try split) <;> omega
    · have : cmpI a c = 1 := by unfold cmpI; split <;> (try split) <;> omega
      rw [this]; rfl

theorem open_rr {n : Nat} {ws : List (Nat × Nat)} (h : Gr n ws) (own : Bool) (hw : ws.length ≤ 1000) (S : List Int) (hS : S.length ≤ 1000) (hb : S.any (oorB n) = false) : FDet Tryd.prog 50 [.c (.int .i64 n), .c (.rs 0 0 ws.length), .c (.bool own), .c (.rs 1 0 S.length)] [(0, .ro (ints (prs ws))), (1, .ro (ints S))] 2 (.t [.c (.ptr 2 0), .c (.int .i64 0)]) [(2, .own (lC n (openR n ws own)))] 3 := by
  have hn1 := h.n1
  have hn := h.n16
  have hlen : (ints (prs ws)).length = ws.length * 2 := by rw [ints_len, prs_len]
  refine FSpec.body2 tok true Tryd.func50 ?_
  refine Wk.on ?_
  rw [decide_eq_false (show ¬ ((n : Nat) : Int) < 1 by omega)]
  refine Wk.on ?_
  rw [decide_eq_false (show ¬ 16 < ((n : Nat) : Int) by omega)]
  refine Wk.on ?_
  refine Tr.loop (md := true) (X := Nat) (st := fun i => ⟨[(2, .c (.bool own)), (3, .c (.rs 1 0 S.length)), (4, .c (.ptr 2 0)), (10, .c (.ptr 3 0)), (11, .c (.ptr 4 0)), (25, .c (.rs 0 0 ws.length)), (26, .c (.int .i64 ws.length)), (27, .c (.int .i64 i))], [(2, .own [.int .i64 n]), (3, .own (lC n (nearR (ws.take i)))), (4, .own [.int .i64 (prevP ws i).1, .int .i64 (prevP ws i).2]), (0, .ro (ints (prs ws))), (1, .ro (ints S))], 5, 108, 2⟩) (inv := fun i => i ≤ ws.length) (μ := fun i => ws.length - i) (x0 := 0) (l := []) tok (by omega) ?_ ?_
  · exact Sub.nil ⟨rfl, rfl, (by simp [tab64_LL, pC, castL, lC]), rfl, (by simp [tupA, hpLt, tmLt, AV.lt, AE.lt, AC.lt, LL_cons, LL_nil, idOk, ABlk.lt, ints_LL, GB, tab64_LL, pC, castL, lC]), (by simp [tupA, hpLt, tmLt, AV.lt, AE.lt, AC.lt, LL_cons, LL_nil, idOk, ABlk.lt, ints_LL, GB, tab64_LL, pC, castL, lC])⟩ (by (repeat (first | exact trivial | refine ⟨trivial, ?_⟩ | refine ⟨rfl, ?_⟩))) (by (repeat (first | exact trivial | refine ⟨trivial, ?_⟩ | refine ⟨rfl, ?_⟩)))
  · intro i hi
    by_cases hil : i < ws.length
    · obtain ⟨rows, hrows⟩ : ∃ rows, rows = nearR (ws.take i) := ⟨_, rfl⟩
      have hL : Lm n rows := by rw [hrows]; exact nearR_lm h i hi
      have hnx : nearR (ws.take (i + 1)) = nearF rows (ws.getD i (0, 0)) := by rw [take_succ ws (0, 0) hil, hrows, nearR, List.foldl_append]; rfl
      have hcmp := cmp_prev h hil
      have hok := h.ok i hil
      obtain ⟨pa, hpa⟩ : ∃ pa, pa = (prevP ws i).1 := ⟨_, rfl⟩
      obtain ⟨pb, hpb⟩ : ∃ pb, pb = (prevP ws i).2 := ⟨_, rfl⟩
      have hprev : prevP ws (i + 1) = ((((ws.getD i (0, 0)).1 : Nat) : Int), (((ws.getD i (0, 0)).2 : Nat) : Int)) := by rw [prevP, if_neg (by omega), Nat.add_sub_cancel]
      obtain ⟨a, ha⟩ : ∃ a, a = (ws.getD i (0, 0)).1 := ⟨_, rfl⟩
      obtain ⟨b, hb2⟩ : ∃ b, b = (ws.getD i (0, 0)).2 := ⟨_, rfl⟩
      have hpc : pC (ws.getD i (0, 0)) = [.int .i64 a, .int .i64 b] := by rw [pC, ha, hb2]
      rw [← hrows, ← hpa, ← hpb]
      rw [← hpa, ← hpb, ← ha, ← hb2] at hcmp
      rw [← ha, ← hb2] at hok hprev
      obtain ⟨hab, hbn⟩ := hok
      have hl17 : (lC n rows).length = 17 := by rw [lC, List.length_cons, ints_len, castL_len, hL.len]
      obtain ⟨qa, hqa⟩ : ∃ q, q = 2 ^ a := ⟨_, rfl⟩
      obtain ⟨qb, hqb⟩ : ∃ q, q = 2 ^ b := ⟨_, rfl⟩
      have hqa2 : qa < 65536 := by rw [hqa]; exact Nat.pow_lt_pow_right (n := 16) (by omega) (by omega)
      have hqb2 : qb < 65536 := by rw [hqb]; exact Nat.pow_lt_pow_right (n := 16) (by omega) (by omega)
      have hsa : (1 : Int) * 2 ^ (Int.toNat (a : Int)) = (qa : Int) := by simp [hqa]
      have hsb : (1 : Int) * 2 ^ (Int.toNat (b : Int)) = (qb : Int) := by simp [hqb]
      have hwa : IntKind.u64.wrap (a : Int) = a := wrapU (by omega)
      have hwb : IntKind.u64.wrap (b : Int) = b := wrapU (by omega)
      have hp16 : 2 ^ n ≤ 65536 := hL.pow
      obtain ⟨ea, hea⟩ : ∃ e, e = rows.getD a 0 := ⟨_, rfl⟩
      have hea2 : ea < 65536 := by have := hL.row a; omega
      have hL1 : Lm n (orAt rows a qb) := orAt_lm hL (by rw [hqb]; exact Nat.pow_lt_pow_right (by omega) hbn)
      obtain ⟨rows1, hrows1⟩ : ∃ r, r = orAt rows a qb := ⟨_, rfl⟩
      rw [← hrows1] at hL1
      obtain ⟨eb, heb⟩ : ∃ e, e = rows1.getD b 0 := ⟨_, rfl⟩
      have heb2 : eb < 65536 := by have := hL1.row b; omega
      have hl171 : (lC n rows1).length = 17 := by rw [lC, List.length_cons, ints_len, castL_len, hL1.len]
      refine Wk.on ?_
      rw [decide_eq_true (show ((i : Nat) : Int) < ((ws.length : Nat) : Int) by omega)]
      refine Wk.on ?_
      refine ⟨⟨by rw [hlen, Int.toNat_natCast]; show 0 + i * 2 + 2 ≤ _; omega, rfl⟩, ?_⟩
      rw [Int.toNat_natCast, Nat.zero_add]
      refine Wk.on ?_
      rw [prs_rdn, hpc]
      refine Wk.on ?_
      refine Tr.draw (md := true) [⟨[], [32], [], [], []⟩, ⟨[], [31], [0], [], []⟩, ⟨[0, 1], [], [], [], []⟩, ⟨[0, 1, 2], [], [], [], []⟩, ⟨[0, 1, 2, 3], [], [], [], []⟩, ⟨[0, 1, 2, 3, 4], [], [], [], []⟩, ⟨[0, 1, 2, 3, 4, 5], [], [], [], []⟩, ⟨[0, 1, 2, 3, 4, 5, 6], [], [], [], []⟩, ⟨[0, 1, 2, 3, 4, 5, 6, 7], [], [], [], []⟩, ⟨[0, 1, 2, 3, 4, 5, 6, 7, 8], [], [], [], []⟩, ⟨[0, 1, 2, 3, 4, 5, 6, 7, 8, 9], [43, 44], [], [], []⟩, ⟨[0, 1, 2, 3, 4, 5, 6, 7, 8, 9, 10], [43, 44], [], [], []⟩, ⟨[0, 1, 2, 3, 4, 5, 6, 7, 8, 9], [41, 42], [10, 11], [], []⟩, ⟨[0, 1, 2, 3, 4, 5, 6, 7, 8, 9, 12], [41, 42], [10, 11], [], []⟩, ⟨[0, 1, 2, 3, 4, 5, 6, 7, 8, 9, 10, 11, 12, 13], [], [], [], []⟩, ⟨[0, 1, 2, 3, 4, 5, 6, 7, 8, 9, 10, 11, 12, 13, 14], [], [], [], []⟩, ⟨[0, 1, 2, 3, 4, 5, 6, 7, 8, 9, 10, 11, 12, 13, 14, 15], [], [], [], []⟩, ⟨[0, 1, 2, 3, 4, 5, 6, 7, 8, 9, 10, 11, 12, 13, 14, 15, 16], [50], [], [], []⟩, ⟨[0, 1, 2, 3, 4, 5, 6, 7, 8, 9, 10, 11, 12, 13, 14, 15, 16, 17], [50], [], [], []⟩, ⟨[0, 1, 2, 3, 4, 5, 6, 7, 8, 9, 10, 11, 12, 13, 14, 15, 16], [48, 49], [17, 18], [], []⟩] tok (by kernel_rfl) (by kernel_rfl) ?_
      refine Wk.on ?_
      refine CallQ.ro2 [5, 4] (.c (.int .i64 (cmp2 a b pa pb))) (cmp22_spec a b pa pb) ?_
      rw [hcmp]
      refine Wk.on ?_
      rw [decide_eq_false (show ¬ ((a : Nat) : Int) < 0 by omega)]
      refine Wk.on ?_
      rw [decide_eq_false (show ¬ ((b : Nat) : Int) ≤ ((a : Nat) : Int) by omega)]
      refine Wk.on ?_
      rw [decide_eq_false (show ¬ ((n : Nat) : Int) ≤ ((b : Nat) : Int) by omega)]
      refine Wk.on ?_
      have hga : (lC n rows).getD (0 + 1 + Int.toNat ((a : Nat) : Int) * 1) (.int .i64 0) = .int .i64 (ea : Int) := by rw [hea, show 0 + 1 + Int.toNat ((a : Nat) : Int) * 1 = a + 1 by rw [Int.toNat_natCast]; omega]; exact lC_getD a
      refine Tr.draw (md := true) [⟨[], [54, 55, 60, 61, 62, 63], [], [], []⟩, ⟨[], [53, 56, 57, 60, 61, 62, 63, 65, 66], [0], [], []⟩, ⟨[1], [53, 56, 57, 60, 61, 62, 63, 65, 66], [0], [], []⟩, ⟨[0], [54, 55, 60, 61, 62, 63, 65, 66], [1, 2], [], []⟩, ⟨[0, 3], [54, 55, 60, 61, 62, 63, 65, 66], [1, 2], [], []⟩, ⟨[0, 1, 2, 3, 4], [60, 61, 62, 63, 65, 66], [], [], []⟩, ⟨[0, 1, 2, 3, 4, 5], [60, 61, 62, 63, 65, 66], [], [], []⟩, ⟨[], [53, 54, 55, 56, 57, 58, 59, 65, 66], [0, 1, 2, 3, 4, 5, 6], [], []⟩, ⟨[7], [53, 54, 55, 56, 57, 58, 59, 65, 66], [0, 1, 2, 3, 4, 5, 6], [], []⟩, ⟨[7, 8], [53, 54, 55, 56, 57, 58, 59, 65, 66], [0, 1, 2, 3, 4, 5, 6], [], []⟩, ⟨[7, 8, 9], [53, 54, 55, 56, 57, 58, 59, 65, 66], [0, 1, 2, 3, 4, 5, 6], [], []⟩, ⟨[0, 1, 2, 3, 4, 5, 6, 7, 8, 9, 10], [65, 66], [], [], []⟩, ⟨[0], [54, 55, 56, 57, 58, 59, 60, 61, 62, 63, 64], [1, 2, 3, 4, 5, 6, 7, 8, 9, 10, 11], [], []⟩, ⟨[0, 12], [54, 55, 56, 57, 58, 59, 60, 61, 62, 63, 64], [1, 2, 3, 4, 5, 6, 7, 8, 9, 10, 11], [], []⟩] tok (by kernel_rfl) (by kernel_rfl) ?_
      refine Wk.on ?_
      rw [hga]
      refine Wk.on ?_
      rw [hwb]
      refine Wk.on ?_
      rw [hsb]
      refine Wk.on ?_
      have hst : (lC n rows).set (0 + 1 + Int.toNat ((a : Nat) : Int) * 1) (.int .i64 ((Int.toNat ((ea : Nat) : Int) ||| Int.toNat ((qb : Nat) : Int) : Nat) : Int)) = lC n rows1 := by
        rw [show 0 + 1 + Int.toNat ((a : Nat) : Int) * 1 = a + 1 by rw [Int.toNat_natCast]; omega, Int.toNat_natCast, Int.toNat_natCast, lC_set, hrows1, orAt, hea]
      rw [hst]
      have hgb : (lC n rows1).getD (0 + 1 + Int.toNat ((b : Nat) : Int) * 1) (.int .i64 0) = .int .i64 (eb : Int) := by rw [heb, show 0 + 1 + Int.toNat ((b : Nat) : Int) * 1 = b + 1 by rw [Int.toNat_natCast]; omega]; exact lC_getD b
      refine Tr.draw (md := true) [⟨[], [69, 70, 75, 76, 77, 78], [], [], []⟩, ⟨[], [68, 71, 72, 75, 76, 77, 78, 80, 81], [0], [], []⟩, ⟨[1], [68, 71, 72, 75, 76, 77, 78, 80, 81], [0], [], []⟩, ⟨[0], [69, 70, 75, 76, 77, 78, 80, 81], [1, 2], [], []⟩, ⟨[0, 3], [69, 70, 75, 76, 77, 78, 80, 81], [1, 2], [], []⟩, ⟨[0, 1, 2, 3, 4], [75, 76, 77, 78, 80, 81], [], [], []⟩, ⟨[0, 1, 2, 3, 4, 5], [75, 76, 77, 78, 80, 81], [], [], []⟩, ⟨[], [68, 69, 70, 71, 72, 73, 74, 80, 81], [0, 1, 2, 3, 4, 5, 6], [], []⟩, ⟨[7], [68, 69, 70, 71, 72, 73, 74, 80, 81], [0, 1, 2, 3, 4, 5, 6], [], []⟩, ⟨[7, 8], [68, 69, 70, 71, 72, 73, 74, 80, 81], [0, 1, 2, 3, 4, 5, 6], [], []⟩, ⟨[7, 8, 9], [68, 69, 70, 71, 72, 73, 74, 80, 81], [0, 1, 2, 3, 4, 5, 6], [], []⟩, ⟨[0, 1, 2, 3, 4, 5, 6, 7, 8, 9, 10], [80, 81], [], [], []⟩, ⟨[0], [69, 70, 71, 72, 73, 74, 75, 76, 77, 78, 79], [1, 2, 3, 4, 5, 6, 7, 8, 9, 10, 11], [], []⟩, ⟨[0, 12], [69, 70, 71, 72, 73, 74, 75, 76, 77, 78, 79], [1, 2, 3, 4, 5, 6, 7, 8, 9, 10, 11], [], []⟩] tok (by kernel_rfl) (by kernel_rfl) ?_
      refine Wk.on ?_
      rw [hgb]
      refine Wk.on ?_
      rw [hwa]
      refine Wk.on ?_
      rw [hsa]
      refine Wk.on ?_
      have hst2 : (lC n rows1).set (0 + 1 + Int.toNat ((b : Nat) : Int) * 1) (.int .i64 ((Int.toNat ((eb : Nat) : Int) ||| Int.toNat ((qa : Nat) : Int) : Nat) : Int)) = lC n (nearR (ws.take (i + 1))) := by
        rw [show 0 + 1 + Int.toNat ((b : Nat) : Int) * 1 = b + 1 by rw [Int.toNat_natCast]; omega, Int.toNat_natCast, Int.toNat_natCast, lC_set, hnx, nearF, ← ha, ← hb2, ← hqa, ← hqb, ← hrows1, orAt, heb]
      rw [hst2]
      refine Wk.on ?_
      refine Again.mk (i + 1) (Sub.nil ⟨rfl, rfl, (by simp [tab64_LL, pC, castL, lC]), rfl, (by simp [tupA, hpLt, tmLt, AV.lt, AE.lt, AC.lt, LL_cons, LL_nil, idOk, ABlk.lt, ints_LL, GB, tab64_LL, pC, castL, lC]), (by simp [tupA, hpLt, tmLt, AV.lt, AE.lt, AC.lt, LL_cons, LL_nil, idOk, ABlk.lt, ints_LL, GB, tab64_LL, pC, castL, lC])⟩ (by (repeat (first | exact trivial | refine ⟨trivial, ?_⟩ | refine ⟨rfl, ?_⟩))) ⟨rfl, rfl, by show ABlk.own [.int .i64 a, .int .i64 b] = ABlk.own _; rw [hprev], rfl, rfl, trivial⟩) (by omega) (by omega)
    · obtain rfl : i = ws.length := by omega
      rw [List.take_of_length_le (Nat.le_refl _)]
      refine Wk.on ?_
      rw [decide_eq_false (show ¬ ((ws.length : Nat) : Int) < ((ws.length : Nat) : Int) by omega)]
      refine Wk.on ?_
      intro _
      refine Wk.on ?_
      refine Tr.loop (md := true) (X := Nat) (st := fun i => ⟨[(2, .c (.bool own)), (3, .c (.rs 1 0 S.length)), (4, .c (.ptr 2 0)), (10, .c (.ptr 3 0)), (85, .c (.int .i64 n)), (86, .c (.int .i64 i))], [(2, .own [.int .i64 n]), (3, .own (lC n (openR i ws own))), (0, .ro (ints (prs ws))), (1, .ro (ints S))], 5, 108, 2⟩) (inv := fun i => i ≤ n) (μ := fun i => n - i) (x0 := 0) (l := []) tok (by omega) ?_ ?_
      · exact Sub.nil ⟨rfl, rfl, (by simp [tab64_LL, pC, castL, lC]), rfl, (by simp [tupA, hpLt, tmLt, AV.lt, AE.lt, AC.lt, LL_cons, LL_nil, idOk, ABlk.lt, ints_LL, GB, tab64_LL, pC, castL, lC]), (by simp [tupA, hpLt, tmLt, AV.lt, AE.lt, AC.lt, LL_cons, LL_nil, idOk, ABlk.lt, ints_LL, GB, tab64_LL, pC, castL, lC])⟩ (by (repeat (first | exact trivial | refine ⟨trivial, ?_⟩ | refine ⟨rfl, ?_⟩))) ⟨rfl, by cases own <;> rfl, rfl, rfl, trivial⟩
      intro i hi
      obtain ⟨rows, hrows⟩ : ∃ rows, rows = openR i ws own := ⟨_, rfl⟩
      have hL : Lm n rows := by rw [hrows]; exact openP_lm h own i hi
      have hl17 : (lC n rows).length = 17 := by rw [lC, List.length_cons, ints_len, castL_len, hL.len]
      rw [← hrows]
      by_cases hil : i < n
      · obtain ⟨q, hq⟩ : ∃ q, q = 2 ^ i := ⟨_, rfl⟩
        have hq2 : q < 65536 := by rw [hq]; exact Nat.pow_lt_pow_right (n := 16) (by omega) (by omega)
        have hsh : (1 : Int) * 2 ^ (Int.toNat (i : Int)) = (q : Int) := by simp [hq]
        have hwi : IntKind.u64.wrap (i : Int) = i := wrapU (by omega)
        have hp16 : 2 ^ n ≤ 65536 := hL.pow
        obtain ⟨e, he⟩ : ∃ e, e = rows.getD i 0 := ⟨_, rfl⟩
        have he2 : e < 65536 := by have := hL.row i; omega
        have hge : (lC n rows).getD (0 + 1 + Int.toNat ((i : Nat) : Int) * 1) (.int .i64 0) = .int .i64 (e : Int) := by rw [he, show 0 + 1 + Int.toNat ((i : Nat) : Int) * 1 = i + 1 by rw [Int.toNat_natCast]; omega]; exact lC_getD i
        refine Wk.on ?_
        rw [decide_eq_true (show ((i : Nat) : Int) < ((n : Nat) : Int) by omega)]
        refine Wk.on ?_
        cases own
        · refine Wk.on ?_
          refine Again.mk (i + 1) (Sub.nil ⟨rfl, rfl, (by simp [tab64_LL, pC, castL, lC]), rfl, (by simp [tupA, hpLt, tmLt, AV.lt, AE.lt, AC.lt, LL_cons, LL_nil, idOk, ABlk.lt, ints_LL, GB, tab64_LL, pC, castL, lC]), (by simp [tupA, hpLt, tmLt, AV.lt, AE.lt, AC.lt, LL_cons, LL_nil, idOk, ABlk.lt, ints_LL, GB, tab64_LL, pC, castL, lC])⟩ (by (repeat (first | exact trivial | refine ⟨trivial, ?_⟩ | refine ⟨rfl, ?_⟩))) ⟨rfl, congrArg (fun r => ABlk.own (lC n r)) hrows, rfl, rfl, trivial⟩) (by omega) (by omega)
        · refine Wk.on ?_
          refine Tr.draw (md := true) [⟨[], [91, 96, 97, 98], [], [], []⟩, ⟨[], [90, 92, 93, 96, 97, 98, 100, 101], [0], [], []⟩, ⟨[0], [91, 96, 97, 98, 100, 101], [1], [], []⟩, ⟨[0, 2], [91, 96, 97, 98, 100, 101], [1], [], []⟩, ⟨[0, 1, 2, 3], [96, 97, 98, 100, 101], [], [], []⟩, ⟨[0, 1, 2, 3, 4], [96, 97, 98, 100, 101], [], [], []⟩, ⟨[], [90, 91, 92, 93, 94, 95, 100, 101], [0, 1, 2, 3, 4, 5], [], []⟩, ⟨[6], [90, 91, 92, 93, 94, 95, 100, 101], [0, 1, 2, 3, 4, 5], [], []⟩, ⟨[6, 7], [90, 91, 92, 93, 94, 95, 100, 101], [0, 1, 2, 3, 4, 5], [], []⟩, ⟨[0, 1, 2, 3, 4, 5, 6, 7, 8], [100, 101], [], [], []⟩, ⟨[0], [91, 92, 93, 94, 95, 96, 97, 98, 99], [1, 2, 3, 4, 5, 6, 7, 8, 9], [], []⟩, ⟨[0, 10], [91, 92, 93, 94, 95, 96, 97, 98, 99], [1, 2, 3, 4, 5, 6, 7, 8, 9], [], []⟩] tok (by kernel_rfl) (by kernel_rfl) ?_
          refine Wk.on ?_
          rw [hge]
          refine Wk.on ?_
          rw [hwi]
          refine Wk.on ?_
          rw [hsh]
          refine Wk.on ?_
          have hst : (lC n rows).set (0 + 1 + Int.toNat ((i : Nat) : Int) * 1) (.int .i64 ((Int.toNat ((e : Nat) : Int) ||| Int.toNat ((q : Nat) : Int) : Nat) : Int)) = lC n (openR (i + 1) ws true) := by
            rw [show 0 + 1 + Int.toNat ((i : Nat) : Int) * 1 = i + 1 by rw [Int.toNat_natCast]; omega, Int.toNat_natCast, Int.toNat_natCast, lC_set, openR, if_pos rfl, ownR, List.range_succ, List.foldl_append, List.foldl_cons, List.foldl_nil, ownF, orAt, he, hq, hrows, openR, if_pos rfl, ownR]
          rw [hst]
          refine Wk.on ?_
          refine Again.mk (i + 1) (Sub.nil ⟨rfl, rfl, (by simp [tab64_LL, pC, castL, lC]), rfl, (by simp [tupA, hpLt, tmLt, AV.lt, AE.lt, AC.lt, LL_cons, LL_nil, idOk, ABlk.lt, ints_LL, GB, tab64_LL, pC, castL, lC]), (by simp [tupA, hpLt, tmLt, AV.lt, AE.lt, AC.lt, LL_cons, LL_nil, idOk, ABlk.lt, ints_LL, GB, tab64_LL, pC, castL, lC])⟩ (by (repeat (first | exact trivial | refine ⟨trivial, ?_⟩ | refine ⟨rfl, ?_⟩))) ⟨rfl, rfl, rfl, rfl, trivial⟩) (by omega) (by omega)
      · obtain rfl : i = n := by omega
        refine Wk.on ?_
        rw [decide_eq_false (show ¬ ((i : Nat) : Int) < ((i : Nat) : Int) by omega)]
        refine Wk.on ?_
        intro _
        refine Wk.on ?_
        refine CallA.ro2 [1, 2] (.c (.bool false)) (contains_ok hn S hS hb) ?_
        refine Wk.on ?_
        exact AH.Fin.new [3] _ _ ⟨rfl, rfl, rfl⟩ rfl ⟨by show some (ABlk.own (lC i rows)) = some (ABlk.own ((lC i _).map _)); rw [lC_ren, hrows], trivial⟩ rfl (by simp [tupA, hpLt, tmLt, AV.lt, AE.lt, AC.lt, LL_cons, LL_nil, idOk, ABlk.lt, ints_LL, GB, tab64_LL, pC, castL, lC]) (by simp [tupA, hpLt, tmLt, AV.lt, AE.lt, AC.lt, LL_cons, LL_nil, idOk, ABlk.lt, ints_LL, GB, tab64_LL, pC, castL, lC])

theorem open_rn {n : Nat} {ws : List (Nat × Nat)} (h : Gr n ws) (own : Bool) (hw : ws.length ≤ 1000) : FDet Tryd.prog 50 [.c (.int .i64 n), .c (.rs 0 0 ws.length), .c (.bool own), .c (.nils)] [(0, .ro (ints (prs ws)))] 1 (.t [.c (.ptr 1 0), .c (.int .i64 0)]) [(1, .own (lC n (openR n ws own)))] 2 := by
  have hn1 := h.n1
  have hn := h.n16
  have hlen : (ints (prs ws)).length = ws.length * 2 := by rw [ints_len, prs_len]
  refine FSpec.body2 tok true Tryd.func50 ?_
  refine Wk.on ?_
  rw [decide_eq_false (show ¬ ((n : Nat) : Int) < 1 by omega)]
  refine Wk.on ?_
  rw [decide_eq_false (show ¬ 16 < ((n : Nat) : Int) by omega)]
  refine Wk.on ?_
  refine Tr.loop (md := true) (X := Nat) (st := fun i => ⟨[(2, .c (.bool own)), (3, .c (.nils)), (4, .c (.ptr 1 0)), (10, .c (.ptr 2 0)), (11, .c (.ptr 3 0)), (25, .c (.rs 0 0 ws.length)), (26, .c (.int .i64 ws.length)), (27, .c (.int .i64 i))], [(1, .own [.int .i64 n]), (2, .own (lC n (nearR (ws.take i)))), (3, .own [.int .i64 (prevP ws i).1, .int .i64 (prevP ws i).2]), (0, .ro (ints (prs ws)))], 4, 108, 1⟩) (inv := fun i => i ≤ ws.length) (μ := fun i => ws.length - i) (x0 := 0) (l := []) tok (by omega) ?_ ?_
  · exact Sub.nil ⟨rfl, rfl, (by simp [tab64_LL, pC, castL, lC]), rfl, (by simp [tupA, hpLt, tmLt, AV.lt, AE.lt, AC.lt, LL_cons, LL_nil, idOk, ABlk.lt, ints_LL, GB, tab64_LL, pC, castL, lC]), (by simp [tupA, hpLt, tmLt, AV.lt, AE.lt, AC.lt, LL_cons, LL_nil, idOk, ABlk.lt, ints_LL, GB, tab64_LL, pC, castL, lC])⟩ (by (repeat (first | exact trivial | refine ⟨trivial, ?_⟩ | refine ⟨rfl, ?_⟩))) (by (repeat (first | exact trivial | refine ⟨trivial, ?_⟩ | refine ⟨rfl, ?_⟩)))
  · intro i hi
    by_cases hil : i < ws.length
    · obtain ⟨rows, hrows⟩ : ∃ rows, rows = nearR (ws.take i) := ⟨_, rfl⟩
      have hL : Lm n rows := by rw [hrows]; exact nearR_lm h i hi
      have hnx : nearR (ws.take (i + 1)) = nearF rows (ws.getD i (0, 0)) := by rw [take_succ ws (0, 0) hil, hrows, nearR, List.foldl_append]; rfl
      have hcmp := cmp_prev h hil
      have hok := h.ok i hil
      obtain ⟨pa, hpa⟩ : ∃ pa, pa = (prevP ws i).1 := ⟨_, rfl⟩
      obtain ⟨pb, hpb⟩ : ∃ pb, pb = (prevP ws i).2 := ⟨_, rfl⟩
      have hprev : prevP ws (i + 1) = ((((ws.getD i (0, 0)).1 : Nat) : Int), (((ws.getD i (0, 0)).2 : Nat) : Int)) := by rw [prevP, if_neg (by omega), Nat.add_sub_cancel]
      obtain ⟨a, ha⟩ : ∃ a, a = (ws.getD i (0, 0)).1 := ⟨_, rfl⟩
      obtain ⟨b, hb2⟩ : ∃ b, b = (ws.getD i (0, 0)).2 := ⟨_, rfl⟩
      have hpc : pC (ws.getD i (0, 0)) = [.int .i64 a, .int .i64 b] := by rw [pC, ha, hb2]
      rw [← hrows, ← hpa, ← hpb]
      rw [← hpa, ← hpb, ← ha, ← hb2] at hcmp
      rw [← ha, ← hb2] at hok hprev
      obtain ⟨hab, hbn⟩ := hok
      have hl17 : (lC n rows).length = 17 := by rw [lC, List.length_cons, ints_len, castL_len, hL.len]
      obtain ⟨qa, hqa⟩ : ∃ q, q = 2 ^ a := ⟨_, rfl⟩
      obtain ⟨qb, hqb⟩ : ∃ q, q = 2 ^ b := ⟨_, rfl⟩
      have hqa2 : qa < 65536 := by rw [hqa]; exact Nat.pow_lt_pow_right (n := 16) (by omega) (by omega)
      have hqb2 : qb < 65536 := by rw [hqb]; exact Nat.pow_lt_pow_right (n := 16) (by omega) (by omega)
      have hsa : (1 : Int) * 2 ^ (Int.toNat (a : Int)) = (qa : Int) := by simp [hqa]
      have hsb : (1 : Int) * 2 ^ (Int.toNat (b : Int)) = (qb : Int) := by simp [hqb]
      have hwa : IntKind.u64.wrap (a : Int) = a := wrapU (by omega)
      have hwb : IntKind.u64.wrap (b : Int) = b := wrapU (by omega)
      have hp16 : 2 ^ n ≤ 65536 := hL.pow
      obtain ⟨ea, hea⟩ : ∃ e, e = rows.getD a 0 := ⟨_, rfl⟩
      have hea2 : ea < 65536 := by have := hL.row a; omega
      have hL1 : Lm n (orAt rows a qb) := orAt_lm hL (by rw [hqb]; exact Nat.pow_lt_pow_right (by omega) hbn)
      obtain ⟨rows1, hrows1⟩ : ∃ r, r = orAt rows a qb := ⟨_, rfl⟩
      rw [← hrows1] at hL1
      obtain ⟨eb, heb⟩ : ∃ e, e = rows1.getD b 0 := ⟨_, rfl⟩
      have heb2 : eb < 65536 := by have := hL1.row b; omega
      have hl171 : (lC n rows1).length = 17 := by rw [lC, List.length_cons, ints_len, castL_len, hL1.len]
      refine Wk.on ?_
      rw [decide_eq_true (show ((i : Nat) : Int) < ((ws.length : Nat) : Int) by omega)]
      refine Wk.on ?_
      refine ⟨⟨by rw [hlen, Int.toNat_natCast]; show 0 + i * 2 + 2 ≤ _; omega, rfl⟩, ?_⟩
      rw [Int.toNat_natCast, Nat.zero_add]
      refine Wk.on ?_
      rw [prs_rdn, hpc]
      refine Wk.on ?_
      refine Tr.draw (md := true) [⟨[], [32], [], [], []⟩, ⟨[], [31], [0], [], []⟩, ⟨[0, 1], [], [], [], []⟩, ⟨[0, 1, 2], [], [], [], []⟩, ⟨[0, 1, 2, 3], [], [], [], []⟩, ⟨[0, 1, 2, 3, 4], [], [], [], []⟩, ⟨[0, 1, 2, 3, 4, 5], [], [], [], []⟩, ⟨[0, 1, 2, 3, 4, 5, 6], [], [], [], []⟩, ⟨[0, 1, 2, 3, 4, 5, 6, 7], [], [], [], []⟩, ⟨[0, 1, 2, 3, 4, 5, 6, 7, 8], [], [], [], []⟩, ⟨[0, 1, 2, 3, 4, 5, 6, 7, 8, 9], [43, 44], [], [], []⟩, ⟨[0, 1, 2, 3, 4, 5, 6, 7, 8, 9, 10], [43, 44], [], [], []⟩, ⟨[0, 1, 2, 3, 4, 5, 6, 7, 8, 9], [41, 42], [10, 11], [], []⟩, ⟨[0, 1, 2, 3, 4, 5, 6, 7, 8, 9, 12], [41, 42], [10, 11], [], []⟩, ⟨[0, 1, 2, 3, 4, 5, 6, 7, 8, 9, 10, 11, 12, 13], [], [], [], []⟩, ⟨[0, 1, 2, 3, 4, 5, 6, 7, 8, 9, 10, 11, 12, 13, 14], [], [], [], []⟩, ⟨[0, 1, 2, 3, 4, 5, 6, 7, 8, 9, 10, 11, 12, 13, 14, 15], [], [], [], []⟩, ⟨[0, 1, 2, 3, 4, 5, 6, 7, 8, 9, 10, 11, 12, 13, 14, 15, 16], [50], [], [], []⟩, ⟨[0, 1, 2, 3, 4, 5, 6, 7, 8, 9, 10, 11, 12, 13, 14, 15, 16, 17], [50], [], [], []⟩, ⟨[0, 1, 2, 3, 4, 5, 6, 7, 8, 9, 10, 11, 12, 13, 14, 15, 16], [48, 49], [17, 18], [], []⟩] tok (by kernel_rfl) (by kernel_rfl) ?_
      refine Wk.on ?_
      refine CallQ.ro2 [4, 3] (.c (.int .i64 (cmp2 a b pa pb))) (cmp22_spec a b pa pb) ?_
      rw [hcmp]
      refine Wk.on ?_
      rw [decide_eq_false (show ¬ ((a : Nat) : Int) < 0 by omega)]
      refine Wk.on ?_
      rw [decide_eq_false (show ¬ ((b : Nat) : Int) ≤ ((a : Nat) : Int) by omega)]
      refine Wk.on ?_
      rw [decide_eq_false (show ¬ ((n : Nat) : Int) ≤ ((b : Nat) : Int) by omega)]
      refine Wk.on ?_
      have hga : (lC n rows).getD (0 + 1 + Int.toNat ((a : Nat) : Int) * 1) (.int .i64 0) = .int .i64 (ea : Int) := by rw [hea, show 0 + 1 + Int.toNat ((a : Nat) : Int) * 1 = a + 1 by rw [Int.toNat_natCast]; omega]; exact lC_getD a
      refine Tr.draw (md := true) [⟨[], [54, 55, 60, 61, 62, 63], [], [], []⟩, ⟨[], [53, 56, 57, 60, 61, 62, 63, 65, 66], [0], [], []⟩, ⟨[1], [53, 56, 57, 60, 61, 62, 63, 65, 66], [0], [], []⟩, ⟨[0], [54, 55, 60, 61, 62, 63, 65, 66], [1, 2], [], []⟩, ⟨[0, 3], [54, 55, 60, 61, 62, 63, 65, 66], [1, 2], [], []⟩, ⟨[0, 1, 2, 3, 4], [60, 61, 62, 63, 65, 66], [], [], []⟩, ⟨[0, 1, 2, 3, 4, 5], [60, 61, 62, 63, 65, 66], [], [], []⟩, ⟨[], [53, 54, 55, 56, 57, 58, 59, 65, 66], [0, 1, 2, 3, 4, 5, 6], [], []⟩, ⟨[7], [53, 54, 55, 56, 57, 58, 59, 65, 66], [0, 1, 2, 3, 4, 5, 6], [], []⟩, ⟨[7, 8], [53, 54, 55, 56, 57, 58, 59, 65, 66], [0, 1, 2, 3, 4, 5, 6], [], []⟩, ⟨[7, 8, 9], [53, 54, 55, 56, 57, 58, 59, 65, 66], [0, 1, 2, 3, 4, 5, 6], [], []⟩, ⟨[0, 1, 2, 3, 4, 5, 6, 7, 8, 9, 10], [65, 66], [], [], []⟩, ⟨[0], [54, 55, 56, 57, 58, 59, 60, 61, 62, 63, 64], [1, 2, 3, 4, 5, 6, 7, 8, 9, 10, 11], [], []⟩, ⟨[0, 12], [54, 55, 56, 57, 58, 59, 60, 61, 62, 63, 64], [1, 2, 3, 4, 5, 6, 7, 8, 9, 10, 11], [], []⟩] tok (by kernel_rfl) (by kernel_rfl) ?_
      refine Wk.on ?_
      rw [hga]
      refine Wk.on ?_
      rw [hwb]
      refine Wk.on ?_
      rw [hsb]
      refine Wk.on ?_
      have hst : (lC n rows).set (0 + 1 + Int.toNat ((a : Nat) : Int) * 1) (.int .i64 ((Int.toNat ((ea : Nat) : Int) ||| Int.toNat ((qb : Nat) : Int) : Nat) : Int)) = lC n rows1 := by
        rw [show 0 + 1 + Int.toNat ((a : Nat) : Int) * 1 = a + 1 by rw [Int.toNat_natCast]; omega, Int.toNat_natCast, Int.toNat_natCast, lC_set, hrows1, orAt, hea]
      rw [hst]
      have hgb : (lC n rows1).getD (0 + 1 + Int.toNat ((b : Nat) : Int) * 1) (.int .i64 0) = .int .i64 (eb : Int) := by rw [heb, show 0 + 1 + Int.toNat ((b : Nat) : Int) * 1 = b + 1 by rw [Int.toNat_natCast]; omega]; exact lC_getD b
      refine Tr.draw (md := true) [⟨[], [69, 70, 75, 76, 77, 78], [], [], []⟩, ⟨[], [68, 71, 72, 75, 76, 77, 78, 80, 81], [0], [], []⟩, ⟨[1], [68, 71, 72, 75, 76, 77, 78, 80, 81], [0], [], []⟩, ⟨[0], [69, 70, 75, 76, 77, 78, 80, 81], [1, 2], [], []⟩, ⟨[0, 3], [69, 70, 75, 76, 77, 78, 80, 81], [1, 2], [], []⟩, ⟨[0, 1, 2, 3, 4], [75, 76, 77, 78, 80, 81], [], [], []⟩, ⟨[0, 1, 2, 3, 4, 5], [75, 76, 77, 78, 80, 81], [], [], []⟩, ⟨[], [68, 69, 70, 71, 72, 73, 74, 80, 81], [0, 1, 2, 3, 4, 5, 6], [], []⟩, ⟨[7], [68, 69, 70, 71, 72, 73, 74, 80, 81], [0, 1, 2, 3, 4, 5, 6], [], []⟩, ⟨[7, 8], [68, 69, 70, 71, 72, 73, 74, 80, 81], [0, 1, 2, 3, 4, 5, 6], [], []⟩, ⟨[7, 8, 9], [68, 69, 70, 71, 72, 73, 74, 80, 81], [0, 1, 2, 3, 4, 5, 6], [], []⟩, ⟨[0, 1, 2, 3, 4, 5, 6, 7, 8, 9, 10], [80, 81], [], [], []⟩, ⟨[0], [69, 70, 71, 72, 73, 74, 75, 76, 77, 78, 79], [1, 2, 3, 4, 5, 6, 7, 8, 9, 10, 11], [], []⟩, ⟨[0, 12], [69, 70, 71, 72, 73, 74, 75, 76, 77, 78, 79], [1, 2, 3, 4, 5, 6, 7, 8, 9, 10, 11], [], []⟩] tok (by kernel_rfl) (by kernel_rfl) ?_
      refine Wk.on ?_
      rw [hgb]
      refine Wk.on ?_
      rw [hwa]
      refine Wk.on ?_
      rw [hsa]
      refine Wk.on ?_
      have hst2 : (lC n rows1).set (0 + 1 + Int.toNat ((b : Nat) : Int) * 1) (.int .i64 ((Int.toNat ((eb : Nat) : Int) ||| Int.toNat ((qa : Nat) : Int) : Nat) : Int)) = lC n (nearR (ws.take (i + 1))) := by
        rw [show 0 + 1 + Int.toNat ((b : Nat) : Int) * 1 = b + 1 by rw [Int.toNat_natCast]; omega, Int.toNat_natCast, Int.toNat_natCast, lC_set, hnx, nearF, ← ha, ← hb2, ← hqa, ← hqb, ← hrows1, orAt, heb]
      rw [hst2]
      refine Wk.on ?_
      refine Again.mk (i + 1) (Sub.nil ⟨rfl, rfl, (by simp [tab64_LL, pC, castL, lC]), rfl, (by simp [tupA, hpLt, tmLt, AV.lt, AE.lt, AC.lt, LL_cons, LL_nil, idOk, ABlk.lt, ints_LL, GB, tab64_LL, pC, castL, lC]), (by simp [tupA, hpLt, tmLt, AV.lt, AE.lt, AC.lt, LL_cons, LL_nil, idOk, ABlk.lt, ints_LL, GB, tab64_LL, pC, castL, lC])⟩ (by (repeat (first | exact trivial | refine ⟨trivial, ?_⟩ | refine ⟨rfl, ?_⟩))) ⟨rfl, rfl, by show ABlk.own [.int .i64 a, .int .i64 b] = ABlk.own _; rw [hprev], rfl, trivial⟩) (by omega) (by omega)
    · obtain rfl : i = ws.length := by omega
      rw [List.take_of_length_le (Nat.le_refl _)]
      refine Wk.on ?_
      rw [decide_eq_false (show ¬ ((ws.length : Nat) : Int) < ((ws.length : Nat) : Int) by omega)]
      refine Wk.on ?_
      intro _
      refine Wk.on ?_
      refine Tr.loop (md := true) (X := Nat) (st := fun i => ⟨[(2, .c (.bool own)), (3, .c (.nils)), (4, .c (.ptr 1 0)), (10, .c (.ptr 2 0)), (85, .c (.int .i64 n)), (86, .c (.int .i64 i))], [(1, .own [.int .i64 n]), (2, .own (lC n (openR i ws own))), (0, .ro (ints (prs ws)))], 4, 108, 1⟩) (inv := fun i => i ≤ n) (μ := fun i => n - i) (x0 := 0) (l := []) tok (by omega) ?_ ?_
      · exact Sub.nil ⟨rfl, rfl, (by simp [tab64_LL, pC, castL, lC]), rfl, (by simp [tupA, hpLt, tmLt, AV.lt, AE.lt, AC.lt, LL_cons, LL_nil, idOk, ABlk.lt, ints_LL, GB, tab64_LL, pC, castL, lC]), (by simp [tupA, hpLt, tmLt, AV.lt, AE.lt, AC.lt, LL_cons, LL_nil, idOk, ABlk.lt, ints_LL, GB, tab64_LL, pC, castL, lC])⟩ (by (repeat (first | exact trivial | refine ⟨trivial, ?_⟩ | refine ⟨rfl, ?_⟩))) ⟨rfl, by cases own <;> rfl, rfl, trivial⟩
      intro i hi
      obtain ⟨rows, hrows⟩ : ∃ rows, rows = openR i ws own := ⟨_, rfl⟩
      have hL : Lm n rows := by rw [hrows]; exact openP_lm h own i hi
      have hl17 : (lC n rows).length = 17 := by rw [lC, List.length_cons, ints_len, castL_len, hL.len]
      rw [← hrows]
      by_cases hil : i < n
      · obtain ⟨q, hq⟩ : ∃ q, q = 2 ^ i := ⟨_, rfl⟩
        have hq2 : q < 65536 := by rw [hq]; exact Nat.pow_lt_pow_right (n := 16) (by omega) (by omega)
        have hsh : (1 : Int) * 2 ^ (Int.toNat (i : Int)) = (q : Int) := by simp [hq]
        have hwi : IntKind.u64.wrap (i : Int) = i := wrapU (by omega)
        have hp16 : 2 ^ n ≤ 65536 := hL.pow
        obtain ⟨e, he⟩ : ∃ e, e = rows.getD i 0 := ⟨_, rfl⟩
        have he2 : e < 65536 := by have := hL.row i; omega
        have hge : (lC n rows).getD (0 + 1 + Int.toNat ((i : Nat) : Int) * 1) (.int .i64 0) = .int .i64 (e : Int) := by rw [he, show 0 + 1 + Int.toNat ((i : Nat) : Int) * 1 = i + 1 by rw [Int.toNat_natCast]; omega]; exact lC_getD i
        refine Wk.on ?_
        rw [decide_eq_true (show ((i : Nat) : Int) < ((n : Nat) : Int) by omega)]
        refine Wk.on ?_
        cases own
        · refine Wk.on ?_
          refine Again.mk (i + 1) (Sub.nil ⟨rfl, rfl, (by simp [tab64_LL, pC, castL, lC]), rfl, (by simp [tupA, hpLt, tmLt, AV.lt, AE.lt, AC.lt, LL_cons, LL_nil, idOk, ABlk.lt, ints_LL, GB, tab64_LL, pC, castL, lC]), (by simp [tupA, hpLt, tmLt, AV.lt, AE.lt, AC.lt, LL_cons, LL_nil, idOk, ABlk.lt, ints_LL, GB, tab64_LL, pC, castL, lC])⟩ (by (repeat (first | exact trivial | refine ⟨trivial, ?_⟩ | refine ⟨rfl, ?_⟩))) ⟨rfl, congrArg (fun r => ABlk.own (lC n r)) hrows, rfl, trivial⟩) (by omega) (by omega)
        · refine Wk.on ?_
          refine Tr.draw (md := true) [⟨[], [91, 96, 97, 98], [], [], []⟩, ⟨[], [90, 92, 93, 96, 97, 98, 100, 101], [0], [], []⟩, ⟨[0], [91, 96, 97, 98, 100, 101], [1], [], []⟩, ⟨[0, 2], [91, 96, 97, 98, 100, 101], [1], [], []⟩, ⟨[0, 1, 2, 3], [96, 97, 98, 100, 101], [], [], []⟩, ⟨[0, 1, 2, 3, 4], [96, 97, 98, 100, 101], [], [], []⟩, ⟨[], [90, 91, 92, 93, 94, 95, 100, 101], [0, 1, 2, 3, 4, 5], [], []⟩, ⟨[6], [90, 91, 92, 93, 94, 95, 100, 101], [0, 1, 2, 3, 4, 5], [], []⟩, ⟨[6, 7], [90, 91, 92, 93, 94, 95, 100, 101], [0, 1, 2, 3, 4, 5], [], []⟩, ⟨[0, 1, 2, 3, 4, 5, 6, 7, 8], [100, 101], [], [], []⟩, ⟨[0], [91, 92, 93, 94, 95, 96, 97, 98, 99], [1, 2, 3, 4, 5, 6, 7, 8, 9], [], []⟩, ⟨[0, 10], [91, 92, 93, 94, 95, 96, 97, 98, 99], [1, 2, 3, 4, 5, 6, 7, 8, 9], [], []⟩] tok (by kernel_rfl) (by kernel_rfl) ?_
          refine Wk.on ?_
          rw [hge]
          refine Wk.on ?_
          rw [hwi]
          refine Wk.on ?_
          rw [hsh]
          refine Wk.on ?_
          have hst : (lC n rows).set (0 + 1 + Int.toNat ((i : Nat) : Int) * 1) (.int .i64 ((Int.toNat ((e : Nat) : Int) ||| Int.toNat ((q : Nat) : Int) : Nat) : Int)) = lC n (openR (i + 1) ws true) := by
            rw [show 0 + 1 + Int.toNat ((i : Nat) : Int) * 1 = i + 1 by rw [Int.toNat_natCast]; omega, Int.toNat_natCast, Int.toNat_natCast, lC_set, openR, if_pos rfl, ownR, List.range_succ, List.foldl_append, List.foldl_cons, List.foldl_nil, ownF, orAt, he, hq, hrows, openR, if_pos rfl, ownR]
          rw [hst]
          refine Wk.on ?_
          refine Again.mk (i + 1) (Sub.nil ⟨rfl, rfl, (by simp [tab64_LL, pC, castL, lC]), rfl, (by simp [tupA, hpLt, tmLt, AV.lt, AE.lt, AC.lt, LL_cons, LL_nil, idOk, ABlk.lt, ints_LL, GB, tab64_LL, pC, castL, lC]), (by simp [tupA, hpLt, tmLt, AV.lt, AE.lt, AC.lt, LL_cons, LL_nil, idOk, ABlk.lt, ints_LL, GB, tab64_LL, pC, castL, lC])⟩ (by (repeat (first | exact trivial | refine ⟨trivial, ?_⟩ | refine ⟨rfl, ?_⟩))) ⟨rfl, rfl, rfl, trivial⟩) (by omega) (by omega)
      · obtain rfl : i = n := by omega
        refine Wk.on ?_
        rw [decide_eq_false (show ¬ ((i : Nat) : Int) < ((i : Nat) : Int) by omega)]
        refine Wk.on ?_
        intro _
        refine Wk.on ?_
        refine CallA.ro2 [1] (.c (.bool false)) (contains_nil i) ?_
        refine Wk.on ?_
        exact AH.Fin.new [2] _ _ ⟨rfl, rfl, rfl⟩ rfl ⟨by show some (ABlk.own (lC i rows)) = some (ABlk.own ((lC i _).map _)); rw [lC_ren, hrows], trivial⟩ rfl (by simp [tupA, hpLt, tmLt, AV.lt, AE.lt, AC.lt, LL_cons, LL_nil, idOk, ABlk.lt, ints_LL, GB, tab64_LL, pC, castL, lC]) (by simp [tupA, hpLt, tmLt, AV.lt, AE.lt, AC.lt, LL_cons, LL_nil, idOk, ABlk.lt, ints_LL, GB, tab64_LL, pC, castL, lC])

theorem open_nr {n : Nat} (h : Gr n []) (own : Bool) (S : List Int) (hS : S.length ≤ 1000) (hb : S.any (oorB n) = false) : FDet Tryd.prog 50 [.c (.int .i64 n), .c (.nils), .c (.bool own), .c (.rs 0 0 S.length)] [(0, .ro (ints S))] 1 (.t [.c (.ptr 1 0), .c (.int .i64 0)]) [(1, .own (lC n (openR n [] own)))] 2 := by
  have hn1 := h.n1
  have hn := h.n16
  refine FSpec.body2 tok true Tryd.func50 ?_
  refine Wk.on ?_
  rw [decide_eq_false (show ¬ ((n : Nat) : Int) < 1 by omega)]
  refine Wk.on ?_
  rw [decide_eq_false (show ¬ 16 < ((n : Nat) : Int) by omega)]
  refine Wk.on ?_
  refine Tr.loop (md := true) (X := Unit) (st := fun _ => ⟨[(2, .c (.bool own)), (3, .c (.rs 0 0 S.length)), (4, .c (.ptr 1 0)), (10, .c (.ptr 2 0)), (26, .c (.int .i64 0)), (27, .c (.int .i64 0))], [(1, .own [.int .i64 n]), (2, .own (lC n (nearR []))), (0, .ro (ints S))], 4, 108, 1⟩) (inv := fun _ => True) (μ := fun _ => 0) (x0 := ()) (l := []) tok trivial ?_ ?_
  · exact Sub.nil ⟨rfl, rfl, (by simp [tab64_LL, pC, castL, lC]), rfl, (by simp [tupA, hpLt, tmLt, AV.lt, AE.lt, AC.lt, LL_cons, LL_nil, idOk, ABlk.lt, ints_LL, GB, tab64_LL, pC, castL, lC]), (by simp [tupA, hpLt, tmLt, AV.lt, AE.lt, AC.lt, LL_cons, LL_nil, idOk, ABlk.lt, ints_LL, GB, tab64_LL, pC, castL, lC])⟩ (by (repeat (first | exact trivial | refine ⟨trivial, ?_⟩ | refine ⟨rfl, ?_⟩))) (by (repeat (first | exact trivial | refine ⟨trivial, ?_⟩ | refine ⟨rfl, ?_⟩)))
  · intro _ _
    refine Wk.on ?_
    refine Tr.loop (md := true) (X := Nat) (st := fun i => ⟨[(2, .c (.bool own)), (3, .c (.rs 0 0 S.length)), (4, .c (.ptr 1 0)), (10, .c (.ptr 2 0)), (85, .c (.int .i64 n)), (86, .c (.int .i64 i))], [(1, .own [.int .i64 n]), (2, .own (lC n (openR i [] own))), (0, .ro (ints S))], 4, 108, 1⟩) (inv := fun i => i ≤ n) (μ := fun i => n - i) (x0 := 0) (l := []) tok (by omega) ?_ ?_
    · exact Sub.nil ⟨rfl, rfl, (by simp [tab64_LL, pC, castL, lC]), rfl, (by simp [tupA, hpLt, tmLt, AV.lt, AE.lt, AC.lt, LL_cons, LL_nil, idOk, ABlk.lt, ints_LL, GB, tab64_LL, pC, castL, lC]), (by simp [tupA, hpLt, tmLt, AV.lt, AE.lt, AC.lt, LL_cons, LL_nil, idOk, ABlk.lt, ints_LL, GB, tab64_LL, pC, castL, lC])⟩ (by (repeat (first | exact trivial | refine ⟨trivial, ?_⟩ | refine ⟨rfl, ?_⟩))) ⟨rfl, by cases own <;> rfl, rfl, trivial⟩
    intro i hi
    obtain ⟨rows, hrows⟩ : ∃ rows, rows = openR i [] own := ⟨_, rfl⟩
    have hL : Lm n rows := by rw [hrows]; exact openP_lm h own i hi
    have hl17 : (lC n rows).length = 17 := by rw [lC, List.length_cons, ints_len, castL_len, hL.len]
    rw [← hrows]
    by_cases hil : i < n
    · obtain ⟨q, hq⟩ : ∃ q, q = 2 ^ i := ⟨_, rfl⟩
      have hq2 : q < 65536 := by rw [hq]; exact Nat.pow_lt_pow_right (n := 16) (by omega) (by omega)
      have hsh : (1 : Int) * 2 ^ (Int.toNat (i : Int)) = (q : Int) := by simp [hq]
      have hwi : IntKind.u64.wrap (i : Int) = i := wrapU (by omega)
      have hp16 : 2 ^ n ≤ 65536 := hL.pow
      obtain ⟨e, he⟩ : ∃ e, e = rows.getD i 0 := ⟨_, rfl⟩
      have he2 : e < 65536 := by have := hL.row i; omega
      have hge : (lC n rows).getD (0 + 1 + Int.toNat ((i : Nat) : Int) * 1) (.int .i64 0) = .int .i64 (e : Int) := by rw [he, show 0 + 1 + Int.toNat ((i : Nat) : Int) * 1 = i + 1 by rw [Int.toNat_natCast]; omega]; exact lC_getD i
      refine Wk.on ?_
      rw [decide_eq_true (show ((i : Nat) : Int) < ((n : Nat) : Int) by omega)]
      refine Wk.on ?_
      cases own
      · refine Wk.on ?_
        refine Again.mk (i + 1) (Sub.nil ⟨rfl, rfl, (by simp [tab64_LL, pC, castL, lC]), rfl, (by simp [tupA, hpLt, tmLt, AV.lt, AE.lt, AC.lt, LL_cons, LL_nil, idOk, ABlk.lt, ints_LL, GB, tab64_LL, pC, castL, lC]), (by simp [tupA, hpLt, tmLt, AV.lt, AE.lt, AC.lt, LL_cons, LL_nil, idOk, ABlk.lt, ints_LL, GB, tab64_LL, pC, castL, lC])⟩ (by (repeat (first | exact trivial | refine ⟨trivial, ?_⟩ | refine ⟨rfl, ?_⟩))) ⟨rfl, congrArg (fun r => ABlk.own (lC n r)) hrows, rfl, trivial⟩) (by omega) (by omega)
      · refine Wk.on ?_
        refine Tr.draw (md := true) [⟨[], [91, 96, 97, 98], [], [], []⟩, ⟨[], [90, 92, 93, 96, 97, 98, 100, 101], [0], [], []⟩, ⟨[0], [91, 96, 97, 98, 100, 101], [1], [], []⟩, ⟨[0, 2], [91, 96, 97, 98, 100, 101], [1], [], []⟩, ⟨[0, 1, 2, 3], [96, 97, 98, 100, 101], [], [], []⟩, ⟨[0, 1, 2, 3, 4], [96, 97, 98, 100, 101], [], [], []⟩, ⟨[], [90, 91, 92, 93, 94, 95, 100, 101], [0, 1, 2, 3, 4, 5], [], []⟩, ⟨[6], [90, 91, 92, 93, 94, 95, 100, 101], [0, 1, 2, 3, 4, 5], [], []⟩, ⟨[6, 7], [90, 91, 92, 93, 94, 95, 100, 101], [0, 1, 2, 3, 4, 5], [], []⟩, ⟨[0, 1, 2, 3, 4, 5, 6, 7, 8], [100, 101], [], [], []⟩, ⟨[0], [91, 92, 93, 94, 95, 96, 97, 98, 99], [1, 2, 3, 4, 5, 6, 7, 8, 9], [], []⟩, ⟨[0, 10], [91, 92, 93, 94, 95, 96, 97, 98, 99], [1, 2, 3, 4, 5, 6, 7, 8, 9], [], []⟩] tok (by kernel_rfl) (by kernel_rfl) ?_
        refine Wk.on ?_
        rw [hge]
        refine Wk.on ?_
        rw [hwi]
        refine Wk.on ?_
        rw [hsh]
        refine Wk.on ?_
        have hst : (lC n rows).set (0 + 1 + Int.toNat ((i : Nat) : Int) * 1) (.int .i64 ((Int.toNat ((e : Nat) : Int) ||| Int.toNat ((q : Nat) : Int) : Nat) : Int)) = lC n (openR (i + 1) [] true) := by
          rw [show 0 + 1 + Int.toNat ((i : Nat) : Int) * 1 = i + 1 by rw [Int.toNat_natCast]; omega, Int.toNat_natCast, Int.toNat_natCast, lC_set, openR, if_pos rfl, ownR, List.range_succ, List.foldl_append, List.foldl_cons, List.foldl_nil, ownF, orAt, he, hq, hrows, openR, if_pos rfl, ownR]
        rw [hst]
        refine Wk.on ?_
        refine Again.mk (i + 1) (Sub.nil ⟨rfl, rfl, (by simp [tab64_LL, pC, castL, lC]), rfl, (by simp [tupA, hpLt, tmLt, AV.lt, AE.lt, AC.lt, LL_cons, LL_nil, idOk, ABlk.lt, ints_LL, GB, tab64_LL, pC, castL, lC]), (by simp [tupA, hpLt, tmLt, AV.lt, AE.lt, AC.lt, LL_cons, LL_nil, idOk, ABlk.lt, ints_LL, GB, tab64_LL, pC, castL, lC])⟩ (by (repeat (first | exact trivial | refine ⟨trivial, ?_⟩ | refine ⟨rfl, ?_⟩))) ⟨rfl, rfl, rfl, trivial⟩) (by omega) (by omega)
    · obtain rfl : i = n := by omega
      refine Wk.on ?_
      rw [decide_eq_false (show ¬ ((i : Nat) : Int) < ((i : Nat) : Int) by omega)]
      refine Wk.on ?_
      intro _
      refine Wk.on ?_
      refine CallA.ro2 [0, 1] (.c (.bool false)) (contains_ok hn S hS hb) ?_
      refine Wk.on ?_
      exact AH.Fin.new [2] _ _ ⟨rfl, rfl, rfl⟩ rfl ⟨by show some (ABlk.own (lC i rows)) = some (ABlk.own ((lC i _).map _)); rw [lC_ren, hrows], trivial⟩ rfl (by simp [tupA, hpLt, tmLt, AV.lt, AE.lt, AC.lt, LL_cons, LL_nil, idOk, ABlk.lt, ints_LL, GB, tab64_LL, pC, castL, lC]) (by simp [tupA, hpLt, tmLt, AV.lt, AE.lt, AC.lt, LL_cons, LL_nil, idOk, ABlk.lt, ints_LL, GB, tab64_LL, pC, castL, lC])

theorem open_nn {n : Nat} (h : Gr n []) (own : Bool) : FDet Tryd.prog 50 [.c (.int .i64 n), .c (.nils), .c (.bool own), .c (.nils)] [] 0 (.t [.c (.ptr 0 0), .c (.int .i64 0)]) [(0, .own (lC n (openR n [] own)))] 1 := by
  have hn1 := h.n1
  have hn := h.n16
  refine FSpec.body2 tok true Tryd.func50 ?_
  refine Wk.on ?_
  rw [decide_eq_false (show ¬ ((n : Nat) : Int) < 1 by omega)]
  refine Wk.on ?_
  rw [decide_eq_false (show ¬ 16 < ((n : Nat) : Int) by omega)]
  refine Wk.on ?_
  refine Tr.loop (md := true) (X := Unit) (st := fun _ => ⟨[(2, .c (.bool own)), (3, .c (.nils)), (4, .c (.ptr 0 0)), (10, .c (.ptr 1 0)), (26, .c (.int .i64 0)), (27, .c (.int .i64 0))], [(0, .own [.int .i64 n]), (1, .own (lC n (nearR [])))], 3, 108, 0⟩) (inv := fun _ => True) (μ := fun _ => 0) (x0 := ()) (l := []) tok trivial ?_ ?_
  · exact Sub.nil ⟨rfl, rfl, (by simp [tab64_LL, pC, castL, lC]), rfl, (by simp [tupA, hpLt, tmLt, AV.lt, AE.lt, AC.lt, LL_cons, LL_nil, idOk, ABlk.lt, ints_LL, GB, tab64_LL, pC, castL, lC]), (by simp [tupA, hpLt, tmLt, AV.lt, AE.lt, AC.lt, LL_cons, LL_nil, idOk, ABlk.lt, ints_LL, GB, tab64_LL, pC, castL, lC])⟩ (by (repeat (first | exact trivial | refine ⟨trivial, ?_⟩ | refine ⟨rfl, ?_⟩))) (by (repeat (first | exact trivial | refine ⟨trivial, ?_⟩ | refine ⟨rfl, ?_⟩)))
  · intro _ _
    refine Wk.on ?_
    refine Tr.loop (md := true) (X := Nat) (st := fun i => ⟨[(2, .c (.bool own)), (3, .c (.nils)), (4, .c (.ptr 0 0)), (10, .c (.ptr 1 0)), (85, .c (.int .i64 n)), (86, .c (.int .i64 i))], [(0, .own [.int .i64 n]), (1, .own (lC n (openR i [] own)))], 3, 108, 0⟩) (inv := fun i => i ≤ n) (μ := fun i => n - i) (x0 := 0) (l := []) tok (by omega) ?_ ?_
    · exact Sub.nil ⟨rfl, rfl, (by simp [tab64_LL, pC, castL, lC]), rfl, (by simp [tupA, hpLt, tmLt, AV.lt, AE.lt, AC.lt, LL_cons, LL_nil, idOk, ABlk.lt, ints_LL, GB, tab64_LL, pC, castL, lC]), (by simp [tupA, hpLt, tmLt, AV.lt, AE.lt, AC.lt, LL_cons, LL_nil, idOk, ABlk.lt, ints_LL, GB, tab64_LL, pC, castL, lC])⟩ (by (repeat (first | exact trivial | refine ⟨trivial, ?_⟩ | refine ⟨rfl, ?_⟩))) ⟨rfl, by cases own <;> rfl, trivial⟩
    intro i hi
    obtain ⟨rows, hrows⟩ : ∃ rows, rows = openR i [] own := ⟨_, rfl⟩
    have hL : Lm n rows := by rw [hrows]; exact openP_lm h own i hi
    have hl17 : (lC n rows).length = 17 := by rw [lC, List.length_cons, ints_len, castL_len, hL.len]
    rw [← hrows]
    by_cases hil : i < n
    · obtain ⟨q, hq⟩ : ∃ q, q = 2 ^ i := ⟨_, rfl⟩
      have hq2 : q < 65536 := by rw [hq]; exact Nat.pow_lt_pow_right (n := 16) (by omega) (by omega)
      have hsh : (1 : Int) * 2 ^ (Int.toNat (i : Int)) = (q : Int) := by simp [hq]
      have hwi : IntKind.u64.wrap (i : Int) = i := wrapU (by omega)
      have hp16 : 2 ^ n ≤ 65536 := hL.pow
      obtain ⟨e, he⟩ : ∃ e, e = rows.getD i 0 := ⟨_, rfl⟩
      have he2 : e < 65536 := by have := hL.row i; omega
      have hge : (lC n rows).getD (0 + 1 + Int.toNat ((i : Nat) : Int) * 1) (.int .i64 0) = .int .i64 (e : Int) := by rw [he, show 0 + 1 + Int.toNat ((i : Nat) : Int) * 1 = i + 1 by rw [Int.toNat_natCast]; omega]; exact lC_getD i
      refine Wk.on ?_
      rw [decide_eq_true (show ((i : Nat) : Int) < ((n : Nat) : Int) by omega)]
      refine Wk.on ?_
      cases own
      · refine Wk.on ?_
        refine Again.mk (i + 1) (Sub.nil ⟨rfl, rfl, (by simp [tab64_LL, pC, castL, lC]), rfl, (by simp [tupA, hpLt, tmLt, AV.lt, AE.lt, AC.lt, LL_cons, LL_nil, idOk, ABlk.lt, ints_LL, GB, tab64_LL, pC, castL, lC]), (by simp [tupA, hpLt, tmLt, AV.lt, AE.lt, AC.lt, LL_cons, LL_nil, idOk, ABlk.lt, ints_LL, GB, tab64_LL, pC, castL, lC])⟩ (by (repeat (first | exact trivial | refine ⟨trivial, ?_⟩ | refine ⟨rfl, ?_⟩))) ⟨rfl, congrArg (fun r => ABlk.own (lC n r)) hrows, trivial⟩) (by omega) (by omega)
      · refine Wk.on ?_
        refine Tr.draw (md := true) [⟨[], [91, 96, 97, 98], [], [], []⟩, ⟨[], [90, 92, 93, 96, 97, 98, 100, 101], [0], [], []⟩, ⟨[0], [91, 96, 97, 98, 100, 101], [1], [], []⟩, ⟨[0, 2], [91, 96, 97, 98, 100, 101], [1], [], []⟩, ⟨[0, 1, 2, 3], [96, 97, 98, 100, 101], [], [], []⟩, ⟨[0, 1, 2, 3, 4], [96, 97, 98, 100, 101], [], [], []⟩, ⟨[], [90, 91, 92, 93, 94, 95, 100, 101], [0, 1, 2, 3, 4, 5], [], []⟩, ⟨[6], [90, 91, 92, 93, 94, 95, 100, 101], [0, 1, 2, 3, 4, 5], [], []⟩, ⟨[6, 7], [90, 91, 92, 93, 94, 95, 100, 101], [0, 1, 2, 3, 4, 5], [], []⟩, ⟨[0, 1, 2, 3, 4, 5, 6, 7, 8], [100, 101], [], [], []⟩, ⟨[0], [91, 92, 93, 94, 95, 96, 97, 98, 99], [1, 2, 3, 4, 5, 6, 7, 8, 9], [], []⟩, ⟨[0, 10], [91, 92, 93, 94, 95, 96, 97, 98, 99], [1, 2, 3, 4, 5, 6, 7, 8, 9], [], []⟩] tok (by kernel_rfl) (by kernel_rfl) ?_
        refine Wk.on ?_
        rw [hge]
        refine Wk.on ?_
        rw [hwi]
        refine Wk.on ?_
        rw [hsh]
        refine Wk.on ?_
        have hst : (lC n rows).set (0 + 1 + Int.toNat ((i : Nat) : Int) * 1) (.int .i64 ((Int.toNat ((e : Nat) : Int) ||| Int.toNat ((q : Nat) : Int) : Nat) : Int)) = lC n (openR (i + 1) [] true) := by
          rw [show 0 + 1 + Int.toNat ((i : Nat) : Int) * 1 = i + 1 by rw [Int.toNat_natCast]; omega, Int.toNat_natCast, Int.toNat_natCast, lC_set, openR, if_pos rfl, ownR, List.range_succ, List.foldl_append, List.foldl_cons, List.foldl_nil, ownF, orAt, he, hq, hrows, openR, if_pos rfl, ownR]
        rw [hst]
        refine Wk.on ?_
        refine Again.mk (i + 1) (Sub.nil ⟨rfl, rfl, (by simp [tab64_LL, pC, castL, lC]), rfl, (by simp [tupA, hpLt, tmLt, AV.lt, AE.lt, AC.lt, LL_cons, LL_nil, idOk, ABlk.lt, ints_LL, GB, tab64_LL, pC, castL, lC]), (by simp [tupA, hpLt, tmLt, AV.lt, AE.lt, AC.lt, LL_cons, LL_nil, idOk, ABlk.lt, ints_LL, GB, tab64_LL, pC, castL, lC])⟩ (by (repeat (first | exact trivial | refine ⟨trivial, ?_⟩ | refine ⟨rfl, ?_⟩))) ⟨rfl, rfl, trivial⟩) (by omega) (by omega)
    · obtain rfl : i = n := by omega
      refine Wk.on ?_
      rw [decide_eq_false (show ¬ ((i : Nat) : Int) < ((i : Nat) : Int) by omega)]
      refine Wk.on ?_
      intro _
      refine Wk.on ?_
      refine CallA.ro2 [0] (.c (.bool false)) (contains_nil i) ?_
      refine Wk.on ?_
      exact AH.Fin.new [1] _ _ ⟨rfl, rfl, rfl⟩ rfl ⟨by show some (ABlk.own (lC i rows)) = some (ABlk.own ((lC i _).map _)); rw [lC_ren, hrows], trivial⟩ rfl (by simp [tupA, hpLt, tmLt, AV.lt, AE.lt, AC.lt, LL_cons, LL_nil, idOk, ABlk.lt, ints_LL, GB, tab64_LL, pC, castL, lC]) (by simp [tupA, hpLt, tmLt, AV.lt, AE.lt, AC.lt, LL_cons, LL_nil, idOk, ABlk.lt, ints_LL, GB, tab64_LL, pC, castL, lC])

end Go.Proofs.YtimknijehaamlaaDoor

/-
  Contracts: a target is solved.
-/
namespace Go.Proofs.YtimknijehaamlaaDoor
open Go Go.AH Go.Lin
set_option maxRecDepth 100000
set_option maxHeartbeats 1000000

theorem okI {n : Nat} (h : n < 65536) : okC (.int .i64 n) (.int .i64 0) := ⟨rfl, by show (-9223372036854775808 : Int) ≤ n; omega, by show (n : Int) ≤ 9223372036854775807; omega⟩
theorem bool_eq (a b : Nat) : (decide ((a : Int) = a) && (decide ((b : Int) = 0) && true)) = decide (b = 0) := by
  rw [decide_eq_true rfl, Bool.true_and, Bool.and_true]
  exact decide_eq_decide.2 (by omega)
/-- What the elimination leaves: its pairs, its quiet sets. -/
def bsR (n : Nat) (rows : List Nat) : List (Nat × Nat) := (reducedP rows n).1
def qsR (n : Nat) (rows : List Nat) : List Nat := (reducedP rows n).2

theorem solve_spec {n : Nat} {rows : List Nat} (h : Lm n rows) {t : Nat} (ht : t < 2 ^ n) : FDet Tryd.prog 59 [.c (.ptr 0 0), .c (.int .i64 t)] [(0, .ro (lC n rows))] 1 (.t [.c (.int .i64 (solP (bsR n rows) t).1), .c (.bool (decide ((solP (bsR n rows) t).2 = 0)))]) [] 1 := by
  have hn := h.n16
  have hpw := h.pow
  have ht2 : t < 65536 := by omega
  have hl17 : (lC n rows).length = 17 := by rw [lC, List.length_cons, ints_len, castL_len, h.len]
  obtain ⟨hS, hB, hQ, hQs⟩ := h.small (Nat.le_refl n)
  have hr := reduced_spec h
  unfold bsR
  generalize reducedP rows n = BQ at *
  obtain ⟨B, Q⟩ := BQ
  dsimp only at hS hB hQ hr ⊢
  rcases B with _ | ⟨b0, B0⟩ <;> rcases Q with _ | ⟨q0, Q0⟩
  · skip
    have hr : FDet Tryd.prog 51 [.c (.ptr 0 0)] [(0, .ro (lC n rows))] 1 (.t [.c (.nils), .c (.nils)]) [] 1 := hr
    refine FSpec.body2 tok true Tryd.func59 ?_
    refine Wk.on ?_
    refine CallA.det2 [0] (.t [.c (.nils), .c (.nils)]) ([(0, .ro (lC n rows))]) (hr) ?_
    refine Wk.on ?_
    refine Tr.loop (md := true) (X := Unit) (st := fun _ => ⟨[(8, .c (.ptr 1 0)), (19, .c (.int .i64 0)), (20, .c (.int .i64 0))], [(1, .own [.int .i64 0, .int .i64 t]), (0, .ro (lC n rows))], 2, 51, 1⟩) (inv := fun _ => True) (μ := fun _ => 0) (x0 := ()) (l := []) tok trivial ?_ ?_
    · exact Sub.nil ⟨rfl, rfl, (by simp [tab64_LL, pC, castL, lC]), rfl, (by simp [tupA, hpLt, tmLt, AV.lt, AE.lt, AC.lt, LL_cons, LL_nil, idOk, ABlk.lt, ints_LL, GB, tab64_LL, pC, castL, lC]), (by simp [tupA, hpLt, tmLt, AV.lt, AE.lt, AC.lt, LL_cons, LL_nil, idOk, ABlk.lt, ints_LL, GB, tab64_LL, pC, castL, lC])⟩ (by (repeat (first | exact trivial | refine ⟨trivial, ?_⟩ | refine ⟨rfl, ?_⟩))) (by (repeat (first | exact trivial | refine ⟨trivial, ?_⟩ | refine ⟨rfl, ?_⟩)))
    · intro _ _
      refine Wk.on ?_
      refine Tr.draw (md := true) [⟨[], [46, 47, 48, 49, 50], [], [], []⟩, ⟨[0], [46, 47, 48, 49, 50], [], [], []⟩, ⟨[], [4, 44, 45, 47, 48, 49], [0, 1], [], []⟩, ⟨[], [4, 44, 45, 46], [0, 1, 2], [], []⟩, ⟨[3], [4, 44, 45, 46], [0, 1, 2], [], []⟩, ⟨[3, 4], [4, 44, 45, 46], [0, 1, 2], [], []⟩, ⟨[2, 3, 4, 5], [4, 44, 45], [0, 1], [], []⟩, ⟨[0, 1], [46, 47, 48, 49, 50], [2, 3, 4, 5, 6], [], []⟩] tok (by kernel_rfl) (by kernel_rfl) ?_
      refine Wk.on ?_
      refine ⟨⟨⟨okI (n := 0) (by decide), okI ht2, trivial⟩, ⟨okI (n := 0) (by decide), okI (n := 0) (by decide), trivial⟩⟩, ?_⟩
      refine Wk.on ?_
      exact AH.Fin.nil2 ⟨congrArg (fun b => AV.t [.c (.int .i64 0), .c (.bool b)]) (bool_eq 0 t), rfl, rfl⟩
  · skip
    have hr : FDet Tryd.prog 51 [.c (.ptr 0 0)] [(0, .ro (lC n rows))] 1 (.t [.c (.nils), .c (.row 1 (q0 :: Q0).length)]) [(1, .row 3 1 (ints (castL (q0 :: Q0))))] 2 := hr
    refine FSpec.body2 tok true Tryd.func59 ?_
    refine Wk.on ?_
    refine CallA.det2 [0] (.t [.c (.nils), .c (.row 1 (q0 :: Q0).length)]) ([(0, .ro (lC n rows)), (1, .row 3 1 (ints (castL (q0 :: Q0))))]) (hr) ?_
    refine Wk.on ?_
    refine Tr.loop (md := true) (X := Unit) (st := fun _ => ⟨[(8, .c (.ptr 2 0)), (19, .c (.int .i64 0)), (20, .c (.int .i64 0))], [(2, .own [.int .i64 0, .int .i64 t]), (0, .ro (lC n rows))], 3, 51, 1⟩) (inv := fun _ => True) (μ := fun _ => 0) (x0 := ()) (l := []) tok trivial ?_ ?_
    · exact Sub.nil ⟨rfl, rfl, (by simp [tab64_LL, pC, castL, lC]), rfl, (by simp [tupA, hpLt, tmLt, AV.lt, AE.lt, AC.lt, LL_cons, LL_nil, idOk, ABlk.lt, ints_LL, GB, tab64_LL, pC, castL, lC]), (by simp [tupA, hpLt, tmLt, AV.lt, AE.lt, AC.lt, LL_cons, LL_nil, idOk, ABlk.lt, ints_LL, GB, tab64_LL, pC, castL, lC])⟩ (by (repeat (first | exact trivial | refine ⟨trivial, ?_⟩ | refine ⟨rfl, ?_⟩))) (by (repeat (first | exact trivial | refine ⟨trivial, ?_⟩ | refine ⟨rfl, ?_⟩)))
    · intro _ _
      refine Wk.on ?_
      refine Tr.draw (md := true) [⟨[], [46, 47, 48, 49, 50], [], [], []⟩, ⟨[0], [46, 47, 48, 49, 50], [], [], []⟩, ⟨[], [4, 44, 45, 47, 48, 49], [0, 1], [], []⟩, ⟨[], [4, 44, 45, 46], [0, 1, 2], [], []⟩, ⟨[3], [4, 44, 45, 46], [0, 1, 2], [], []⟩, ⟨[3, 4], [4, 44, 45, 46], [0, 1, 2], [], []⟩, ⟨[2, 3, 4, 5], [4, 44, 45], [0, 1], [], []⟩, ⟨[0, 1], [46, 47, 48, 49, 50], [2, 3, 4, 5, 6], [], []⟩] tok (by kernel_rfl) (by kernel_rfl) ?_
      refine Wk.on ?_
      refine ⟨⟨⟨okI (n := 0) (by decide), okI ht2, trivial⟩, ⟨okI (n := 0) (by decide), okI (n := 0) (by decide), trivial⟩⟩, ?_⟩
      refine Wk.on ?_
      exact AH.Fin.nil2 ⟨congrArg (fun b => AV.t [.c (.int .i64 0), .c (.bool b)]) (bool_eq 0 t), rfl, rfl⟩
  · skip
    have hr : FDet Tryd.prog 51 [.c (.ptr 0 0)] [(0, .ro (lC n rows))] 1 (.t [.c (.row 1 (b0 :: B0).length), .c (.nils)]) [(1, .row 93 2 (ints (prs (b0 :: B0))))] 2 := hr
    refine FSpec.body2 tok true Tryd.func59 ?_
    refine Wk.on ?_
    refine CallA.det2 [0] (.t [.c (.row 1 (b0 :: B0).length), .c (.nils)]) ([(0, .ro (lC n rows)), (1, .row 93 2 (ints (prs (b0 :: B0))))]) (hr) ?_
    refine Wk.on ?_
    generalize hBB : b0 :: B0 = B at *
    have hlen : (ints (prs B)).length = B.length * 2 := by rw [ints_len, prs_len]
    refine Tr.loop (md := true) (X := Nat) (st := fun k => ⟨[(8, .c (.ptr 2 0)), (18, .c (.row 1 B.length)), (19, .c (.int .i64 B.length)), (20, .c (.int .i64 k))], [(2, .own (pC (redP (B.take k) (0, t)))), (0, .ro (lC n rows)), (1, .row 93 2 (ints (prs B)))], 3, 51, 1⟩) (inv := fun k => k ≤ B.length) (μ := fun k => B.length - k) (x0 := 0) (l := []) tok (by omega) ?_ ?_
    · exact Sub.nil ⟨rfl, rfl, (by simp [tab64_LL, pC, castL, lC]), rfl, (by simp [tupA, hpLt, tmLt, AV.lt, AE.lt, AC.lt, LL_cons, LL_nil, idOk, ABlk.lt, ints_LL, GB, tab64_LL, pC, castL, lC]), (by simp [tupA, hpLt, tmLt, AV.lt, AE.lt, AC.lt, LL_cons, LL_nil, idOk, ABlk.lt, ints_LL, GB, tab64_LL, pC, castL, lC])⟩ (by (repeat (first | exact trivial | refine ⟨trivial, ?_⟩ | refine ⟨rfl, ?_⟩))) (by (repeat (first | exact trivial | refine ⟨trivial, ?_⟩ | refine ⟨rfl, ?_⟩)))
    · intro k hk
      by_cases hkl : k < B.length
      · have hsm := redP_small (B := B.take k) (fun c hc => hS c (List.mem_of_mem_take hc)) (p := (0, t)) (by omega) ht2
        have hgs := getD_small hS k
        have htk := redP_take hkl (0, t)
        obtain ⟨pa, hpa⟩ : ∃ pa, pa = (redP (B.take k) (0, t)).1 := ⟨_, rfl⟩
        obtain ⟨pe, hpe⟩ : ∃ pe, pe = (redP (B.take k) (0, t)).2 := ⟨_, rfl⟩
        have hpc : pC (redP (B.take k) (0, t)) = [.int .i64 pa, .int .i64 pe] := by rw [pC, hpa, hpe]
        rw [hpc]
        rw [← hpa, ← hpe] at hsm htk
        obtain ⟨ba, hba⟩ : ∃ ba, ba = (B.getD k (0, 0)).1 := ⟨_, rfl⟩
        obtain ⟨be, hbe⟩ : ∃ be, be = (B.getD k (0, 0)).2 := ⟨_, rfl⟩
        have hbc : pC (B.getD k (0, 0)) = [.int .i64 ba, .int .i64 be] := by rw [pC, hba, hbe]
        rw [← hba, ← hbe] at hgs htk
        refine Wk.on ?_
        rw [decide_eq_true (show ((k : Nat) : Int) < ((B.length : Nat) : Int) by omega)]
        refine Wk.on ?_
        refine ⟨⟨by rw [hlen, Int.toNat_natCast]; show k * 2 + 2 ≤ _; omega, rfl⟩, ?_⟩
        rw [Int.toNat_natCast]
        refine Wk.on ?_
        rw [prs_rdn, hbc]
        refine Wk.on ?_
        simp only [Int.toNat_natCast]
        rw [show decide (((pe ^^^ be : Nat) : Int) < (pe : Int)) = decide (pe ^^^ be < pe) from decide_eq_decide.2 (by omega)]
        by_cases hx : pe ^^^ be < pe
        · rw [if_pos hx] at htk
          rw [decide_eq_true hx]
          refine Wk.on ?_
          refine Again.mk (k + 1) (Sub.nil ⟨rfl, rfl, (by simp [tab64_LL, pC, castL, lC]), rfl, (by simp [tupA, hpLt, tmLt, AV.lt, AE.lt, AC.lt, LL_cons, LL_nil, idOk, ABlk.lt, ints_LL, GB, tab64_LL, pC, castL, lC]), (by simp [tupA, hpLt, tmLt, AV.lt, AE.lt, AC.lt, LL_cons, LL_nil, idOk, ABlk.lt, ints_LL, GB, tab64_LL, pC, castL, lC])⟩ (by (repeat (first | exact trivial | refine ⟨trivial, ?_⟩ | refine ⟨rfl, ?_⟩))) ⟨by show ABlk.own [.int .i64 ((((pa : Int).toNat ^^^ (ba : Int).toNat : Nat) : Int)), .int .i64 ((((pe : Int).toNat ^^^ (be : Int).toNat : Nat) : Int))] = ABlk.own (pC _); rw [htk]; rfl, rfl, rfl, trivial⟩) (by omega) (by omega)
        · rw [if_neg hx] at htk
          rw [decide_eq_false hx]
          refine Wk.on ?_
          refine Again.mk (k + 1) (Sub.nil ⟨rfl, rfl, (by simp [tab64_LL, pC, castL, lC]), rfl, (by simp [tupA, hpLt, tmLt, AV.lt, AE.lt, AC.lt, LL_cons, LL_nil, idOk, ABlk.lt, ints_LL, GB, tab64_LL, pC, castL, lC]), (by simp [tupA, hpLt, tmLt, AV.lt, AE.lt, AC.lt, LL_cons, LL_nil, idOk, ABlk.lt, ints_LL, GB, tab64_LL, pC, castL, lC])⟩ (by (repeat (first | exact trivial | refine ⟨trivial, ?_⟩ | refine ⟨rfl, ?_⟩))) ⟨by show ABlk.own [.int .i64 pa, .int .i64 pe] = ABlk.own (pC _); rw [htk, hpc], rfl, rfl, trivial⟩) (by omega) (by omega)
      · obtain rfl : k = B.length := by omega
        rw [List.take_of_length_le (Nat.le_refl _)]
        obtain ⟨pa, hpa⟩ : ∃ pa, pa = (redP B (0, t)).1 := ⟨_, rfl⟩
        obtain ⟨pe, hpe⟩ : ∃ pe, pe = (redP B (0, t)).2 := ⟨_, rfl⟩
        have hpc : pC (redP B (0, t)) = [.int .i64 pa, .int .i64 pe] := by rw [pC, hpa, hpe]
        have hsm := redP_small hS (p := (0, t)) (by omega) ht2
        rw [← hpa, ← hpe] at hsm
        rw [hpc]
        unfold solP
        rw [← hpa, ← hpe]
        refine Wk.on ?_
        rw [decide_eq_false (show ¬ ((B.length : Nat) : Int) < ((B.length : Nat) : Int) by omega)]
        refine Wk.on ?_
        intro _
        refine Wk.on ?_
        refine Tr.draw (md := true) [⟨[], [46, 47, 48, 49, 50], [], [], []⟩, ⟨[0], [46, 47, 48, 49, 50], [], [], []⟩, ⟨[], [4, 44, 45, 47, 48, 49], [0, 1], [], []⟩, ⟨[], [4, 44, 45, 46], [0, 1, 2], [], []⟩, ⟨[3], [4, 44, 45, 46], [0, 1, 2], [], []⟩, ⟨[3, 4], [4, 44, 45, 46], [0, 1, 2], [], []⟩, ⟨[2, 3, 4, 5], [4, 44, 45], [0, 1], [], []⟩, ⟨[0, 1], [46, 47, 48, 49, 50], [2, 3, 4, 5, 6], [], []⟩] tok (by kernel_rfl) (by kernel_rfl) ?_
        refine Wk.on ?_
        refine ⟨⟨⟨okI hsm.1, okI hsm.2, trivial⟩, ⟨okI hsm.1, okI (n := 0) (by decide), trivial⟩⟩, ?_⟩
        refine Wk.on ?_
        exact AH.Fin.nil2 ⟨congrArg (fun b => AV.t [.c (.int .i64 pa), .c (.bool b)]) (bool_eq pa pe), rfl, rfl⟩
  · skip
    have hr : FDet Tryd.prog 51 [.c (.ptr 0 0)] [(0, .ro (lC n rows))] 1 (.t [.c (.row 1 (b0 :: B0).length), .c (.row 2 (q0 :: Q0).length)]) [(1, .row 93 2 (ints (prs (b0 :: B0)))), (2, .row 3 1 (ints (castL (q0 :: Q0))))] 3 := hr
    refine FSpec.body2 tok true Tryd.func59 ?_
    refine Wk.on ?_
    refine CallA.det2 [0] (.t [.c (.row 1 (b0 :: B0).length), .c (.row 2 (q0 :: Q0).length)]) ([(0, .ro (lC n rows)), (2, .row 3 1 (ints (castL (q0 :: Q0)))), (1, .row 93 2 (ints (prs (b0 :: B0))))]) (hr) ?_
    refine Wk.on ?_
    generalize hBB : b0 :: B0 = B at *
    have hlen : (ints (prs B)).length = B.length * 2 := by rw [ints_len, prs_len]
    refine Tr.loop (md := true) (X := Nat) (st := fun k => ⟨[(8, .c (.ptr 3 0)), (18, .c (.row 1 B.length)), (19, .c (.int .i64 B.length)), (20, .c (.int .i64 k))], [(3, .own (pC (redP (B.take k) (0, t)))), (0, .ro (lC n rows)), (1, .row 93 2 (ints (prs B)))], 4, 51, 1⟩) (inv := fun k => k ≤ B.length) (μ := fun k => B.length - k) (x0 := 0) (l := []) tok (by omega) ?_ ?_
    · exact Sub.nil ⟨rfl, rfl, (by simp [tab64_LL, pC, castL, lC]), rfl, (by simp [tupA, hpLt, tmLt, AV.lt, AE.lt, AC.lt, LL_cons, LL_nil, idOk, ABlk.lt, ints_LL, GB, tab64_LL, pC, castL, lC]), (by simp [tupA, hpLt, tmLt, AV.lt, AE.lt, AC.lt, LL_cons, LL_nil, idOk, ABlk.lt, ints_LL, GB, tab64_LL, pC, castL, lC])⟩ (by (repeat (first | exact trivial | refine ⟨trivial, ?_⟩ | refine ⟨rfl, ?_⟩))) (by (repeat (first | exact trivial | refine ⟨trivial, ?_⟩ | refine ⟨rfl, ?_⟩)))
    · intro k hk
      by_cases hkl : k < B.length
      · have hsm := redP_small (B := B.take k) (fun c hc => hS c (List.mem_of_mem_take hc)) (p := (0, t)) (by omega) ht2
        have hgs := getD_small hS k
        have htk := redP_take hkl (0, t)
        obtain ⟨pa, hpa⟩ : ∃ pa, pa = (redP (B.take k) (0, t)).1 := ⟨_, rfl⟩
        obtain ⟨pe, hpe⟩ : ∃ pe, pe = (redP (B.take k) (0, t)).2 := ⟨_, rfl⟩
        have hpc : pC (redP (B.take k) (0, t)) = [.int .i64 pa, .int .i64 pe] := by rw [pC, hpa, hpe]
        rw [hpc]
        rw [← hpa, ← hpe] at hsm htk
        obtain ⟨ba, hba⟩ : ∃ ba, ba = (B.getD k (0, 0)).1 := ⟨_, rfl⟩
        obtain ⟨be, hbe⟩ : ∃ be, be = (B.getD k (0, 0)).2 := ⟨_, rfl⟩
        have hbc : pC (B.getD k (0, 0)) = [.int .i64 ba, .int .i64 be] := by rw [pC, hba, hbe]
        rw [← hba, ← hbe] at hgs htk
        refine Wk.on ?_
        rw [decide_eq_true (show ((k : Nat) : Int) < ((B.length : Nat) : Int) by omega)]
        refine Wk.on ?_
        refine ⟨⟨by rw [hlen, Int.toNat_natCast]; show k * 2 + 2 ≤ _; omega, rfl⟩, ?_⟩
        rw [Int.toNat_natCast]
        refine Wk.on ?_
        rw [prs_rdn, hbc]
        refine Wk.on ?_
        simp only [Int.toNat_natCast]
        rw [show decide (((pe ^^^ be : Nat) : Int) < (pe : Int)) = decide (pe ^^^ be < pe) from decide_eq_decide.2 (by omega)]
        by_cases hx : pe ^^^ be < pe
        · rw [if_pos hx] at htk
          rw [decide_eq_true hx]
          refine Wk.on ?_
          refine Again.mk (k + 1) (Sub.nil ⟨rfl, rfl, (by simp [tab64_LL, pC, castL, lC]), rfl, (by simp [tupA, hpLt, tmLt, AV.lt, AE.lt, AC.lt, LL_cons, LL_nil, idOk, ABlk.lt, ints_LL, GB, tab64_LL, pC, castL, lC]), (by simp [tupA, hpLt, tmLt, AV.lt, AE.lt, AC.lt, LL_cons, LL_nil, idOk, ABlk.lt, ints_LL, GB, tab64_LL, pC, castL, lC])⟩ (by (repeat (first | exact trivial | refine ⟨trivial, ?_⟩ | refine ⟨rfl, ?_⟩))) ⟨by show ABlk.own [.int .i64 ((((pa : Int).toNat ^^^ (ba : Int).toNat : Nat) : Int)), .int .i64 ((((pe : Int).toNat ^^^ (be : Int).toNat : Nat) : Int))] = ABlk.own (pC _); rw [htk]; rfl, rfl, rfl, trivial⟩) (by omega) (by omega)
        · rw [if_neg hx] at htk
          rw [decide_eq_false hx]
          refine Wk.on ?_
          refine Again.mk (k + 1) (Sub.nil ⟨rfl, rfl, (by simp [tab64_LL, pC, castL, lC]), rfl, (by simp [tupA, hpLt, tmLt, AV.lt, AE.lt, AC.lt, LL_cons, LL_nil, idOk, ABlk.lt, ints_LL, GB, tab64_LL, pC, castL, lC]), (by simp [tupA, hpLt, tmLt, AV.lt, AE.lt, AC.lt, LL_cons, LL_nil, idOk, ABlk.lt, ints_LL, GB, tab64_LL, pC, castL, lC])⟩ (by (repeat (first | exact trivial | refine ⟨trivial, ?_⟩ | refine ⟨rfl, ?_⟩))) ⟨by show ABlk.own [.int .i64 pa, .int .i64 pe] = ABlk.own (pC _); rw [htk, hpc], rfl, rfl, trivial⟩) (by omega) (by omega)
      · obtain rfl : k = B.length := by omega
        rw [List.take_of_length_le (Nat.le_refl _)]
        obtain ⟨pa, hpa⟩ : ∃ pa, pa = (redP B (0, t)).1 := ⟨_, rfl⟩
        obtain ⟨pe, hpe⟩ : ∃ pe, pe = (redP B (0, t)).2 := ⟨_, rfl⟩
        have hpc : pC (redP B (0, t)) = [.int .i64 pa, .int .i64 pe] := by rw [pC, hpa, hpe]
        have hsm := redP_small hS (p := (0, t)) (by omega) ht2
        rw [← hpa, ← hpe] at hsm
        rw [hpc]
        unfold solP
        rw [← hpa, ← hpe]
        refine Wk.on ?_
        rw [decide_eq_false (show ¬ ((B.length : Nat) : Int) < ((B.length : Nat) : Int) by omega)]
        refine Wk.on ?_
        intro _
        refine Wk.on ?_
        refine Tr.draw (md := true) [⟨[], [46, 47, 48, 49, 50], [], [], []⟩, ⟨[0], [46, 47, 48, 49, 50], [], [], []⟩, ⟨[], [4, 44, 45, 47, 48, 49], [0, 1], [], []⟩, ⟨[], [4, 44, 45, 46], [0, 1, 2], [], []⟩, ⟨[3], [4, 44, 45, 46], [0, 1, 2], [], []⟩, ⟨[3, 4], [4, 44, 45, 46], [0, 1, 2], [], []⟩, ⟨[2, 3, 4, 5], [4, 44, 45], [0, 1], [], []⟩, ⟨[0, 1], [46, 47, 48, 49, 50], [2, 3, 4, 5, 6], [], []⟩] tok (by kernel_rfl) (by kernel_rfl) ?_
        refine Wk.on ?_
        refine ⟨⟨⟨okI hsm.1, okI hsm.2, trivial⟩, ⟨okI hsm.1, okI (n := 0) (by decide), trivial⟩⟩, ?_⟩
        refine Wk.on ?_
        exact AH.Fin.nil2 ⟨congrArg (fun b => AV.t [.c (.int .i64 pa), .c (.bool b)]) (bool_eq pa pe), rfl, rfl⟩
end Go.Proofs.YtimknijehaamlaaDoor

/-
  Contracts: the quiet sets are tidied.
-/
namespace Go.Proofs.YtimknijehaamlaaDoor
open Go Go.AH Go.Lin
set_option maxRecDepth 100000
set_option maxHeartbeats 1000000

theorem app_lie (M : List Nat) (s : Nat) (q : Nat → Nat) : ints (castL M) ++ [.int .i64 s] = (ints (castL (M ++ [s]))).map (AC.ren q) := by
  rw [ints_ren, castL_app, ← ints_app]; rfl
theorem red_take {L : List Nat} {k : Nat} (hk : k < L.length) (x : Nat) : red (L.take (k + 1)) x = if red (L.take k) x ^^^ L.getD k 0 < red (L.take k) x then red (L.take k) x ^^^ L.getD k 0 else red (L.take k) x := by
  rw [take_succ L 0 hk, red, List.foldl_append]; rfl
theorem clr_len (s : Nat) (L : List Nat) : (clr s L).length = L.length := by simp [clr]
theorem clr_getD {s : Nat} {L : List Nat} {k : Nat} (hk : k < L.length) : (clr s L).getD k 0 = if (L.getD k 0).testBit s.log2 then L.getD k 0 ^^^ s else L.getD k 0 := by
  rw [clr, List.getD_eq_getElem?_getD, List.getElem?_map, List.getD_eq_getElem?_getD, List.getElem?_eq_getElem hk]; rfl
def mix (M L : List Nat) (k : Nat) : List Nat := M.take k ++ L.drop k
theorem mix_len {M L : List Nat} (h : M.length = L.length) {k : Nat} (hk : k ≤ L.length) : (mix M L k).length = L.length := by simp [mix]; omega
theorem mix_get {M L : List Nat} (h : M.length = L.length) {k : Nat} (hk : k < L.length) : (mix M L k).getD k 0 = L.getD k 0 := by
  have e : (M.take k).length = k := by simp; omega
  rw [mix, List.getD_eq_getElem?_getD, List.getElem?_append_right (by omega), e, Nat.sub_self, List.getElem?_drop, List.getD_eq_getElem?_getD, Nat.add_zero]
theorem mix_set {M L : List Nat} (h : M.length = L.length) {k : Nat} (hk : k < L.length) : (mix M L k).set k (M.getD k 0) = mix M L (k + 1) := by
  have e : (M.take k).length = k := by simp; omega
  rw [mix, List.set_append_right _ _ (by omega), e, Nat.sub_self, List.drop_eq_getElem_cons hk, List.set_cons_zero, mix, take_succ M 0 (by omega), List.append_assoc]; rfl
theorem set_getD {L : List Nat} {k : Nat} : L.set k (L.getD k 0) = L := by
  by_cases hk : k < L.length
  · rw [List.getD_eq_getElem?_getD, List.getElem?_eq_getElem hk]; exact List.set_getElem_self hk
  · exact List.set_eq_of_length_le (by omega)
theorem mix_same {M L : List Nat} (h : M.length = L.length) {k : Nat} (hk : k < L.length) (e : M.getD k 0 = L.getD k 0) : mix M L (k + 1) = mix M L k := by
  rw [← mix_set h hk, e, ← mix_get h hk, set_getD]
theorem ints_set (L : List Nat) (k v : Nat) : (ints (castL L)).set k (.int .i64 (v : Int)) = ints (castL (L.set k v)) := by
  rw [castL, castL, List.map_set]
  simp only [ints, List.map_set]
  rfl
theorem and_bit (b j : Nat) : decide (b &&& 2 ^ j ≠ 0) = b.testBit j := by
  cases h : b.testBit j
  · refine decide_eq_false fun h2 => h2 (and_zero.2 fun i hi => ?_)
    by_cases e : j = i
    · rw [← e, h] at hi; cases hi
    · exact Nat.testBit_two_pow_of_ne e
  · refine decide_eq_true fun e => ?_
    have := and_zero.1 e j h
    rw [Nat.testBit_two_pow_self] at this
    cases this
theorem tidyD_succ {Q : List Nat} {i : Nat} (hi : i < Q.length) : tidyD (Q.take (i + 1)) = tidy1 (tidyD (Q.take i)) (Q.getD i 0) := by
  rw [take_succ Q 0 hi, tidyD, List.foldl_append]; rfl
theorem red_lt {L : List Nat} {x : Nat} (h : x < 65536) : red L x < 65536 := Nat.lt_of_le_of_lt (red_le L x) h
theorem tidyD_lt {Q : List Nat} (h : ∀ q ∈ Q, q < 65536) : ∀ b ∈ tidyD Q, b < 65536 := by
  intro b hb
  obtain ⟨_, _, h3⟩ := tidy_all Q
  exact Span.lt (k := 16) h ((h3 b).1 (Span.mem hb))
theorem tidy1_len (L : List Nat) (x : Nat) : (tidy1 L x).length ≤ L.length + 1 := by
  unfold tidy1
  split
  · omega
  · rw [(insD_perm _ _).length_eq, List.length_cons, clr_len]; omega
theorem tidyD_len (Q : List Nat) (i : Nat) (hi : i ≤ Q.length) : (tidyD (Q.take i)).length ≤ i := by
  induction i with
  | zero => exact Nat.le_refl _
  | succ i ih =>
    rw [tidyD_succ (by omega)]
    have := ih (by omega)
    have := tidy1_len (tidyD (Q.take i)) (Q.getD i 0)
    omega
theorem insD_lt {s : Nat} {M Q : List Nat} {i : Nat} (hsu : tidyD (Q.take i) = insD s M) (hq : ∀ q ∈ Q, q < 65536) : ∀ z ∈ insD s M, z < 65536 := by
  rw [← hsu]; exact tidyD_lt fun q hm => hq q (List.mem_of_mem_take hm)
def tdSt (Q : List Nat) : Nat × List Nat → AS
  | (i, []) => ⟨[(3, .c .nils), (11, .c (.rs 0 0 Q.length)), (12, .c (.int .i64 Q.length)), (13, .c (.int .i64 i))], [(0, .ro (ints (castL Q)))], 2, 65, 1⟩
  | (i, b :: L) => ⟨[(3, .c (.row 1 (b :: L).length)), (11, .c (.rs 0 0 Q.length)), (12, .c (.int .i64 Q.length)), (13, .c (.int .i64 i))], [(0, .ro (ints (castL Q))), (1, .row 3 1 (ints (castL (b :: L))))], 2, 65, 1⟩
def tV : List Nat → AV
  | [] => .c .nils
  | b :: L => .c (.row 1 (b :: L).length)
def tH : List Nat → List (Nat × ABlk)
  | [] => []
  | b :: L => [(1, .row 3 1 (ints (castL (b :: L))))]
def tK : List Nat → Nat
  | [] => 1
  | _ :: _ => 2
theorem srt (L : List Nat) (h : L.length ≤ 12) : FDet Tryd.prog 74 [.c (.row 0 L.length)] [(0, .row 3 1 (ints (castL L)))] 1 (.t []) [(0, .row 3 1 (ints (isort asc (castL L))))] 1 := by
  have := Sort_spec (castL L) (by rw [castL_len]; exact h)
  rwa [castL_len] at this
theorem insD_cons (s : Nat) (L : List Nat) : ∃ b L', insD s L = b :: L' := by
  cases L with
  | nil => exact ⟨s, [], rfl⟩
  | cons b L =>
    rw [insD]
    split
    · exact ⟨s, b :: L, rfl⟩
    · exact ⟨b, insD s L, rfl⟩
theorem tidied_spec (Q : List Nat) (hQ : Q.length ≤ 12) (hq : ∀ q ∈ Q, q < 65536) : FDet Tryd.prog 52 [.c (.rs 0 0 Q.length)] [(0, .ro (ints (castL Q)))] 1 (tV (tidyD Q).reverse) (tH (tidyD Q).reverse) (tK (tidyD Q).reverse) := by
  have hlen : (ints (castL Q)).length = Q.length := by rw [ints_len, castL_len]
  refine FSpec.of_body tok true Tryd.func52 rfl (by kernel_rfl) (by decide) (by simp [tupA, hpLt, tmLt, AV.lt, AE.lt, AC.lt, LL_cons, LL_nil, idOk, ABlk.lt, ints_LL, GB, pC, castL, tdSt, tV, tH, tK]) (by simp [tupA, hpLt, tmLt, AV.lt, AE.lt, AC.lt, LL_cons, LL_nil, idOk, ABlk.lt, ints_LL, GB, pC, castL, tdSt, tV, tH, tK]) (by show 1 ≤ _; decide) ?_
  refine Wk.on ?_
  refine Tr.loopU (md := true) (X := Nat × List Nat) (tdSt Q) (fun q => q.1 ≤ Q.length ∧ tidyD (Q.take q.1) = q.2) (fun q => Q.length - q.1) (0, []) tok ⟨by omega, rfl⟩ (Under.wk [] ⟨rfl, rfl, Nat.le_of_ble_eq_true rfl, Nat.le_of_ble_eq_true rfl⟩ rfl (by repeat (first | exact trivial | refine ⟨?_, ?_⟩ | exact Or.inl rfl)) (by repeat (first | exact trivial | refine ⟨?_, ?_⟩ | exact Or.inl (congrArg ABlk.ro (ints_ren _ _).symm))) rfl (by simp [tupA, hpLt, tmLt, AV.lt, AE.lt, AC.lt, LL_cons, LL_nil, idOk, ABlk.lt, ints_LL, GB, pC, castL, tdSt, tV, tH, tK]) (by simp [tupA, hpLt, tmLt, AV.lt, AE.lt, AC.lt, LL_cons, LL_nil, idOk, ABlk.lt, ints_LL, GB, pC, castL, tdSt, tV, tH, tK])) ?_
  · rintro ⟨i, L⟩ ⟨hi, htd⟩
    dsimp only at hi htd
    have hLl : L.length ≤ i := by rw [← htd]; exact tidyD_len Q i hi
    have hLs : ∀ b ∈ L, b < 65536 := by rw [← htd]; exact tidyD_lt fun q hm => hq q (List.mem_of_mem_take hm)
    by_cases hil : i < Q.length
    · have hsu := tidyD_succ hil
      have hech := (tidy_all (Q.take (i + 1))).1
      rw [hsu, htd] at hech
      rw [htd] at hsu
      obtain ⟨x, hx⟩ : ∃ x, x = Q.getD i 0 := ⟨_, rfl⟩
      have hx2 : x < 65536 := by
        rw [hx, List.getD_eq_getElem?_getD, List.getElem?_eq_getElem hil]; exact hq _ (List.getElem_mem hil)
      rw [← hx] at hsu hech
      obtain ⟨s, hs⟩ : ∃ s, s = red L x := ⟨_, rfl⟩
      have hs2 : s < 65536 := by rw [hs]; exact red_lt hx2
      rw [tidy1, ← hs] at hsu hech
      obtain ⟨q, hqq⟩ : ∃ q, q = 2 ^ s.log2 := ⟨_, rfl⟩
      rcases L with _ | ⟨b0, L0⟩
      · skip
        have hsx : s = x := hs
        refine Wk.on ?_
        rw [decide_eq_true (show ((i : Nat) : Int) < ((Q.length : Nat) : Int) by omega)]
        refine Wk.on ?_
        rw [show 0 + Int.toNat ((i : Nat) : Int) * 1 = i by rw [Int.toNat_natCast]; omega, ints_getD, castL_getD, ← hx]
        refine Wk.on ?_
        refine Tr.loop (md := true) (X := Unit) (st := fun _ => ⟨[(3, .c .nils), (5, .c (.int .i64 x)), (11, .c (.rs 0 0 Q.length)), (12, .c (.int .i64 Q.length)), (13, .c (.int .i64 i)), (17, .c .nils), (18, .c (.int .i64 0)), (19, .c (.int .i64 0))], [(0, .ro (ints (castL Q)))], 2, 65, 1⟩) (inv := fun _ => True) (μ := fun _ => 0) (x0 := ()) (l := []) tok trivial ?_ ?_
        · exact Sub.nil ⟨rfl, rfl, (by simp [pC, castL, tdSt, tV, tH, tK]), rfl, (by simp [tupA, hpLt, tmLt, AV.lt, AE.lt, AC.lt, LL_cons, LL_nil, idOk, ABlk.lt, ints_LL, GB, pC, castL, tdSt, tV, tH, tK]), (by simp [tupA, hpLt, tmLt, AV.lt, AE.lt, AC.lt, LL_cons, LL_nil, idOk, ABlk.lt, ints_LL, GB, pC, castL, tdSt, tV, tH, tK])⟩ (by (repeat (first | exact trivial | refine ⟨trivial, ?_⟩ | refine ⟨rfl, ?_⟩))) (by (repeat (first | exact trivial | refine ⟨trivial, ?_⟩ | refine ⟨rfl, ?_⟩)))
        intro _ _
        refine Wk.on ?_
        rw [← hsx]
        by_cases hz : s = 0
        · rw [decide_eq_true (show ((s : Nat) : Int) = 0 by omega)]
          refine Wk.on ?_
          rw [if_pos hz] at hsu
          refine Again.under (i + 1, []) ?_ ⟨by omega, hsu⟩ (by show Q.length - (i + 1) < Q.length - i; omega)
          show Under _ ⟨[(3, .c .nils), (11, .c (.rs 0 0 Q.length)), (12, .c (.int .i64 Q.length)), (13, .c (.int .i64 ((i + 1 : Nat) : Int)))], [(0, .ro (ints (castL Q)))], 2, 65, 1⟩
          refine Sub.under (l := []) ?_
          exact Sub.nil ⟨rfl, rfl, (by simp [pC, castL, tdSt, tV, tH, tK]), rfl, (by simp [tupA, hpLt, tmLt, AV.lt, AE.lt, AC.lt, LL_cons, LL_nil, idOk, ABlk.lt, ints_LL, GB, pC, castL, tdSt, tV, tH, tK]), (by simp [tupA, hpLt, tmLt, AV.lt, AE.lt, AC.lt, LL_cons, LL_nil, idOk, ABlk.lt, ints_LL, GB, pC, castL, tdSt, tV, tH, tK])⟩ (by (repeat (first | exact trivial | refine ⟨trivial, ?_⟩ | refine ⟨rfl, ?_⟩))) (by (repeat (first | exact trivial | refine ⟨trivial, ?_⟩ | refine ⟨rfl, ?_⟩)))
        rw [decide_eq_false (show ¬ ((s : Nat) : Int) = 0 by omega)]
        rw [if_neg hz] at hsu hech
        have hwr : IntKind.u64.wrap (s : Int) = s := wrapU (by omega)
        have hlg : s.log2 < 16 := (Nat.log2_lt hz).2 hs2
        have hq2 : q < 65536 := by rw [hqq]; exact Nat.pow_lt_pow_right (n := 16) (by omega) hlg
        have hln : ((lenN s : Nat) : Int) - 1 = ((s.log2 : Nat) : Int) := by rw [lenN, if_neg hz]; omega
        have hwl : IntKind.u64.wrap ((s.log2 : Nat) : Int) = (s.log2 : Nat) := wrapU (by omega)
        have hsh : (1 : Int) * 2 ^ (Int.toNat ((s.log2 : Nat) : Int)) = (q : Int) := by simp [hqq]
        refine Wk.on ?_
        rw [hwr]
        refine CallA.ro [] (.c (.int .i64 (lenN s))) (len_spec hs2) (by first | rfl | exact congrArg AV.g (ints_ren _ _) | (simp [ints_ren, AV.ren, ABlk.ren, AC.ren, AE.ren, qq]; done)) rfl (by (repeat (first | exact trivial | refine ⟨⟨(by first | exact .inl (by decide) | exact .inr (by decide)), (by first | (refine Or.inl ?_; first | rfl | exact congrArg some (ints_ren _ _).symm | exact congrArg ABlk.own (ints_ren _ _).symm | exact congrArg (ABlk.row _ _) (ints_ren _ _).symm | exact congrArg (ABlk.row _ _) (app_lie _ _ _)) | rfl | exact congrArg some (ints_ren _ _).symm | exact congrArg ABlk.own (ints_ren _ _).symm | exact congrArg (ABlk.row _ _) (ints_ren _ _).symm | exact congrArg (ABlk.row _ _) (app_lie _ _ _) | exact Or.inr ⟨rfl, rfl⟩)⟩, ?_⟩))) (by first | rfl | exact congrArg AV.g (ints_ren _ _) | (simp [ints_ren, AV.ren, ABlk.ren, AC.ren, AE.ren, qq]; done)) ?_
        refine Wk.on ?_
        rw [hln]
        refine Wk.on ?_
        rw [hwl]
        refine Wk.on ?_
        rw [hsh]
        refine Wk.on ?_
        refine Tr.loop (md := true) (X := Unit) (st := fun _ => ⟨[(3, .c .nils), (5, .c (.int .i64 s)), (8, .c (.int .i64 q)), (11, .c (.rs 0 0 Q.length)), (12, .c (.int .i64 Q.length)), (13, .c (.int .i64 i)), (37, .c .nils), (38, .c (.int .i64 0)), (39, .c (.int .i64 0))], [(0, .ro (ints (castL Q)))], 2, 65, 1⟩) (inv := fun _ => True) (μ := fun _ => 0) (x0 := ()) (l := []) tok trivial ?_ ?_
        · exact Sub.nil ⟨rfl, rfl, (by simp [pC, castL, tdSt, tV, tH, tK]), rfl, (by simp [tupA, hpLt, tmLt, AV.lt, AE.lt, AC.lt, LL_cons, LL_nil, idOk, ABlk.lt, ints_LL, GB, pC, castL, tdSt, tV, tH, tK]), (by simp [tupA, hpLt, tmLt, AV.lt, AE.lt, AC.lt, LL_cons, LL_nil, idOk, ABlk.lt, ints_LL, GB, pC, castL, tdSt, tV, tH, tK])⟩ (by (repeat (first | exact trivial | refine ⟨trivial, ?_⟩ | refine ⟨rfl, ?_⟩))) (by (repeat (first | exact trivial | refine ⟨trivial, ?_⟩ | refine ⟨rfl, ?_⟩)))
        intro _ _
        refine Wk.on ?_
        refine CallA.det [3] (.t []) ([(2, .own [.int .i64 s]), (0, .ro (ints (castL Q))), (3, .row 3 1 (ints (isort desc (castL ([] ++ [s])))))]) (SortFunc_spec (castL [s]) (by simp [castL]) (fun y hy => by rw [castL, List.map_cons, List.map_nil, List.mem_singleton] at hy; subst hy; constructor; exact Int.natCast_nonneg _; exact Int.ofNat_lt.2 hs2)) (by first | rfl | exact congrArg AV.g (ints_ren _ _) | (simp [ints_ren, AV.ren, ABlk.ren, AC.ren, AE.ren, qq]; done)) rfl (by (repeat (first | exact trivial | refine ⟨⟨(by first | exact .inl (by decide) | exact .inr (by decide)), (by first | (refine Or.inl ?_; first | rfl | exact congrArg some (ints_ren _ _).symm | exact congrArg ABlk.own (ints_ren _ _).symm | exact congrArg (ABlk.row _ _) (ints_ren _ _).symm | exact congrArg (ABlk.row _ _) (app_lie _ _ _)) | rfl | exact congrArg some (ints_ren _ _).symm | exact congrArg ABlk.own (ints_ren _ _).symm | exact congrArg (ABlk.row _ _) (ints_ren _ _).symm | exact congrArg (ABlk.row _ _) (app_lie _ _ _) | exact Or.inr ⟨rfl, rfl⟩)⟩, ?_⟩))) (by first | rfl | exact congrArg AV.g (ints_ren _ _) | (simp [ints_ren, AV.ren, ABlk.ren, AC.ren, AE.ren, qq]; done)) (by first | rfl | (simp [behind, gone, lk, up, del, qq, ABlk.wr, GB, ints_ren, AV.ren, ABlk.ren, AC.ren, AE.ren]; done) | (simp [behind, gone, lk, up, del, qq, ABlk.wr, GB, ints_ren, AV.ren, ABlk.ren, AC.ren, AE.ren]; rfl)) ?_
        rw [isort_insD (L := []) hech]
        refine Wk.on ?_
        exact Again.mk (i + 1, [s]) (Sub.new [(1, 3)] ⟨rfl, rfl, Nat.le_of_ble_eq_true rfl, Nat.le_of_ble_eq_true rfl⟩ rfl (by (repeat (first | exact trivial | refine ⟨trivial, ?_⟩ | refine ⟨rfl, ?_⟩))) ⟨by show some (ABlk.ro (ints (castL Q))) = some (ABlk.ro ((ints (castL Q)).map _)); rw [ints_ren], by show some (ABlk.row 3 1 _) = some (ABlk.row 3 1 ((ints _).map _)); rw [ints_ren]; rfl, trivial⟩ rfl (by simp [tupA, hpLt, tmLt, AV.lt, AE.lt, AC.lt, LL_cons, LL_nil, idOk, ABlk.lt, ints_LL, GB, pC, castL, tdSt, tV, tH, tK]) (by simp [tupA, hpLt, tmLt, AV.lt, AE.lt, AC.lt, LL_cons, LL_nil, idOk, ABlk.lt, ints_LL, GB, pC, castL, tdSt, tV, tH, tK])) ⟨by omega, hsu⟩ (by show Q.length - (i + 1) < Q.length - i; omega)
      · skip
        generalize hLL : b0 :: L0 = L at *
        have hll : (ints (castL L)).length = L.length := by rw [ints_len, castL_len]
        have hst : ∀ i : Nat, tdSt Q (i, L) = ⟨[(3, .c (.row 1 L.length)), (11, .c (.rs 0 0 Q.length)), (12, .c (.int .i64 Q.length)), (13, .c (.int .i64 i))], [(0, .ro (ints (castL Q))), (1, .row 3 1 (ints (castL L)))], 2, 65, 1⟩ := fun i => by rw [← hLL]; rfl
        rw [hst]
        refine Wk.on ?_
        rw [decide_eq_true (show ((i : Nat) : Int) < ((Q.length : Nat) : Int) by omega)]
        refine Wk.on ?_
        rw [show 0 + Int.toNat ((i : Nat) : Int) * 1 = i by rw [Int.toNat_natCast]; omega, ints_getD, castL_getD, ← hx]
        refine Wk.on ?_
        refine Tr.loop (md := true) (X := Nat) (st := fun k => ⟨[(3, .c (.row 1 L.length)), (5, .c (.int .i64 (red (L.take k) x : Nat))), (11, .c (.rs 0 0 Q.length)), (12, .c (.int .i64 Q.length)), (13, .c (.int .i64 i)), (17, .c (.row 1 L.length)), (18, .c (.int .i64 L.length)), (19, .c (.int .i64 k))], [(0, .ro (ints (castL Q))), (1, .row 3 1 (ints (castL L)))], 2, 65, 1⟩) (inv := fun k => k ≤ L.length) (μ := fun k => L.length - k) (x0 := 0) (l := []) tok (by omega) ?_ ?_
        · exact Sub.nil ⟨rfl, rfl, (by simp [pC, castL, tdSt, tV, tH, tK]), rfl, (by simp [tupA, hpLt, tmLt, AV.lt, AE.lt, AC.lt, LL_cons, LL_nil, idOk, ABlk.lt, ints_LL, GB, pC, castL, tdSt, tV, tH, tK]), (by simp [tupA, hpLt, tmLt, AV.lt, AE.lt, AC.lt, LL_cons, LL_nil, idOk, ABlk.lt, ints_LL, GB, pC, castL, tdSt, tV, tH, tK])⟩ (by (repeat (first | exact trivial | refine ⟨trivial, ?_⟩ | refine ⟨rfl, ?_⟩))) (by (repeat (first | exact trivial | refine ⟨trivial, ?_⟩ | refine ⟨rfl, ?_⟩)))
        intro k hk
        by_cases hkl : k < L.length
        · have hrt := red_take hkl x
          have hy2 : red (L.take k) x < 65536 := red_lt hx2
          obtain ⟨y, hy⟩ : ∃ y, y = red (L.take k) x := ⟨_, rfl⟩
          obtain ⟨b, hb⟩ : ∃ b, b = L.getD k 0 := ⟨_, rfl⟩
          have hb2 : b < 65536 := by
            rw [hb, List.getD_eq_getElem?_getD, List.getElem?_eq_getElem hkl]; exact hLs _ (List.getElem_mem hkl)
          rw [← hy, ← hb] at hrt
          rw [← hy] at hy2 ⊢
          refine Wk.on ?_
          rw [decide_eq_true (show ((k : Nat) : Int) < ((L.length : Nat) : Int) by omega)]
          refine Wk.on ?_
          rw [show Int.toNat ((k : Nat) : Int) * 1 = k by rw [Int.toNat_natCast]; omega, ints_getD, castL_getD, ← hb]
          refine Wk.on ?_
          have hmin : min ((y : Nat) : Int) ((Int.toNat ((y : Nat) : Int) ^^^ Int.toNat ((b : Nat) : Int) : Nat) : Int) = ((red (L.take (k + 1)) x : Nat) : Int) := by
            rw [hrt, Int.toNat_natCast, Int.toNat_natCast]
            split <;> omega
          rw [hmin]
          refine Wk.on ?_
          refine Again.mk (k + 1) (Sub.nil ⟨rfl, rfl, (by simp [pC, castL, tdSt, tV, tH, tK]), rfl, (by simp [tupA, hpLt, tmLt, AV.lt, AE.lt, AC.lt, LL_cons, LL_nil, idOk, ABlk.lt, ints_LL, GB, pC, castL, tdSt, tV, tH, tK]), (by simp [tupA, hpLt, tmLt, AV.lt, AE.lt, AC.lt, LL_cons, LL_nil, idOk, ABlk.lt, ints_LL, GB, pC, castL, tdSt, tV, tH, tK])⟩ (by (repeat (first | exact trivial | refine ⟨trivial, ?_⟩ | refine ⟨rfl, ?_⟩))) (by (repeat (first | exact trivial | refine ⟨trivial, ?_⟩ | refine ⟨rfl, ?_⟩)))) (by omega) (by omega)
        obtain rfl : k = L.length := by omega
        rw [List.take_of_length_le (Nat.le_refl _), ← hs]
        refine Wk.on ?_
        rw [decide_eq_false (show ¬ ((L.length : Nat) : Int) < ((L.length : Nat) : Int) by omega)]
        refine Wk.on ?_
        intro _
        refine Wk.on ?_
        by_cases hz : s = 0
        · rw [decide_eq_true (show ((s : Nat) : Int) = 0 by omega)]
          refine Wk.on ?_
          rw [if_pos hz] at hsu
          refine Again.under (i + 1, L) ?_ ⟨by omega, hsu⟩ (by show Q.length - (i + 1) < Q.length - i; omega)
          rw [hst]
          refine Sub.under (l := []) ?_
          exact Sub.nil ⟨rfl, rfl, (by simp [pC, castL, tdSt, tV, tH, tK]), rfl, (by simp [tupA, hpLt, tmLt, AV.lt, AE.lt, AC.lt, LL_cons, LL_nil, idOk, ABlk.lt, ints_LL, GB, pC, castL, tdSt, tV, tH, tK]), (by simp [tupA, hpLt, tmLt, AV.lt, AE.lt, AC.lt, LL_cons, LL_nil, idOk, ABlk.lt, ints_LL, GB, pC, castL, tdSt, tV, tH, tK])⟩ (by (repeat (first | exact trivial | refine ⟨trivial, ?_⟩ | refine ⟨rfl, ?_⟩))) (by (repeat (first | exact trivial | refine ⟨trivial, ?_⟩ | refine ⟨rfl, ?_⟩)))
        rw [decide_eq_false (show ¬ ((s : Nat) : Int) = 0 by omega)]
        rw [if_neg hz] at hsu hech
        have hwr : IntKind.u64.wrap (s : Int) = s := wrapU (by omega)
        have hlg : s.log2 < 16 := (Nat.log2_lt hz).2 hs2
        have hq2 : q < 65536 := by rw [hqq]; exact Nat.pow_lt_pow_right (n := 16) (by omega) hlg
        have hln : ((lenN s : Nat) : Int) - 1 = ((s.log2 : Nat) : Int) := by rw [lenN, if_neg hz]; omega
        have hwl : IntKind.u64.wrap ((s.log2 : Nat) : Int) = (s.log2 : Nat) := wrapU (by omega)
        have hsh : (1 : Int) * 2 ^ (Int.toNat ((s.log2 : Nat) : Int)) = (q : Int) := by simp [hqq]
        refine Wk.on ?_
        rw [hwr]
        refine CallA.ro [] (.c (.int .i64 (lenN s))) (len_spec hs2) (by first | rfl | exact congrArg AV.g (ints_ren _ _) | (simp [ints_ren, AV.ren, ABlk.ren, AC.ren, AE.ren, qq]; done)) rfl (by (repeat (first | exact trivial | refine ⟨⟨(by first | exact .inl (by decide) | exact .inr (by decide)), (by first | (refine Or.inl ?_; first | rfl | exact congrArg some (ints_ren _ _).symm | exact congrArg ABlk.own (ints_ren _ _).symm | exact congrArg (ABlk.row _ _) (ints_ren _ _).symm | exact congrArg (ABlk.row _ _) (app_lie _ _ _)) | rfl | exact congrArg some (ints_ren _ _).symm | exact congrArg ABlk.own (ints_ren _ _).symm | exact congrArg (ABlk.row _ _) (ints_ren _ _).symm | exact congrArg (ABlk.row _ _) (app_lie _ _ _) | exact Or.inr ⟨rfl, rfl⟩)⟩, ?_⟩))) (by first | rfl | exact congrArg AV.g (ints_ren _ _) | (simp [ints_ren, AV.ren, ABlk.ren, AC.ren, AE.ren, qq]; done)) ?_
        refine Wk.on ?_
        rw [hln]
        refine Wk.on ?_
        rw [hwl]
        refine Wk.on ?_
        rw [hsh]
        refine Wk.on ?_
        obtain ⟨M, hM⟩ : ∃ M, M = clr s L := ⟨_, rfl⟩
        have hMl : M.length = L.length := by rw [hM, clr_len]
        refine Tr.loop (md := true) (X := Nat) (st := fun k => ⟨[(3, .c (.row 1 L.length)), (5, .c (.int .i64 s)), (8, .c (.int .i64 q)), (11, .c (.rs 0 0 Q.length)), (12, .c (.int .i64 Q.length)), (13, .c (.int .i64 i)), (37, .c (.row 1 L.length)), (38, .c (.int .i64 L.length)), (39, .c (.int .i64 k))], [(0, .ro (ints (castL Q))), (1, .row 3 1 (ints (castL (mix M L k))))], 2, 65, 1⟩) (inv := fun k => k ≤ L.length) (μ := fun k => L.length - k) (x0 := 0) (l := []) tok (by omega) ?_ ?_
        · exact Sub.nil ⟨rfl, rfl, (by simp [pC, castL, tdSt, tV, tH, tK]), rfl, (by simp [tupA, hpLt, tmLt, AV.lt, AE.lt, AC.lt, LL_cons, LL_nil, idOk, ABlk.lt, ints_LL, GB, pC, castL, tdSt, tV, tH, tK]), (by simp [tupA, hpLt, tmLt, AV.lt, AE.lt, AC.lt, LL_cons, LL_nil, idOk, ABlk.lt, ints_LL, GB, pC, castL, tdSt, tV, tH, tK])⟩ (by (repeat (first | exact trivial | refine ⟨trivial, ?_⟩ | refine ⟨rfl, ?_⟩))) (by (repeat (first | exact trivial | refine ⟨trivial, ?_⟩ | refine ⟨rfl, ?_⟩)))
        intro k hk
        have hml := mix_len hMl hk
        have hmi : (ints (castL (mix M L k))).length = L.length := by rw [ints_len, castL_len, hml]
        by_cases hkl : k < L.length
        · obtain ⟨b, hb⟩ : ∃ b, b = L.getD k 0 := ⟨_, rfl⟩
          have hb2 : b < 65536 := by
            rw [hb, List.getD_eq_getElem?_getD, List.getElem?_eq_getElem hkl]; exact hLs _ (List.getElem_mem hkl)
          have hcl := clr_getD (s := s) hkl
          rw [← hM, ← hb] at hcl
          refine Wk.on ?_
          rw [decide_eq_true (show ((k : Nat) : Int) < ((L.length : Nat) : Int) by omega)]
          refine Wk.on ?_
          rw [show Int.toNat ((k : Nat) : Int) * 1 = k by rw [Int.toNat_natCast]; omega, ints_getD, castL_getD, mix_get hMl hkl, ← hb]
          refine Wk.on ?_
          rw [show decide (¬ ((Int.toNat ((b : Nat) : Int) &&& Int.toNat ((q : Nat) : Int) : Nat) : Int) = 0) = b.testBit s.log2 by
            rw [← and_bit, Int.toNat_natCast, Int.toNat_natCast, hqq]; exact decide_eq_decide.2 (by omega)]
          by_cases hbt : b.testBit s.log2 = true
          · rw [if_pos hbt] at hcl
            rw [hbt]
            refine Wk.on ?_
            rw [show Int.toNat ((k : Nat) : Int) * 1 = k by rw [Int.toNat_natCast]; omega]
            rw [Int.toNat_natCast, Int.toNat_natCast, ints_set, ← hcl, mix_set hMl hkl]
            refine Again.mk (k + 1) (Sub.nil ⟨rfl, rfl, (by simp [pC, castL, tdSt, tV, tH, tK]), rfl, (by simp [tupA, hpLt, tmLt, AV.lt, AE.lt, AC.lt, LL_cons, LL_nil, idOk, ABlk.lt, ints_LL, GB, pC, castL, tdSt, tV, tH, tK]), (by simp [tupA, hpLt, tmLt, AV.lt, AE.lt, AC.lt, LL_cons, LL_nil, idOk, ABlk.lt, ints_LL, GB, pC, castL, tdSt, tV, tH, tK])⟩ (by (repeat (first | exact trivial | refine ⟨trivial, ?_⟩ | refine ⟨rfl, ?_⟩))) (by (repeat (first | exact trivial | refine ⟨trivial, ?_⟩ | refine ⟨rfl, ?_⟩)))) (by omega) (by omega)
          · rw [if_neg hbt] at hcl
            rw [Bool.eq_false_iff.2 hbt]
            refine Wk.on ?_
            rw [← mix_same hMl hkl (by rw [hcl, hb])]
            refine Again.mk (k + 1) (Sub.nil ⟨rfl, rfl, (by simp [pC, castL, tdSt, tV, tH, tK]), rfl, (by simp [tupA, hpLt, tmLt, AV.lt, AE.lt, AC.lt, LL_cons, LL_nil, idOk, ABlk.lt, ints_LL, GB, pC, castL, tdSt, tV, tH, tK]), (by simp [tupA, hpLt, tmLt, AV.lt, AE.lt, AC.lt, LL_cons, LL_nil, idOk, ABlk.lt, ints_LL, GB, pC, castL, tdSt, tV, tH, tK])⟩ (by (repeat (first | exact trivial | refine ⟨trivial, ?_⟩ | refine ⟨rfl, ?_⟩))) (by (repeat (first | exact trivial | refine ⟨trivial, ?_⟩ | refine ⟨rfl, ?_⟩)))) (by omega) (by omega)
        obtain rfl : k = L.length := by omega
        rw [show mix M L L.length = M by rw [mix, ← hMl, List.take_of_length_le (Nat.le_refl _), List.drop_of_length_le (by omega), List.append_nil]] at *
        have hmi2 : (ints (castL M)).length = L.length := by rw [ints_len, castL_len, hMl]
        refine Wk.on ?_
        rw [decide_eq_false (show ¬ ((L.length : Nat) : Int) < ((L.length : Nat) : Int) by omega)]
        refine Wk.on ?_
        intro _
        refine Wk.on ?_
        refine ⟨⟨Nat.le_of_ble_eq_true rfl, rfl, rfl, by rw [hmi2]; show L.length = L.length * 1; omega, by show ((L.length + 1 : Nat) : Int) * 8 ≤ _; omega, by omega⟩, ?_⟩
        refine Wk.on ?_
        rw [← hM] at hsu hech
        have hsf : FDet Tryd.prog 72 [.c (.row 0 (L.length + 1)), .c (.fn 73 [] [])] [(0, .row 3 1 (ints (castL (M ++ [s]))))] 1 (.t []) [(0, .row 3 1 (ints (castL (insD s M))))] 1 := by
          have := SortFunc_spec (castL (M ++ [s])) (by rw [castL_len, List.length_append, List.length_singleton, hMl]; omega) (fun y hy => by
            rw [castL, List.mem_map] at hy
            obtain ⟨z, hz2, rfl⟩ := hy
            have hz3 : z < 65536 := by
              rcases List.mem_append.1 hz2 with h1 | h1
              · exact insD_lt hsu hq z (by rw [(insD_perm s M).mem_iff]; exact List.mem_cons_of_mem _ h1)
              · rw [List.mem_singleton.1 h1]; exact hs2
            exact ⟨Int.natCast_nonneg _, Int.ofNat_lt.2 hz3⟩)
          rw [isort_insD hech, castL_len, List.length_append, List.length_singleton, hMl] at this
          exact this
        refine CallA.det [3] (.t []) ([(2, .own [.int .i64 s]), (0, .ro (ints (castL Q))), (3, .row 3 1 (ints (castL (insD s M))))]) (hsf) (by first | rfl | exact congrArg AV.g (ints_ren _ _) | (simp [ints_ren, AV.ren, ABlk.ren, AC.ren, AE.ren, qq]; done)) rfl (by (repeat (first | exact trivial | refine ⟨⟨(by first | exact .inl (by decide) | exact .inr (by decide)), (by first | (refine Or.inl ?_; first | rfl | exact congrArg some (ints_ren _ _).symm | exact congrArg ABlk.own (ints_ren _ _).symm | exact congrArg (ABlk.row _ _) (ints_ren _ _).symm | exact congrArg (ABlk.row _ _) (app_lie _ _ _)) | rfl | exact congrArg some (ints_ren _ _).symm | exact congrArg ABlk.own (ints_ren _ _).symm | exact congrArg (ABlk.row _ _) (ints_ren _ _).symm | exact congrArg (ABlk.row _ _) (app_lie _ _ _) | exact Or.inr ⟨rfl, rfl⟩)⟩, ?_⟩))) (by first | rfl | exact congrArg AV.g (ints_ren _ _) | (simp [ints_ren, AV.ren, ABlk.ren, AC.ren, AE.ren, qq]; done)) (by first | rfl | (simp [behind, gone, lk, up, del, qq, ABlk.wr, GB, ints_ren, AV.ren, ABlk.ren, AC.ren, AE.ren]; done) | (simp [behind, gone, lk, up, del, qq, ABlk.wr, GB, ints_ren, AV.ren, ABlk.ren, AC.ren, AE.ren]; rfl)) ?_
        refine Wk.on ?_
        obtain ⟨b2, B2, hB2⟩ := insD_cons s M
        have hl2 : L.length + 1 = (b2 :: B2).length := by rw [← hB2, (insD_perm s M).length_eq, List.length_cons, hMl]
        exact Again.mk (i + 1, b2 :: B2) (Sub.new [(1, 3)] ⟨rfl, rfl, Nat.le_of_ble_eq_true rfl, Nat.le_of_ble_eq_true rfl⟩ rfl ⟨by rw [hl2]; rfl, rfl, rfl, rfl, trivial⟩ ⟨by show some (ABlk.ro (ints (castL Q))) = some (ABlk.ro ((ints (castL Q)).map _)); rw [ints_ren], by show some (ABlk.row 3 1 _) = some (ABlk.row 3 1 ((ints _).map _)); rw [ints_ren, hB2], trivial⟩ rfl (by simp [tupA, hpLt, tmLt, AV.lt, AE.lt, AC.lt, LL_cons, LL_nil, idOk, ABlk.lt, ints_LL, GB, pC, castL, tdSt, tV, tH, tK]) (by simp [tupA, hpLt, tmLt, AV.lt, AE.lt, AC.lt, LL_cons, LL_nil, idOk, ABlk.lt, ints_LL, GB, pC, castL, tdSt, tV, tH, tK])) ⟨by omega, by rw [hsu, hB2]⟩ (by show Q.length - (i + 1) < Q.length - i; omega)
    · obtain rfl : i = Q.length := by omega
      rw [List.take_of_length_le (Nat.le_refl _)] at htd
      have hech := (tidy_all Q).1
      rw [htd] at hech ⊢
      have hrv := isort_rev hech
      rcases L with _ | ⟨b0, L0⟩
      · refine Wk.on ?_
        rw [decide_eq_false (show ¬ ((Q.length : Nat) : Int) < ((Q.length : Nat) : Int) by omega)]
        refine Wk.on ?_
        intro _
        refine Wk.on ?_
        refine CallA.ro [] (.t []) (Sort_nil) (by first | rfl | exact congrArg AV.g (ints_ren _ _) | (simp [ints_ren, AV.ren, ABlk.ren, AC.ren, AE.ren, qq]; done)) rfl (by (repeat (first | exact trivial | refine ⟨⟨(by first | exact .inl (by decide) | exact .inr (by decide)), (by first | (refine Or.inl ?_; first | rfl | exact congrArg some (ints_ren _ _).symm | exact congrArg ABlk.own (ints_ren _ _).symm | exact congrArg (ABlk.row _ _) (ints_ren _ _).symm | exact congrArg (ABlk.row _ _) (app_lie _ _ _)) | rfl | exact congrArg some (ints_ren _ _).symm | exact congrArg ABlk.own (ints_ren _ _).symm | exact congrArg (ABlk.row _ _) (ints_ren _ _).symm | exact congrArg (ABlk.row _ _) (app_lie _ _ _) | exact Or.inr ⟨rfl, rfl⟩)⟩, ?_⟩))) (by first | rfl | exact congrArg AV.g (ints_ren _ _) | (simp [ints_ren, AV.ren, ABlk.ren, AC.ren, AE.ren, qq]; done)) ?_
        refine Wk.on ?_
        exact AH.Fin.nil [] ⟨rfl, rfl, rfl⟩ (by first | exact trivial | (simp [tupA, hpLt, tmLt, AV.lt, AE.lt, AC.lt, LL_cons, LL_nil, idOk, ABlk.lt, ints_LL, GB, pC, castL, tdSt, tV, tH, tK]; done) | (simp [tupA, hpLt, tmLt, AV.lt, AE.lt, AC.lt, LL_cons, LL_nil, idOk, ABlk.lt, ints_LL, GB, pC, castL, tdSt, tV, tH, tK, rdn, wrn]; done)) trivial trivial rfl (by simp [GB])
      · refine Wk.on ?_
        rw [decide_eq_false (show ¬ ((Q.length : Nat) : Int) < ((Q.length : Nat) : Int) by omega)]
        refine Wk.on ?_
        intro _
        refine Wk.on ?_
        refine CallA.det [1] (.t []) ([(0, .ro (ints (castL Q))), (1, .row 3 1 (ints (isort asc (castL (b0 :: L0)))))]) (srt (b0 :: L0) (by omega)) (by first | rfl | exact congrArg AV.g (ints_ren _ _) | (simp [ints_ren, AV.ren, ABlk.ren, AC.ren, AE.ren, qq]; done)) rfl (by (repeat (first | exact trivial | refine ⟨⟨(by first | exact .inl (by decide) | exact .inr (by decide)), (by first | (refine Or.inl ?_; first | rfl | exact congrArg some (ints_ren _ _).symm | exact congrArg ABlk.own (ints_ren _ _).symm | exact congrArg (ABlk.row _ _) (ints_ren _ _).symm | exact congrArg (ABlk.row _ _) (app_lie _ _ _)) | rfl | exact congrArg some (ints_ren _ _).symm | exact congrArg ABlk.own (ints_ren _ _).symm | exact congrArg (ABlk.row _ _) (ints_ren _ _).symm | exact congrArg (ABlk.row _ _) (app_lie _ _ _) | exact Or.inr ⟨rfl, rfl⟩)⟩, ?_⟩))) (by first | rfl | exact congrArg AV.g (ints_ren _ _) | (simp [ints_ren, AV.ren, ABlk.ren, AC.ren, AE.ren, qq]; done)) (by first | rfl | (simp [behind, gone, lk, up, del, qq, ABlk.wr, GB, ints_ren, AV.ren, ABlk.ren, AC.ren, AE.ren]; done) | (simp [behind, gone, lk, up, del, qq, ABlk.wr, GB, ints_ren, AV.ren, ABlk.ren, AC.ren, AE.ren]; rfl)) ?_
        rw [hrv]
        obtain ⟨b2, L2, hbl⟩ : ∃ b2 L2, (b0 :: L0).reverse = b2 :: L2 := by
          cases e : (b0 :: L0).reverse with
          | nil => simp at e
          | cons b L => exact ⟨b, L, rfl⟩
        have hll2 : (b2 :: L2).length = (b0 :: L0).length := by rw [← hbl, List.length_reverse]
        rw [hbl]
        refine Wk.on ?_
        rw [← hll2]
        exact AH.Fin.new [1] _ _ ⟨rfl, rfl, rfl⟩ rfl ⟨by show some (ABlk.row 3 1 _) = some (ABlk.row 3 1 ((ints _).map _)); rw [ints_ren], trivial⟩ rfl (by simp [tupA, hpLt, tmLt, AV.lt, AE.lt, AC.lt, LL_cons, LL_nil, idOk, ABlk.lt, ints_LL, GB, pC, castL, tdSt, tV, tH, tK]) (by simp [tupA, hpLt, tmLt, AV.lt, AE.lt, AC.lt, LL_cons, LL_nil, idOk, ABlk.lt, ints_LL, GB, pC, castL, tdSt, tV, tH, tK])
end Go.Proofs.YtimknijehaamlaaDoor
