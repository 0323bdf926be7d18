/-
  The law SwitchReplies, as a contract.
-/
import Derived.Test.YtfphkpdobbffeaaDoorSw7
import Derived.Test.YtfphkpdobbffeaaDoorAh5
set_option linter.unusedSimpArgs false
set_option linter.unusedVariables false
namespace Go.Proofs.YtfphkpdobbffeaaDoor
open Go Go.AH
set_option maxRecDepth 100000
set_option maxHeartbeats 2000000


def loopIn : Code → Option Code
  | .loop c => some c
  | .seq a b => match loopIn a with | some c => some c | none => loopIn b
  | .cond _ a b => match loopIn a with | some c => some c | none => loopIn b
  | .block _ c => loopIn c
  | .scope c => loopIn c
  | _ => none
/-- The law's loop. -/
def loopOf : Option Code → Code
  | some c => match loopIn c with | some c => c | none => .skip
  | none => .skip
def repSt (g : Gm) : Nat × List Int × List Int × Int → AS := fun (i, M0, M1, cut) => ⟨[(2, .c (.int .i64 cut)), (7, .c (.ptr 6 0)), (8, .c (.ptr 8 0)), (9, .c (.ptr 11 0)), (10, .c (.int .i64 i))], [(5, wB g), (6, .own (gC g 5)), (7, wB g), (8, .own (gC g 7)), (9, .ro (ints M0)), (10, .ro (ints M1)), (11, .own [.rs 9 0 M0.length, .rs 10 0 M1.length]), (100002, .ro tab64), (100000, noneB)], 12, 144, 3⟩
def repInv : Nat × List Int × List Int × Int → Prop := fun (i, M0, M1, _) => i ≤ 2 ∧ M0.length ≤ 12 ∧ M1.length ≤ 12
def repMu : Nat × List Int × List Int × Int → Nat := fun q => 2 - q.1
theorem Trees_none {g : Gm} (hg : g.game) (h : treesF g (alT g) = none) : FDet Tryd.prog 25 [.g (gC g 0)] [(0, wB g), (100002, .ro tab64), (100000, noneB)] 1 (.t [.g [.nils, .nils], .c (.bool false), .c (.int .i64 0)]) [] 1 := by
  have := Trees_spec hg
  rw [h] at this
  exact this
theorem Trees_some {g : Gm} (hg : g.game) {a b : Nat} (h : treesF g (alT g) = some (a, b)) : FDet Tryd.prog 25 [.g (gC g 0)] [(0, wB g), (100002, .ro tab64), (100000, noneB)] 1 (.t [.g [.rs 1 0 (mem a).length, .rs 2 0 (mem b).length], .c (.bool true), .c (.int .i64 0)]) [(1, .row 3 1 (ints (mem a))), (2, .row 3 1 (ints (mem b)))] 3 := by
  have := Trees_spec hg
  rw [h] at this
  exact FDet.post this _ _ ⟨.inr ⟨⟨⟨rfl, rfl, rfl⟩, trivial⟩, ⟨⟨rfl, rfl, rfl⟩, trivial⟩, trivial⟩, rfl, rfl, trivial⟩ ⟨⟨⟨rfl, rfl⟩, .inl rfl⟩, ⟨⟨rfl, rfl⟩, .inl rfl⟩, trivial⟩ (by simp [tupA, hpLt, tmLt, AV.lt, AE.lt, AC.lt, LL_cons, LL_nil, idOk, ABlk.lt, ints_LL, GB, treesK, repSt, tab64_LL, gC, wB, giC, noneB, gst, tC, pC, gN, gR, rC, rB]) (by simp [tupA, hpLt, tmLt, AV.lt, AE.lt, AC.lt, LL_cons, LL_nil, idOk, ABlk.lt, ints_LL, GB, treesK, repSt, tab64_LL, gC, wB, giC, noneB, gst, tC, pC, gN, gR, rC, rB]) rfl
def ofK (c : Int) (M : List Int) (j prev : Int) (k : Nat) : Int := if c ∈ M.take k then j else prev
theorem ofK_succ (c : Int) (M : List Int) (j prev : Int) {k : Nat} (h : k < M.length) : ofK c M j prev (k + 1) = if M.getD k 0 = c then j else ofK c M j prev k := by
  have e : M.getD k 0 = M[k] := by simp [List.getD_eq_getElem?_getD, List.getElem?_eq_getElem h]
  have hm : c ∈ M.take (k + 1) ↔ c ∈ M.take k ∨ c = M[k] := by
    rw [List.take_add_one, List.getElem?_eq_getElem h]
    simp only [Option.toList_some, List.mem_append, List.mem_singleton]
  unfold ofK
  rw [e]
  by_cases h1 : M[k] = c
  · rw [if_pos h1, if_pos (hm.2 (.inr h1.symm))]
  · rw [if_neg h1]
    by_cases h2 : c ∈ M.take k
    · rw [if_pos h2, if_pos (hm.2 (.inl h2))]
    · rw [if_neg h2, if_neg (fun h => (hm.1 h).elim h2 fun h => h1 h.symm)]
def ofT (c : Int) (M0 M1 : List Int) : Nat → Int
  | 0 => -1
  | 1 => ofK c M0 0 (-1) M0.length
  | _ => ofK c M1 1 (ofK c M0 0 (-1) M0.length) M1.length
theorem ofT_two (c : Int) (M0 M1 : List Int) : ofT c M0 M1 2 = if c ∈ M1 then 1 else if c ∈ M0 then 0 else -1 := by
  simp [ofT, ofK]
theorem few_nil : FDet Tryd.prog 32 [.c (.rs 0 0 0), .c (.int .i64 12)] [(0, .ro [])] 1 (.c .nils) [] 1 := by
  refine FSpec.of_body tok true Tryd.func32 rfl (by kernel_rfl) (by decide) (by simp [tupA, hpLt, tmLt, AV.lt, AE.lt, AC.lt, LL_cons, LL_nil, idOk, ABlk.lt, ints_LL, GB, treesK, repSt, tab64_LL, gC, wB, giC, noneB, gst, tC, pC, gN, gR, rC, rB]) (by simp [tupA, hpLt, tmLt, AV.lt, AE.lt, AC.lt, LL_cons, LL_nil, idOk, ABlk.lt, ints_LL, GB, treesK, repSt, tab64_LL, gC, wB, giC, noneB, gst, tC, pC, gN, gR, rC, rB]) (by show 2 ≤ _; decide) ?_
  (conv => whnf); (repeat ((first | (refine ⟨rfl, ?_⟩) | (refine ⟨trivial, ?_⟩) | (refine Wk.yes ?_) | (refine Wk.no ?_) | (refine Wk.and ?_)); (conv => whnf)))
  exact AH.Fin.nil [] ⟨rfl, rfl, rfl⟩ (by first | exact trivial | (simp [tupA, hpLt, tmLt, AV.lt, AE.lt, AC.lt, LL_cons, LL_nil, idOk, ABlk.lt, ints_LL, GB, treesK, repSt, tab64_LL, gC, wB, giC, noneB, gst, tC, pC, gN, gR, rC, rB]; done) | (simp [tupA, hpLt, tmLt, AV.lt, AE.lt, AC.lt, LL_cons, LL_nil, idOk, ABlk.lt, ints_LL, GB, treesK, repSt, tab64_LL, gC, wB, giC, noneB, gst, tC, pC, gN, gR, rC, rB, rdn, wrn]; done)) trivial trivial rfl (by simp [GB])
theorem few_row (L : List Int) (hL : L.length ≤ 9223372036854775807) (h0 : L ≠ []) : FDet Tryd.prog 32 [.c (.rs 0 0 L.length), .c (.int .i64 12)] [(0, .ro (ints L))] 1 (.c (.row 1 (L.take 12).length)) [(1, .row 3 1 (ints (L.take 12)))] 2 := by
  have hp := List.length_pos_iff.2 h0
  refine FSpec.of_body tok true Tryd.func32 rfl (by kernel_rfl) (by decide) (by simp [tupA, hpLt, tmLt, AV.lt, AE.lt, AC.lt, LL_cons, LL_nil, idOk, ABlk.lt, ints_LL, GB, treesK, repSt, tab64_LL, gC, wB, giC, noneB, gst, tC, pC, gN, gR, rC, rB]) (by simp [tupA, hpLt, tmLt, AV.lt, AE.lt, AC.lt, LL_cons, LL_nil, idOk, ABlk.lt, ints_LL, GB, treesK, repSt, tab64_LL, gC, wB, giC, noneB, gst, tC, pC, gN, gR, rC, rB]) (by show 2 ≤ _; decide) ?_
  (conv => whnf); (repeat ((first | (refine ⟨rfl, ?_⟩) | (refine ⟨trivial, ?_⟩) | (refine Wk.yes ?_) | (refine Wk.no ?_) | (refine Wk.and ?_)); (conv => whnf)))
  obtain ⟨m, hm⟩ : ∃ m : Nat, (m : Int) = min (L.length : Int) 12 := ⟨min L.length 12, by omega⟩
  have hml : (L.take 12).length = m := by rw [List.length_take]; omega
  rw [← hm]
  refine ⟨⟨by decide, by show (0 : Int) ≤ (m : Int); omega, .inl (by show (m : Int) ≤ (L.length : Int); omega)⟩, ?_⟩
  (conv => whnf); (repeat ((first | (refine ⟨rfl, ?_⟩) | (refine ⟨trivial, ?_⟩) | (refine Wk.yes ?_) | (refine Wk.no ?_) | (refine Wk.and ?_)); (conv => whnf)))
  refine ⟨by rw [ints_len]; show 0 + 0 * 1 + (m - 0) * 1 ≤ L.length; omega, ?_⟩
  (conv => whnf); (repeat ((first | (refine ⟨rfl, ?_⟩) | (refine ⟨trivial, ?_⟩) | (refine Wk.yes ?_) | (refine Wk.no ?_) | (refine Wk.and ?_)); (conv => whnf)))
  have hs1 : (Option.getD (some (m : Int)) (L.length : Int)).toNat - (Option.getD (none : Option Int) 0).toNat = m := by show m - 0 = m; omega
  have hs2 : ∀ k, k = m * 1 → ((ints L).drop (0 + (Option.getD (none : Option Int) 0).toNat * 1)).take k = ints (L.take 12) := fun k hk => by
    subst hk
    show ((ints L).drop 0).take (m * 1) = _
    rw [List.drop_zero, Nat.mul_one, ints, ints, List.map_take]
    refine List.take_eq_take_iff.2 ?_
    rw [List.length_map]; omega
  rw [hs1, hs2 _ rfl]
  refine ⟨⟨Nat.le_of_ble_eq_true rfl, by show (m : Int) * 8 ≤ _; omega, by omega⟩, fun h => absurd h (by omega), fun _ => ?_⟩
  (conv => whnf); (repeat ((first | (refine ⟨rfl, ?_⟩) | (refine ⟨trivial, ?_⟩) | (refine Wk.yes ?_) | (refine Wk.no ?_) | (refine Wk.and ?_)); (conv => whnf)))
  rw [hml]
  exact AH.Fin.new [1] _ _ ⟨rfl, rfl, rfl⟩ rfl ⟨by show some (ABlk.row 3 1 _) = some (ABlk.row 3 1 ((ints _).map _)); rw [ints_ren], trivial⟩ rfl (by simp [tupA, hpLt, tmLt, AV.lt, AE.lt, AC.lt, LL_cons, LL_nil, idOk, ABlk.lt, ints_LL, GB, treesK, repSt, tab64_LL, gC, wB, giC, noneB, gst, tC, pC, gN, gR, rC, rB]) (by simp [tupA, hpLt, tmLt, AV.lt, AE.lt, AC.lt, LL_cons, LL_nil, idOk, ABlk.lt, ints_LL, GB, treesK, repSt, tab64_LL, gC, wB, giC, noneB, gst, tC, pC, gN, gR, rC, rB])
theorem Gm.game.st {g : Gm} (h : g.game) : g.s ≠ g.t := by
  obtain ⟨h1, _⟩ := h
  unfold bad0 at h1
  omega
theorem replies_round {g : Gm} (hg : g.game) {Q : Exit → AS → Prop} (hQ : ∀ tm M0 M1, Q (.exit 0) ⟨tm, [(5, wB g), (6, .own (gC g 5)), (7, wB g), (8, .own (gC g 7)), (9, .ro (ints M0)), (10, .ro (ints M1)), (11, .own [.rs 9 0 M0.length, .rs 10 0 M1.length]), (100002, .ro tab64), (100000, noneB)], 12, 144, 3⟩) : ∀ q, repInv q → wpC Tryd.prog tt true (loopOf Tryd.f6.body) (repSt g q) (thenA (Again (repSt g) repInv repMu (repMu q)) Q) := by
  rintro ⟨i, M0, M1, cut⟩ ⟨hi, hm0, hm1⟩
  have hgl := hg.ok.len
  have hrp := Reply_spec hg M0 M1 (by omega) (by omega) cut
  have hit := isTreesR_spec hg.ok M0 M1 (by omega) (by omega)
  have hum := um_lt cut (n := g.ws.length + 1) (by omega)
  have hw0 : 0 ≤ IntKind.u64.wrap cut := Int.emod_nonneg _ (by decide)
  have hw1 : IntKind.u64.wrap ((g.ws.length : Int) + 1) = ((g.ws.length + 1 : Nat) : Int) := by
    rw [show ((g.ws.length : Int) + 1) = ((g.ws.length + 1 : Nat) : Int) by omega]; exact wrapU (by omega)
  have hw2 := um_wrap cut (n := g.ws.length + 1) (by omega) (by omega)
  have hT10 : ∀ {a b : Nat}, treesF g (alT g) = some (a, b) → (mem a).length ≤ 12 ∧ (mem b).length ≤ 12 := fun {a b} h => by
    have hp2 : 2 ^ g.ws.length ≤ 1024 := Nat.pow_le_pow_right (by omega) hgl
    obtain ⟨_, h2, h3, _⟩ := treesF_lt hgl h
    have := mem_len10 a (by omega)
    have := mem_len10 b (by omega)
    omega
  by_cases hi2 : i < 2
  rotate_left
  · (conv => whnf); (repeat ((first | (refine ⟨rfl, ?_⟩) | (refine ⟨trivial, ?_⟩) | (refine Wk.yes ?_) | (refine Wk.no ?_) | (refine Wk.and ?_)); (conv => whnf)))
    rw [decide_eq_false (show ¬ ((i : Nat) : Int) < 2 by omega)]
    (conv => whnf); (repeat ((first | (refine ⟨rfl, ?_⟩) | (refine ⟨trivial, ?_⟩) | (refine Wk.yes ?_) | (refine Wk.no ?_) | (refine Wk.and ?_)); (conv => whnf)))
    exact hQ _ _ _
  · (conv => whnf); (repeat ((first | (refine ⟨rfl, ?_⟩) | (refine ⟨trivial, ?_⟩) | (refine Wk.yes ?_) | (refine Wk.no ?_) | (refine Wk.and ?_)); (conv => whnf)))
    rw [decide_eq_true (show ((i : Nat) : Int) < 2 by omega)]
    (conv => whnf); (repeat ((first | (refine ⟨rfl, ?_⟩) | (refine ⟨trivial, ?_⟩) | (refine Wk.yes ?_) | (refine Wk.no ?_) | (refine Wk.and ?_)); (conv => whnf)))
    by_cases c1 : cut < 0
    · rw [show replyV g (setOk g.ws.length M0) (setOk g.ws.length M1) (setV g.ws.length M0) (setV g.ws.length M1) cut = (0, false, 1) by rw [replyV, if_pos (.inl c1)]] at hrp
      refine CallA.ro [7, 9, 10] (.t [.c (.int .i64 0), .c (.bool false), .c (.int .i64 1)]) (hrp) (by first | rfl | exact congrArg AV.g (ints_ren _ _) | (simp [ints_ren, AV.ren, ABlk.ren, AC.ren, AE.ren, qq]; done)) rfl (by (repeat (first | exact trivial | refine ⟨⟨(by first | exact .inl (by decide) | exact .inr (by decide)), (by first | (refine Or.inl ?_; first | rfl | exact congrArg some (ints_ren _ _).symm | exact congrArg ABlk.own (ints_ren _ _).symm | exact congrArg some (tab64_ren _).symm) | rfl | exact congrArg some (ints_ren _ _).symm | exact congrArg ABlk.own (ints_ren _ _).symm | exact congrArg some (tab64_ren _).symm | exact Or.inr ⟨rfl, rfl⟩)⟩, ?_⟩))) (by first | rfl | exact congrArg AV.g (ints_ren _ _) | (simp [ints_ren, AV.ren, ABlk.ren, AC.ren, AE.ren, qq]; done)) ?_
      (conv => whnf); (repeat ((first | (refine ⟨rfl, ?_⟩) | (refine ⟨trivial, ?_⟩) | (refine Wk.yes ?_) | (refine Wk.no ?_) | (refine Wk.and ?_)); (conv => whnf)))
      rw [decide_eq_true c1]
      (conv => whnf); (repeat ((first | (refine ⟨rfl, ?_⟩) | (refine ⟨trivial, ?_⟩) | (refine Wk.yes ?_) | (refine Wk.no ?_) | (refine Wk.and ?_)); (conv => whnf)))
      cases hT : treesF g (alT g) with
      | none =>
        refine CallA.ro [7] (.t [.g [.nils, .nils], .c (.bool false), .c (.int .i64 0)]) (Trees_none hg hT) (by first | rfl | exact congrArg AV.g (ints_ren _ _) | (simp [ints_ren, AV.ren, ABlk.ren, AC.ren, AE.ren, qq]; done)) rfl (by (repeat (first | exact trivial | refine ⟨⟨(by first | exact .inl (by decide) | exact .inr (by decide)), (by first | (refine Or.inl ?_; first | rfl | exact congrArg some (ints_ren _ _).symm | exact congrArg ABlk.own (ints_ren _ _).symm | exact congrArg some (tab64_ren _).symm) | rfl | exact congrArg some (ints_ren _ _).symm | exact congrArg ABlk.own (ints_ren _ _).symm | exact congrArg some (tab64_ren _).symm | exact Or.inr ⟨rfl, rfl⟩)⟩, ?_⟩))) (by first | rfl | exact congrArg AV.g (ints_ren _ _) | (simp [ints_ren, AV.ren, ABlk.ren, AC.ren, AE.ren, qq]; done)) ?_
        (conv => whnf); (repeat ((first | (refine ⟨rfl, ?_⟩) | (refine ⟨trivial, ?_⟩) | (refine Wk.yes ?_) | (refine Wk.no ?_) | (refine Wk.and ?_)); (conv => whnf)))
        rw [hw1]
        (conv => whnf); (repeat ((first | (refine ⟨rfl, ?_⟩) | (refine ⟨trivial, ?_⟩) | (refine Wk.yes ?_) | (refine Wk.no ?_) | (refine Wk.and ?_)); (conv => whnf)))
        rw [hw2]
        refine Again.under (i + 1, [], [], (um cut (g.ws.length + 1) : Int)) (Under.wk [] ⟨rfl, rfl, Nat.le_of_ble_eq_true rfl, Nat.le_of_ble_eq_true rfl⟩ rfl (by repeat (first | exact trivial | refine ⟨?_, ?_⟩ | exact Or.inl rfl | exact Or.inl (tab64_ren _).symm | exact Or.inr (Or.inl (Or.inl (ints_ren _ _).symm)) | exact Or.inr (Or.inl (Or.inr ⟨rfl, rfl, trivial⟩)) | exact Or.inr (Or.inr ⟨rfl, rfl⟩))) (by repeat (first | exact trivial | refine ⟨?_, ?_⟩ | exact Or.inl rfl | exact Or.inl (tab64_ren _).symm | exact Or.inr (Or.inl (Or.inl (ints_ren _ _).symm)) | exact Or.inr (Or.inl (Or.inr ⟨rfl, rfl, trivial⟩)) | exact Or.inr (Or.inr ⟨rfl, rfl⟩))) rfl (by simp [tupA, hpLt, tmLt, AV.lt, AE.lt, AC.lt, LL_cons, LL_nil, idOk, ABlk.lt, ints_LL, GB, treesK, repSt, tab64_LL, gC, wB, giC, noneB, gst, tC, pC, gN, gR, rC, rB]) (by simp [tupA, hpLt, tmLt, AV.lt, AE.lt, AC.lt, LL_cons, LL_nil, idOk, ABlk.lt, ints_LL, GB, treesK, repSt, tab64_LL, gC, wB, giC, noneB, gst, tC, pC, gN, gR, rC, rB])) ⟨by omega, by simp, by simp⟩ (by show 2 - (i + 1) < 2 - i; omega)
      | some p =>
        obtain ⟨ta, tb⟩ := p
        obtain ⟨hta, htb⟩ := hT10 hT
        have hsR := isTreesR_spec hg.ok (mem ta) (mem tb) (by omega) (by omega)
        rw [trees_are hg.ok hg.st hT] at hsR
        refine CallA.det [7] (.t [.g [.rs 12 0 (mem ta).length, .rs 13 0 (mem tb).length], .c (.bool true), .c (.int .i64 0)]) ([(5, wB g), (6, .own (gC g 5)), (7, wB g), (8, .own (gC g 7)), (9, .ro (ints M0)), (10, .ro (ints M1)), (11, .own [.rs 9 0 M0.length, .rs 10 0 M1.length]), (100002, .ro tab64), (100000, noneB), (13, .row 3 1 (ints (mem tb))), (12, .row 3 1 (ints (mem ta)))]) (Trees_some hg hT) (by first | rfl | exact congrArg AV.g (ints_ren _ _) | (simp [ints_ren, AV.ren, ABlk.ren, AC.ren, AE.ren, qq]; done)) rfl (by (repeat (first | exact trivial | refine ⟨⟨(by first | exact .inl (by decide) | exact .inr (by decide)), (by first | (refine Or.inl ?_; first | rfl | exact congrArg some (ints_ren _ _).symm | exact congrArg ABlk.own (ints_ren _ _).symm | exact congrArg some (tab64_ren _).symm) | rfl | exact congrArg some (ints_ren _ _).symm | exact congrArg ABlk.own (ints_ren _ _).symm | exact congrArg some (tab64_ren _).symm | exact Or.inr ⟨rfl, rfl⟩)⟩, ?_⟩))) (by first | rfl | exact congrArg AV.g (ints_ren _ _) | (simp [ints_ren, AV.ren, ABlk.ren, AC.ren, AE.ren, qq]; done)) (by first | rfl | (simp [behind, gone, lk, up, del, qq, ABlk.wr, GB, ints_ren, AV.ren, ABlk.ren, AC.ren, AE.ren]; done) | (simp [behind, gone, lk, up, del, qq, ABlk.wr, GB, ints_ren, AV.ren, ABlk.ren, AC.ren, AE.ren]; rfl)) ?_
        (conv => whnf); (repeat ((first | (refine ⟨rfl, ?_⟩) | (refine ⟨trivial, ?_⟩) | (refine Wk.yes ?_) | (refine Wk.no ?_) | (refine Wk.and ?_)); (conv => whnf)))
        refine CallA.ro [5, 12, 13] (.c (.bool true)) (hsR) (by first | rfl | exact congrArg AV.g (ints_ren _ _) | (simp [ints_ren, AV.ren, ABlk.ren, AC.ren, AE.ren, qq]; done)) rfl (by (repeat (first | exact trivial | refine ⟨⟨(by first | exact .inl (by decide) | exact .inr (by decide)), (by first | (refine Or.inl ?_; first | rfl | exact congrArg some (ints_ren _ _).symm | exact congrArg ABlk.own (ints_ren _ _).symm | exact congrArg some (tab64_ren _).symm) | rfl | exact congrArg some (ints_ren _ _).symm | exact congrArg ABlk.own (ints_ren _ _).symm | exact congrArg some (tab64_ren _).symm | exact Or.inr ⟨rfl, rfl⟩)⟩, ?_⟩))) (by first | rfl | exact congrArg AV.g (ints_ren _ _) | (simp [ints_ren, AV.ren, ABlk.ren, AC.ren, AE.ren, qq]; done)) ?_
        (conv => whnf); (repeat ((first | (refine ⟨rfl, ?_⟩) | (refine ⟨trivial, ?_⟩) | (refine Wk.yes ?_) | (refine Wk.no ?_) | (refine Wk.and ?_)); (conv => whnf)))
        rw [hw1]
        (conv => whnf); (repeat ((first | (refine ⟨rfl, ?_⟩) | (refine ⟨trivial, ?_⟩) | (refine Wk.yes ?_) | (refine Wk.no ?_) | (refine Wk.and ?_)); (conv => whnf)))
        rw [hw2]
        refine Again.under (i + 1, mem ta, mem tb, (um cut (g.ws.length + 1) : Int)) (Under.wk [(9, 12), (10, 13)] ⟨rfl, rfl, Nat.le_of_ble_eq_true rfl, Nat.le_of_ble_eq_true rfl⟩ rfl (by repeat (first | exact trivial | refine ⟨?_, ?_⟩ | exact Or.inl rfl | exact Or.inl (tab64_ren _).symm | exact Or.inr (Or.inl (Or.inl (ints_ren _ _).symm)) | exact Or.inr (Or.inl (Or.inr ⟨rfl, rfl, trivial⟩)) | exact Or.inr (Or.inr ⟨rfl, rfl⟩))) (by repeat (first | exact trivial | refine ⟨?_, ?_⟩ | exact Or.inl rfl | exact Or.inl (tab64_ren _).symm | exact Or.inr (Or.inl (Or.inl (ints_ren _ _).symm)) | exact Or.inr (Or.inl (Or.inr ⟨rfl, rfl, trivial⟩)) | exact Or.inr (Or.inr ⟨rfl, rfl⟩))) rfl (by simp [tupA, hpLt, tmLt, AV.lt, AE.lt, AC.lt, LL_cons, LL_nil, idOk, ABlk.lt, ints_LL, GB, treesK, repSt, tab64_LL, gC, wB, giC, noneB, gst, tC, pC, gN, gR, rC, rB]) (by simp [tupA, hpLt, tmLt, AV.lt, AE.lt, AC.lt, LL_cons, LL_nil, idOk, ABlk.lt, ints_LL, GB, treesK, repSt, tab64_LL, gC, wB, giC, noneB, gst, tC, pC, gN, gR, rC, rB])) ⟨by omega, by omega, by omega⟩ (by show 2 - (i + 1) < 2 - i; omega)
    by_cases c2 : (g.ws.length : Int) ≤ cut
    · rw [show replyV g (setOk g.ws.length M0) (setOk g.ws.length M1) (setV g.ws.length M0) (setV g.ws.length M1) cut = (0, false, 1) by rw [replyV, if_pos (.inr c2)]] at hrp
      refine CallA.ro [7, 9, 10] (.t [.c (.int .i64 0), .c (.bool false), .c (.int .i64 1)]) (hrp) (by first | rfl | exact congrArg AV.g (ints_ren _ _) | (simp [ints_ren, AV.ren, ABlk.ren, AC.ren, AE.ren, qq]; done)) rfl (by (repeat (first | exact trivial | refine ⟨⟨(by first | exact .inl (by decide) | exact .inr (by decide)), (by first | (refine Or.inl ?_; first | rfl | exact congrArg some (ints_ren _ _).symm | exact congrArg ABlk.own (ints_ren _ _).symm | exact congrArg some (tab64_ren _).symm) | rfl | exact congrArg some (ints_ren _ _).symm | exact congrArg ABlk.own (ints_ren _ _).symm | exact congrArg some (tab64_ren _).symm | exact Or.inr ⟨rfl, rfl⟩)⟩, ?_⟩))) (by first | rfl | exact congrArg AV.g (ints_ren _ _) | (simp [ints_ren, AV.ren, ABlk.ren, AC.ren, AE.ren, qq]; done)) ?_
      (conv => whnf); (repeat ((first | (refine ⟨rfl, ?_⟩) | (refine ⟨trivial, ?_⟩) | (refine Wk.yes ?_) | (refine Wk.no ?_) | (refine Wk.and ?_)); (conv => whnf)))
      rw [decide_eq_false c1]
      (conv => whnf); (repeat ((first | (refine ⟨rfl, ?_⟩) | (refine ⟨trivial, ?_⟩) | (refine Wk.yes ?_) | (refine Wk.no ?_) | (refine Wk.and ?_)); (conv => whnf)))
      rw [decide_eq_true c2]
      (conv => whnf); (repeat ((first | (refine ⟨rfl, ?_⟩) | (refine ⟨trivial, ?_⟩) | (refine Wk.yes ?_) | (refine Wk.no ?_) | (refine Wk.and ?_)); (conv => whnf)))
      cases hT : treesF g (alT g) with
      | none =>
        refine CallA.ro [7] (.t [.g [.nils, .nils], .c (.bool false), .c (.int .i64 0)]) (Trees_none hg hT) (by first | rfl | exact congrArg AV.g (ints_ren _ _) | (simp [ints_ren, AV.ren, ABlk.ren, AC.ren, AE.ren, qq]; done)) rfl (by (repeat (first | exact trivial | refine ⟨⟨(by first | exact .inl (by decide) | exact .inr (by decide)), (by first | (refine Or.inl ?_; first | rfl | exact congrArg some (ints_ren _ _).symm | exact congrArg ABlk.own (ints_ren _ _).symm | exact congrArg some (tab64_ren _).symm) | rfl | exact congrArg some (ints_ren _ _).symm | exact congrArg ABlk.own (ints_ren _ _).symm | exact congrArg some (tab64_ren _).symm | exact Or.inr ⟨rfl, rfl⟩)⟩, ?_⟩))) (by first | rfl | exact congrArg AV.g (ints_ren _ _) | (simp [ints_ren, AV.ren, ABlk.ren, AC.ren, AE.ren, qq]; done)) ?_
        (conv => whnf); (repeat ((first | (refine ⟨rfl, ?_⟩) | (refine ⟨trivial, ?_⟩) | (refine Wk.yes ?_) | (refine Wk.no ?_) | (refine Wk.and ?_)); (conv => whnf)))
        rw [hw1]
        (conv => whnf); (repeat ((first | (refine ⟨rfl, ?_⟩) | (refine ⟨trivial, ?_⟩) | (refine Wk.yes ?_) | (refine Wk.no ?_) | (refine Wk.and ?_)); (conv => whnf)))
        rw [hw2]
        refine Again.under (i + 1, [], [], (um cut (g.ws.length + 1) : Int)) (Under.wk [] ⟨rfl, rfl, Nat.le_of_ble_eq_true rfl, Nat.le_of_ble_eq_true rfl⟩ rfl (by repeat (first | exact trivial | refine ⟨?_, ?_⟩ | exact Or.inl rfl | exact Or.inl (tab64_ren _).symm | exact Or.inr (Or.inl (Or.inl (ints_ren _ _).symm)) | exact Or.inr (Or.inl (Or.inr ⟨rfl, rfl, trivial⟩)) | exact Or.inr (Or.inr ⟨rfl, rfl⟩))) (by repeat (first | exact trivial | refine ⟨?_, ?_⟩ | exact Or.inl rfl | exact Or.inl (tab64_ren _).symm | exact Or.inr (Or.inl (Or.inl (ints_ren _ _).symm)) | exact Or.inr (Or.inl (Or.inr ⟨rfl, rfl, trivial⟩)) | exact Or.inr (Or.inr ⟨rfl, rfl⟩))) rfl (by simp [tupA, hpLt, tmLt, AV.lt, AE.lt, AC.lt, LL_cons, LL_nil, idOk, ABlk.lt, ints_LL, GB, treesK, repSt, tab64_LL, gC, wB, giC, noneB, gst, tC, pC, gN, gR, rC, rB]) (by simp [tupA, hpLt, tmLt, AV.lt, AE.lt, AC.lt, LL_cons, LL_nil, idOk, ABlk.lt, ints_LL, GB, treesK, repSt, tab64_LL, gC, wB, giC, noneB, gst, tC, pC, gN, gR, rC, rB])) ⟨by omega, by simp, by simp⟩ (by show 2 - (i + 1) < 2 - i; omega)
      | some p =>
        obtain ⟨ta, tb⟩ := p
        obtain ⟨hta, htb⟩ := hT10 hT
        have hsR := isTreesR_spec hg.ok (mem ta) (mem tb) (by omega) (by omega)
        rw [trees_are hg.ok hg.st hT] at hsR
        refine CallA.det [7] (.t [.g [.rs 12 0 (mem ta).length, .rs 13 0 (mem tb).length], .c (.bool true), .c (.int .i64 0)]) ([(5, wB g), (6, .own (gC g 5)), (7, wB g), (8, .own (gC g 7)), (9, .ro (ints M0)), (10, .ro (ints M1)), (11, .own [.rs 9 0 M0.length, .rs 10 0 M1.length]), (100002, .ro tab64), (100000, noneB), (13, .row 3 1 (ints (mem tb))), (12, .row 3 1 (ints (mem ta)))]) (Trees_some hg hT) (by first | rfl | exact congrArg AV.g (ints_ren _ _) | (simp [ints_ren, AV.ren, ABlk.ren, AC.ren, AE.ren, qq]; done)) rfl (by (repeat (first | exact trivial | refine ⟨⟨(by first | exact .inl (by decide) | exact .inr (by decide)), (by first | (refine Or.inl ?_; first | rfl | exact congrArg some (ints_ren _ _).symm | exact congrArg ABlk.own (ints_ren _ _).symm | exact congrArg some (tab64_ren _).symm) | rfl | exact congrArg some (ints_ren _ _).symm | exact congrArg ABlk.own (ints_ren _ _).symm | exact congrArg some (tab64_ren _).symm | exact Or.inr ⟨rfl, rfl⟩)⟩, ?_⟩))) (by first | rfl | exact congrArg AV.g (ints_ren _ _) | (simp [ints_ren, AV.ren, ABlk.ren, AC.ren, AE.ren, qq]; done)) (by first | rfl | (simp [behind, gone, lk, up, del, qq, ABlk.wr, GB, ints_ren, AV.ren, ABlk.ren, AC.ren, AE.ren]; done) | (simp [behind, gone, lk, up, del, qq, ABlk.wr, GB, ints_ren, AV.ren, ABlk.ren, AC.ren, AE.ren]; rfl)) ?_
        (conv => whnf); (repeat ((first | (refine ⟨rfl, ?_⟩) | (refine ⟨trivial, ?_⟩) | (refine Wk.yes ?_) | (refine Wk.no ?_) | (refine Wk.and ?_)); (conv => whnf)))
        refine CallA.ro [5, 12, 13] (.c (.bool true)) (hsR) (by first | rfl | exact congrArg AV.g (ints_ren _ _) | (simp [ints_ren, AV.ren, ABlk.ren, AC.ren, AE.ren, qq]; done)) rfl (by (repeat (first | exact trivial | refine ⟨⟨(by first | exact .inl (by decide) | exact .inr (by decide)), (by first | (refine Or.inl ?_; first | rfl | exact congrArg some (ints_ren _ _).symm | exact congrArg ABlk.own (ints_ren _ _).symm | exact congrArg some (tab64_ren _).symm) | rfl | exact congrArg some (ints_ren _ _).symm | exact congrArg ABlk.own (ints_ren _ _).symm | exact congrArg some (tab64_ren _).symm | exact Or.inr ⟨rfl, rfl⟩)⟩, ?_⟩))) (by first | rfl | exact congrArg AV.g (ints_ren _ _) | (simp [ints_ren, AV.ren, ABlk.ren, AC.ren, AE.ren, qq]; done)) ?_
        (conv => whnf); (repeat ((first | (refine ⟨rfl, ?_⟩) | (refine ⟨trivial, ?_⟩) | (refine Wk.yes ?_) | (refine Wk.no ?_) | (refine Wk.and ?_)); (conv => whnf)))
        rw [hw1]
        (conv => whnf); (repeat ((first | (refine ⟨rfl, ?_⟩) | (refine ⟨trivial, ?_⟩) | (refine Wk.yes ?_) | (refine Wk.no ?_) | (refine Wk.and ?_)); (conv => whnf)))
        rw [hw2]
        refine Again.under (i + 1, mem ta, mem tb, (um cut (g.ws.length + 1) : Int)) (Under.wk [(9, 12), (10, 13)] ⟨rfl, rfl, Nat.le_of_ble_eq_true rfl, Nat.le_of_ble_eq_true rfl⟩ rfl (by repeat (first | exact trivial | refine ⟨?_, ?_⟩ | exact Or.inl rfl | exact Or.inl (tab64_ren _).symm | exact Or.inr (Or.inl (Or.inl (ints_ren _ _).symm)) | exact Or.inr (Or.inl (Or.inr ⟨rfl, rfl, trivial⟩)) | exact Or.inr (Or.inr ⟨rfl, rfl⟩))) (by repeat (first | exact trivial | refine ⟨?_, ?_⟩ | exact Or.inl rfl | exact Or.inl (tab64_ren _).symm | exact Or.inr (Or.inl (Or.inl (ints_ren _ _).symm)) | exact Or.inr (Or.inl (Or.inr ⟨rfl, rfl, trivial⟩)) | exact Or.inr (Or.inr ⟨rfl, rfl⟩))) rfl (by simp [tupA, hpLt, tmLt, AV.lt, AE.lt, AC.lt, LL_cons, LL_nil, idOk, ABlk.lt, ints_LL, GB, treesK, repSt, tab64_LL, gC, wB, giC, noneB, gst, tC, pC, gN, gR, rC, rB]) (by simp [tupA, hpLt, tmLt, AV.lt, AE.lt, AC.lt, LL_cons, LL_nil, idOk, ABlk.lt, ints_LL, GB, treesK, repSt, tab64_LL, gC, wB, giC, noneB, gst, tC, pC, gN, gR, rC, rB])) ⟨by omega, by omega, by omega⟩ (by show 2 - (i + 1) < 2 - i; omega)
    have hv0 : replyV g (setOk g.ws.length M0) (setOk g.ws.length M1) (setV g.ws.length M0) (setV g.ws.length M1) cut = if areB g (setOk g.ws.length M0) (setOk g.ws.length M1) (setV g.ws.length M0) (setV g.ws.length M1) = false then (0, false, 1) else if ((setV g.ws.length M1)).testBit cut.toNat = true then ((replyO g ((setV g.ws.length M1)) ((setV g.ws.length M0)) cut.toNat).getD 0, true, 0) else if ((setV g.ws.length M0)).testBit cut.toNat = true then ((replyO g ((setV g.ws.length M0)) ((setV g.ws.length M1)) cut.toNat).getD 0, true, 0) else (0, false, 0) := by rw [replyV, if_neg (by omega)]
    obtain ⟨c, rfl⟩ : ∃ c : Nat, cut = c := ⟨cut.toNat, by omega⟩
    have hcl : c < g.ws.length := by omega
    rw [Int.toNat_natCast, are_eq hg.ok hg.st (setV_lt _ _) (setV_lt _ _)] at hv0
    cases hA : areR g (setOk g.ws.length M0) (setOk g.ws.length M1) (setV g.ws.length M0) (setV g.ws.length M1) with
    | false =>
      rw [hA, if_pos rfl] at hv0
      rw [hv0] at hrp
      rw [hA] at hit
      refine CallA.ro [7, 9, 10] (.t [.c (.int .i64 0), .c (.bool false), .c (.int .i64 1)]) (hrp) (by first | rfl | exact congrArg AV.g (ints_ren _ _) | (simp [ints_ren, AV.ren, ABlk.ren, AC.ren, AE.ren, qq]; done)) rfl (by (repeat (first | exact trivial | refine ⟨⟨(by first | exact .inl (by decide) | exact .inr (by decide)), (by first | (refine Or.inl ?_; first | rfl | exact congrArg some (ints_ren _ _).symm | exact congrArg ABlk.own (ints_ren _ _).symm | exact congrArg some (tab64_ren _).symm) | rfl | exact congrArg some (ints_ren _ _).symm | exact congrArg ABlk.own (ints_ren _ _).symm | exact congrArg some (tab64_ren _).symm | exact Or.inr ⟨rfl, rfl⟩)⟩, ?_⟩))) (by first | rfl | exact congrArg AV.g (ints_ren _ _) | (simp [ints_ren, AV.ren, ABlk.ren, AC.ren, AE.ren, qq]; done)) ?_
      (conv => whnf); (repeat ((first | (refine ⟨rfl, ?_⟩) | (refine ⟨trivial, ?_⟩) | (refine Wk.yes ?_) | (refine Wk.no ?_) | (refine Wk.and ?_)); (conv => whnf)))
      rw [decide_eq_false c1]
      (conv => whnf); (repeat ((first | (refine ⟨rfl, ?_⟩) | (refine ⟨trivial, ?_⟩) | (refine Wk.yes ?_) | (refine Wk.no ?_) | (refine Wk.and ?_)); (conv => whnf)))
      rw [decide_eq_false c2]
      (conv => whnf); (repeat ((first | (refine ⟨rfl, ?_⟩) | (refine ⟨trivial, ?_⟩) | (refine Wk.yes ?_) | (refine Wk.no ?_) | (refine Wk.and ?_)); (conv => whnf)))
      refine CallA.ro [5, 9, 10] (.c (.bool false)) (hit) (by first | rfl | exact congrArg AV.g (ints_ren _ _) | (simp [ints_ren, AV.ren, ABlk.ren, AC.ren, AE.ren, qq]; done)) rfl (by (repeat (first | exact trivial | refine ⟨⟨(by first | exact .inl (by decide) | exact .inr (by decide)), (by first | (refine Or.inl ?_; first | rfl | exact congrArg some (ints_ren _ _).symm | exact congrArg ABlk.own (ints_ren _ _).symm | exact congrArg some (tab64_ren _).symm) | rfl | exact congrArg some (ints_ren _ _).symm | exact congrArg ABlk.own (ints_ren _ _).symm | exact congrArg some (tab64_ren _).symm | exact Or.inr ⟨rfl, rfl⟩)⟩, ?_⟩))) (by first | rfl | exact congrArg AV.g (ints_ren _ _) | (simp [ints_ren, AV.ren, ABlk.ren, AC.ren, AE.ren, qq]; done)) ?_
      (conv => whnf); (repeat ((first | (refine ⟨rfl, ?_⟩) | (refine ⟨trivial, ?_⟩) | (refine Wk.yes ?_) | (refine Wk.no ?_) | (refine Wk.and ?_)); (conv => whnf)))
      cases hT : treesF g (alT g) with
      | none =>
        refine CallA.ro [7] (.t [.g [.nils, .nils], .c (.bool false), .c (.int .i64 0)]) (Trees_none hg hT) (by first | rfl | exact congrArg AV.g (ints_ren _ _) | (simp [ints_ren, AV.ren, ABlk.ren, AC.ren, AE.ren, qq]; done)) rfl (by (repeat (first | exact trivial | refine ⟨⟨(by first | exact .inl (by decide) | exact .inr (by decide)), (by first | (refine Or.inl ?_; first | rfl | exact congrArg some (ints_ren _ _).symm | exact congrArg ABlk.own (ints_ren _ _).symm | exact congrArg some (tab64_ren _).symm) | rfl | exact congrArg some (ints_ren _ _).symm | exact congrArg ABlk.own (ints_ren _ _).symm | exact congrArg some (tab64_ren _).symm | exact Or.inr ⟨rfl, rfl⟩)⟩, ?_⟩))) (by first | rfl | exact congrArg AV.g (ints_ren _ _) | (simp [ints_ren, AV.ren, ABlk.ren, AC.ren, AE.ren, qq]; done)) ?_
        (conv => whnf); (repeat ((first | (refine ⟨rfl, ?_⟩) | (refine ⟨trivial, ?_⟩) | (refine Wk.yes ?_) | (refine Wk.no ?_) | (refine Wk.and ?_)); (conv => whnf)))
        rw [hw1]
        (conv => whnf); (repeat ((first | (refine ⟨rfl, ?_⟩) | (refine ⟨trivial, ?_⟩) | (refine Wk.yes ?_) | (refine Wk.no ?_) | (refine Wk.and ?_)); (conv => whnf)))
        rw [hw2]
        refine Again.under (i + 1, [], [], (um c (g.ws.length + 1) : Int)) (Under.wk [] ⟨rfl, rfl, Nat.le_of_ble_eq_true rfl, Nat.le_of_ble_eq_true rfl⟩ rfl (by repeat (first | exact trivial | refine ⟨?_, ?_⟩ | exact Or.inl rfl | exact Or.inl (tab64_ren _).symm | exact Or.inr (Or.inl (Or.inl (ints_ren _ _).symm)) | exact Or.inr (Or.inl (Or.inr ⟨rfl, rfl, trivial⟩)) | exact Or.inr (Or.inr ⟨rfl, rfl⟩))) (by repeat (first | exact trivial | refine ⟨?_, ?_⟩ | exact Or.inl rfl | exact Or.inl (tab64_ren _).symm | exact Or.inr (Or.inl (Or.inl (ints_ren _ _).symm)) | exact Or.inr (Or.inl (Or.inr ⟨rfl, rfl, trivial⟩)) | exact Or.inr (Or.inr ⟨rfl, rfl⟩))) rfl (by simp [tupA, hpLt, tmLt, AV.lt, AE.lt, AC.lt, LL_cons, LL_nil, idOk, ABlk.lt, ints_LL, GB, treesK, repSt, tab64_LL, gC, wB, giC, noneB, gst, tC, pC, gN, gR, rC, rB]) (by simp [tupA, hpLt, tmLt, AV.lt, AE.lt, AC.lt, LL_cons, LL_nil, idOk, ABlk.lt, ints_LL, GB, treesK, repSt, tab64_LL, gC, wB, giC, noneB, gst, tC, pC, gN, gR, rC, rB])) ⟨by omega, by simp, by simp⟩ (by show 2 - (i + 1) < 2 - i; omega)
      | some p =>
        obtain ⟨ta, tb⟩ := p
        obtain ⟨hta, htb⟩ := hT10 hT
        have hsR := isTreesR_spec hg.ok (mem ta) (mem tb) (by omega) (by omega)
        rw [trees_are hg.ok hg.st hT] at hsR
        refine CallA.det [7] (.t [.g [.rs 12 0 (mem ta).length, .rs 13 0 (mem tb).length], .c (.bool true), .c (.int .i64 0)]) ([(5, wB g), (6, .own (gC g 5)), (7, wB g), (8, .own (gC g 7)), (9, .ro (ints M0)), (10, .ro (ints M1)), (11, .own [.rs 9 0 M0.length, .rs 10 0 M1.length]), (100002, .ro tab64), (100000, noneB), (13, .row 3 1 (ints (mem tb))), (12, .row 3 1 (ints (mem ta)))]) (Trees_some hg hT) (by first | rfl | exact congrArg AV.g (ints_ren _ _) | (simp [ints_ren, AV.ren, ABlk.ren, AC.ren, AE.ren, qq]; done)) rfl (by (repeat (first | exact trivial | refine ⟨⟨(by first | exact .inl (by decide) | exact .inr (by decide)), (by first | (refine Or.inl ?_; first | rfl | exact congrArg some (ints_ren _ _).symm | exact congrArg ABlk.own (ints_ren _ _).symm | exact congrArg some (tab64_ren _).symm) | rfl | exact congrArg some (ints_ren _ _).symm | exact congrArg ABlk.own (ints_ren _ _).symm | exact congrArg some (tab64_ren _).symm | exact Or.inr ⟨rfl, rfl⟩)⟩, ?_⟩))) (by first | rfl | exact congrArg AV.g (ints_ren _ _) | (simp [ints_ren, AV.ren, ABlk.ren, AC.ren, AE.ren, qq]; done)) (by first | rfl | (simp [behind, gone, lk, up, del, qq, ABlk.wr, GB, ints_ren, AV.ren, ABlk.ren, AC.ren, AE.ren]; done) | (simp [behind, gone, lk, up, del, qq, ABlk.wr, GB, ints_ren, AV.ren, ABlk.ren, AC.ren, AE.ren]; rfl)) ?_
        (conv => whnf); (repeat ((first | (refine ⟨rfl, ?_⟩) | (refine ⟨trivial, ?_⟩) | (refine Wk.yes ?_) | (refine Wk.no ?_) | (refine Wk.and ?_)); (conv => whnf)))
        refine CallA.ro [5, 12, 13] (.c (.bool true)) (hsR) (by first | rfl | exact congrArg AV.g (ints_ren _ _) | (simp [ints_ren, AV.ren, ABlk.ren, AC.ren, AE.ren, qq]; done)) rfl (by (repeat (first | exact trivial | refine ⟨⟨(by first | exact .inl (by decide) | exact .inr (by decide)), (by first | (refine Or.inl ?_; first | rfl | exact congrArg some (ints_ren _ _).symm | exact congrArg ABlk.own (ints_ren _ _).symm | exact congrArg some (tab64_ren _).symm) | rfl | exact congrArg some (ints_ren _ _).symm | exact congrArg ABlk.own (ints_ren _ _).symm | exact congrArg some (tab64_ren _).symm | exact Or.inr ⟨rfl, rfl⟩)⟩, ?_⟩))) (by first | rfl | exact congrArg AV.g (ints_ren _ _) | (simp [ints_ren, AV.ren, ABlk.ren, AC.ren, AE.ren, qq]; done)) ?_
        (conv => whnf); (repeat ((first | (refine ⟨rfl, ?_⟩) | (refine ⟨trivial, ?_⟩) | (refine Wk.yes ?_) | (refine Wk.no ?_) | (refine Wk.and ?_)); (conv => whnf)))
        rw [hw1]
        (conv => whnf); (repeat ((first | (refine ⟨rfl, ?_⟩) | (refine ⟨trivial, ?_⟩) | (refine Wk.yes ?_) | (refine Wk.no ?_) | (refine Wk.and ?_)); (conv => whnf)))
        rw [hw2]
        refine Again.under (i + 1, mem ta, mem tb, (um c (g.ws.length + 1) : Int)) (Under.wk [(9, 12), (10, 13)] ⟨rfl, rfl, Nat.le_of_ble_eq_true rfl, Nat.le_of_ble_eq_true rfl⟩ rfl (by repeat (first | exact trivial | refine ⟨?_, ?_⟩ | exact Or.inl rfl | exact Or.inl (tab64_ren _).symm | exact Or.inr (Or.inl (Or.inl (ints_ren _ _).symm)) | exact Or.inr (Or.inl (Or.inr ⟨rfl, rfl, trivial⟩)) | exact Or.inr (Or.inr ⟨rfl, rfl⟩))) (by repeat (first | exact trivial | refine ⟨?_, ?_⟩ | exact Or.inl rfl | exact Or.inl (tab64_ren _).symm | exact Or.inr (Or.inl (Or.inl (ints_ren _ _).symm)) | exact Or.inr (Or.inl (Or.inr ⟨rfl, rfl, trivial⟩)) | exact Or.inr (Or.inr ⟨rfl, rfl⟩))) rfl (by simp [tupA, hpLt, tmLt, AV.lt, AE.lt, AC.lt, LL_cons, LL_nil, idOk, ABlk.lt, ints_LL, GB, treesK, repSt, tab64_LL, gC, wB, giC, noneB, gst, tC, pC, gN, gR, rC, rB]) (by simp [tupA, hpLt, tmLt, AV.lt, AE.lt, AC.lt, LL_cons, LL_nil, idOk, ABlk.lt, ints_LL, GB, treesK, repSt, tab64_LL, gC, wB, giC, noneB, gst, tC, pC, gN, gR, rC, rB])) ⟨by omega, by omega, by omega⟩ (by show 2 - (i + 1) < 2 - i; omega)
    | true =>
      rw [hA, if_neg (by decide)] at hv0
      rw [hA] at hit
      obtain ⟨a1, a2, a3, a4, a5, a6, a7⟩ := areR_iff hA
      have hpl := places_same hg.ok hg.st (setV_lt _ _) (setV_lt _ _) hA
      have hb0 := set_bit a1 c
      have hb1 := set_bit a2 c
      have hof := ofT_two (c : Int) M0 M1
      have hv : ∃ (w : Int) (ok : Bool), replyV g (setOk g.ws.length M0) (setOk g.ws.length M1) (setV g.ws.length M0) (setV g.ws.length M1) (c : Int) = (w, ok, 0) ∧ ((ofT (c : Int) M0 M1 2 = 1 ∧ ok = true ∧ ∃ wn : Nat, w = wn ∧ FDet Tryd.prog 34 [.g (gC g 0), .g [.rs 1 0 M0.length, .rs 2 0 M1.length], .c (.int .i64 1), .c (.int .i64 c), .c (.int .i64 wn)] [(0, wB g), (1, .ro (ints M0)), (2, .ro (ints M1))] 3 (.c (.bool true)) [] 3) ∨
          (ofT (c : Int) M0 M1 2 = 0 ∧ ok = true ∧ ∃ wn : Nat, w = wn ∧ FDet Tryd.prog 34 [.g (gC g 0), .g [.rs 1 0 M0.length, .rs 2 0 M1.length], .c (.int .i64 0), .c (.int .i64 c), .c (.int .i64 wn)] [(0, wB g), (1, .ro (ints M0)), (2, .ro (ints M1))] 3 (.c (.bool true)) [] 3) ∨
          (ofT (c : Int) M0 M1 2 = -1 ∧ ok = false ∧ w = 0)) := by
        rw [hv0, hof]
        by_cases e1 : ((setV g.ws.length M1)).testBit c = true
        · obtain ⟨wn, w1, w2, w3⟩ := reply_fine hg.ok hg.st (setV_lt _ M1) (setV_lt _ M0) hpl a4 a5 (by rw [Nat.and_comm]; exact a3) a7 a6 e1
          have := replyR1_spec hg.ok M0 M1 (by omega) (by omega) hcl w2
          rw [w3] at this
          exact ⟨wn, true, by rw [if_pos e1, w1]; rfl, .inl ⟨if_pos (hb1.1 e1), rfl, wn, rfl, this⟩⟩
        · by_cases e2 : ((setV g.ws.length M0)).testBit c = true
          · obtain ⟨wn, w1, w2, w3⟩ := reply_fine hg.ok hg.st (setV_lt _ M0) (setV_lt _ M1) rfl a4 a5 a3 a6 a7 e2
            have := replyR0_spec hg.ok M0 M1 (by omega) (by omega) hcl w2
            rw [w3] at this
            exact ⟨wn, true, by rw [if_neg e1, if_pos e2, w1]; rfl, .inr (.inl ⟨by rw [if_neg (fun h => e1 (hb1.2 h)), if_pos (hb0.1 e2)], rfl, wn, rfl, this⟩)⟩
          · exact ⟨0, false, by rw [if_neg e1, if_neg e2], .inr (.inr ⟨by rw [if_neg (fun h => e1 (hb1.2 h)), if_neg (fun h => e2 (hb0.2 h))], rfl, rfl⟩)⟩
      obtain ⟨w, ok, hv1, hv⟩ := hv
      rw [hv1] at hrp
      clear hv0 hv1 hb0 hb1 hof a1 a2 a3 a4 a5 a6 a7 hpl hA
      refine CallA.ro [7, 9, 10] (.t [.c (.int .i64 w), .c (.bool ok), .c (.int .i64 0)]) (hrp) (by first | rfl | exact congrArg AV.g (ints_ren _ _) | (simp [ints_ren, AV.ren, ABlk.ren, AC.ren, AE.ren, qq]; done)) rfl (by (repeat (first | exact trivial | refine ⟨⟨(by first | exact .inl (by decide) | exact .inr (by decide)), (by first | (refine Or.inl ?_; first | rfl | exact congrArg some (ints_ren _ _).symm | exact congrArg ABlk.own (ints_ren _ _).symm | exact congrArg some (tab64_ren _).symm) | rfl | exact congrArg some (ints_ren _ _).symm | exact congrArg ABlk.own (ints_ren _ _).symm | exact congrArg some (tab64_ren _).symm | exact Or.inr ⟨rfl, rfl⟩)⟩, ?_⟩))) (by first | rfl | exact congrArg AV.g (ints_ren _ _) | (simp [ints_ren, AV.ren, ABlk.ren, AC.ren, AE.ren, qq]; done)) ?_
      (conv => whnf); (repeat ((first | (refine ⟨rfl, ?_⟩) | (refine ⟨trivial, ?_⟩) | (refine Wk.yes ?_) | (refine Wk.no ?_) | (refine Wk.and ?_)); (conv => whnf)))
      rw [decide_eq_false c1]
      (conv => whnf); (repeat ((first | (refine ⟨rfl, ?_⟩) | (refine ⟨trivial, ?_⟩) | (refine Wk.yes ?_) | (refine Wk.no ?_) | (refine Wk.and ?_)); (conv => whnf)))
      rw [decide_eq_false c2]
      (conv => whnf); (repeat ((first | (refine ⟨rfl, ?_⟩) | (refine ⟨trivial, ?_⟩) | (refine Wk.yes ?_) | (refine Wk.no ?_) | (refine Wk.and ?_)); (conv => whnf)))
      refine CallA.ro [5, 9, 10] (.c (.bool true)) (hit) (by first | rfl | exact congrArg AV.g (ints_ren _ _) | (simp [ints_ren, AV.ren, ABlk.ren, AC.ren, AE.ren, qq]; done)) rfl (by (repeat (first | exact trivial | refine ⟨⟨(by first | exact .inl (by decide) | exact .inr (by decide)), (by first | (refine Or.inl ?_; first | rfl | exact congrArg some (ints_ren _ _).symm | exact congrArg ABlk.own (ints_ren _ _).symm | exact congrArg some (tab64_ren _).symm) | rfl | exact congrArg some (ints_ren _ _).symm | exact congrArg ABlk.own (ints_ren _ _).symm | exact congrArg some (tab64_ren _).symm | exact Or.inr ⟨rfl, rfl⟩)⟩, ?_⟩))) (by first | rfl | exact congrArg AV.g (ints_ren _ _) | (simp [ints_ren, AV.ren, ABlk.ren, AC.ren, AE.ren, qq]; done)) ?_
      (conv => whnf); (repeat ((first | (refine ⟨rfl, ?_⟩) | (refine ⟨trivial, ?_⟩) | (refine Wk.yes ?_) | (refine Wk.no ?_) | (refine Wk.and ?_)); (conv => whnf)))
      refine Tr.loop (md := true) (X := Nat) (st := fun j => ⟨[(2, .c (.int .i64 c)), (7, .c (.ptr 6 0)), (8, .c (.ptr 8 0)), (9, .c (.ptr 11 0)), (10, .c (.int .i64 i)), (11, .c (.int .i64 w)), (12, .c (.bool ok)), (13, .c (.int .i64 0)), (14, .c (.int .i64 (ofT c M0 M1 j))), (15, .c (.int .i64 j))], [(5, wB g), (6, .own (gC g 5)), (7, wB g), (8, .own (gC g 7)), (9, .ro (ints M0)), (10, .ro (ints M1)), (11, .own [.rs 9 0 M0.length, .rs 10 0 M1.length]), (100002, .ro tab64), (100000, noneB)], 12, 144, 3⟩) (inv := fun j => j ≤ 2) (μ := fun j => 2 - j) (x0 := 0) (l := []) tok (Nat.zero_le _) ?_ ?_
      · exact Sub.nil ⟨rfl, rfl, (by simp [treesK, repSt, tab64_LL, gC, wB, giC, noneB, gst, tC, pC, gN, gR, rC, rB]), rfl, (by simp [tupA, hpLt, tmLt, AV.lt, AE.lt, AC.lt, LL_cons, LL_nil, idOk, ABlk.lt, ints_LL, GB, treesK, repSt, tab64_LL, gC, wB, giC, noneB, gst, tC, pC, gN, gR, rC, rB]), (by simp [tupA, hpLt, tmLt, AV.lt, AE.lt, AC.lt, LL_cons, LL_nil, idOk, ABlk.lt, ints_LL, GB, treesK, repSt, tab64_LL, gC, wB, giC, noneB, gst, tC, pC, gN, gR, rC, rB])⟩ (by (repeat (first | exact trivial | refine ⟨trivial, ?_⟩ | refine ⟨rfl, ?_⟩))) (by (repeat (first | exact trivial | refine ⟨trivial, ?_⟩ | refine ⟨rfl, ?_⟩)))
      · intro j hj
        obtain rfl | rfl | rfl : j = 0 ∨ j = 1 ∨ j = 2 := by omega
        · (conv => whnf); (repeat ((first | (refine ⟨rfl, ?_⟩) | (refine ⟨trivial, ?_⟩) | (refine Wk.yes ?_) | (refine Wk.no ?_) | (refine Wk.and ?_)); (conv => whnf)))
          refine Tr.loop (md := true) (X := Nat) (st := fun k => ⟨[(2, .c (.int .i64 c)), (7, .c (.ptr 6 0)), (8, .c (.ptr 8 0)), (9, .c (.ptr 11 0)), (10, .c (.int .i64 i)), (11, .c (.int .i64 w)), (12, .c (.bool ok)), (13, .c (.int .i64 0)), (14, .c (.int .i64 (ofK c M0 0 (ofT c M0 M1 0) k))), (15, .c (.int .i64 0)), (16, .c (.int .i64 k))], [(5, wB g), (6, .own (gC g 5)), (7, wB g), (8, .own (gC g 7)), (9, .ro (ints M0)), (10, .ro (ints M1)), (11, .own [.rs 9 0 M0.length, .rs 10 0 M1.length]), (100002, .ro tab64), (100000, noneB)], 12, 144, 3⟩) (inv := fun k => k ≤ M0.length) (μ := fun k => M0.length - k) (x0 := 0) (l := []) tok (Nat.zero_le _) ?_ ?_
          · exact Sub.nil ⟨rfl, rfl, (by simp [treesK, repSt, tab64_LL, gC, wB, giC, noneB, gst, tC, pC, gN, gR, rC, rB]), rfl, (by simp [tupA, hpLt, tmLt, AV.lt, AE.lt, AC.lt, LL_cons, LL_nil, idOk, ABlk.lt, ints_LL, GB, treesK, repSt, tab64_LL, gC, wB, giC, noneB, gst, tC, pC, gN, gR, rC, rB]), (by simp [tupA, hpLt, tmLt, AV.lt, AE.lt, AC.lt, LL_cons, LL_nil, idOk, ABlk.lt, ints_LL, GB, treesK, repSt, tab64_LL, gC, wB, giC, noneB, gst, tC, pC, gN, gR, rC, rB])⟩ (by (repeat (first | exact trivial | refine ⟨trivial, ?_⟩ | refine ⟨rfl, ?_⟩))) (by (repeat (first | exact trivial | refine ⟨trivial, ?_⟩ | refine ⟨rfl, ?_⟩)))
          · intro k hk
            by_cases hkl : k < M0.length
            · have hs := ofK_succ (c : Int) M0 0 (ofT c M0 M1 0) hkl
              have hat : (ints M0).getD (0 + (k : Int).toNat * 1) (.int .i64 0) = .int .i64 (M0.getD k 0) := by rw [ints_getD, Int.toNat_natCast, Nat.mul_one, Nat.zero_add]
              (conv => whnf); (repeat ((first | (refine ⟨rfl, ?_⟩) | (refine ⟨trivial, ?_⟩) | (refine Wk.yes ?_) | (refine Wk.no ?_) | (refine Wk.and ?_)); (conv => whnf)))
              rw [decide_eq_true (show ((k : Nat) : Int) < ((M0.length : Nat) : Int) by omega)]
              (conv => whnf); (repeat ((first | (refine ⟨rfl, ?_⟩) | (refine ⟨trivial, ?_⟩) | (refine Wk.yes ?_) | (refine Wk.no ?_) | (refine Wk.and ?_)); (conv => whnf)))
              refine ⟨by rw [ints_len, Int.toNat_natCast]; omega, ?_⟩
              rw [hat]
              generalize M0.getD k 0 = z at *
              (conv => whnf); (repeat ((first | (refine ⟨rfl, ?_⟩) | (refine ⟨trivial, ?_⟩) | (refine Wk.yes ?_) | (refine Wk.no ?_) | (refine Wk.and ?_)); (conv => whnf)))
              by_cases hz : z = (c : Int)
              · rw [if_pos hz] at hs
                rw [decide_eq_true hz]
                (conv => whnf); (repeat ((first | (refine ⟨rfl, ?_⟩) | (refine ⟨trivial, ?_⟩) | (refine Wk.yes ?_) | (refine Wk.no ?_) | (refine Wk.and ?_)); (conv => whnf)))
                refine Again.mk (k + 1) (Sub.nil ⟨rfl, rfl, (by simp [treesK, repSt, tab64_LL, gC, wB, giC, noneB, gst, tC, pC, gN, gR, rC, rB]), rfl, (by simp [tupA, hpLt, tmLt, AV.lt, AE.lt, AC.lt, LL_cons, LL_nil, idOk, ABlk.lt, ints_LL, GB, treesK, repSt, tab64_LL, gC, wB, giC, noneB, gst, tC, pC, gN, gR, rC, rB]), (by simp [tupA, hpLt, tmLt, AV.lt, AE.lt, AC.lt, LL_cons, LL_nil, idOk, ABlk.lt, ints_LL, GB, treesK, repSt, tab64_LL, gC, wB, giC, noneB, gst, tC, pC, gN, gR, rC, rB])⟩ ⟨rfl, rfl, rfl, rfl, rfl, rfl, rfl, rfl, by rw [hs]; rfl, rfl, rfl, trivial⟩ (by (repeat (first | exact trivial | refine ⟨trivial, ?_⟩ | refine ⟨rfl, ?_⟩)))) (by omega) (by omega)
              · rw [if_neg hz] at hs
                rw [decide_eq_false hz]
                (conv => whnf); (repeat ((first | (refine ⟨rfl, ?_⟩) | (refine ⟨trivial, ?_⟩) | (refine Wk.yes ?_) | (refine Wk.no ?_) | (refine Wk.and ?_)); (conv => whnf)))
                refine Again.mk (k + 1) (Sub.nil ⟨rfl, rfl, (by simp [treesK, repSt, tab64_LL, gC, wB, giC, noneB, gst, tC, pC, gN, gR, rC, rB]), rfl, (by simp [tupA, hpLt, tmLt, AV.lt, AE.lt, AC.lt, LL_cons, LL_nil, idOk, ABlk.lt, ints_LL, GB, treesK, repSt, tab64_LL, gC, wB, giC, noneB, gst, tC, pC, gN, gR, rC, rB]), (by simp [tupA, hpLt, tmLt, AV.lt, AE.lt, AC.lt, LL_cons, LL_nil, idOk, ABlk.lt, ints_LL, GB, treesK, repSt, tab64_LL, gC, wB, giC, noneB, gst, tC, pC, gN, gR, rC, rB])⟩ ⟨rfl, rfl, rfl, rfl, rfl, rfl, rfl, rfl, by rw [hs]; rfl, rfl, rfl, trivial⟩ (by (repeat (first | exact trivial | refine ⟨trivial, ?_⟩ | refine ⟨rfl, ?_⟩)))) (by omega) (by omega)
            · obtain rfl : k = M0.length := by omega
              (conv => whnf); (repeat ((first | (refine ⟨rfl, ?_⟩) | (refine ⟨trivial, ?_⟩) | (refine Wk.yes ?_) | (refine Wk.no ?_) | (refine Wk.and ?_)); (conv => whnf)))
              rw [decide_eq_false (show ¬ ((M0.length : Nat) : Int) < ((M0.length : Nat) : Int) by omega)]
              intro _
              (conv => whnf); (repeat ((first | (refine ⟨rfl, ?_⟩) | (refine ⟨trivial, ?_⟩) | (refine Wk.yes ?_) | (refine Wk.no ?_) | (refine Wk.and ?_)); (conv => whnf)))
              refine Again.mk (1) (Sub.nil ⟨rfl, rfl, (by simp [treesK, repSt, tab64_LL, gC, wB, giC, noneB, gst, tC, pC, gN, gR, rC, rB]), rfl, (by simp [tupA, hpLt, tmLt, AV.lt, AE.lt, AC.lt, LL_cons, LL_nil, idOk, ABlk.lt, ints_LL, GB, treesK, repSt, tab64_LL, gC, wB, giC, noneB, gst, tC, pC, gN, gR, rC, rB]), (by simp [tupA, hpLt, tmLt, AV.lt, AE.lt, AC.lt, LL_cons, LL_nil, idOk, ABlk.lt, ints_LL, GB, treesK, repSt, tab64_LL, gC, wB, giC, noneB, gst, tC, pC, gN, gR, rC, rB])⟩ (by (repeat (first | exact trivial | refine ⟨trivial, ?_⟩ | refine ⟨rfl, ?_⟩))) (by (repeat (first | exact trivial | refine ⟨trivial, ?_⟩ | refine ⟨rfl, ?_⟩)))) (by omega) (by omega)
        · (conv => whnf); (repeat ((first | (refine ⟨rfl, ?_⟩) | (refine ⟨trivial, ?_⟩) | (refine Wk.yes ?_) | (refine Wk.no ?_) | (refine Wk.and ?_)); (conv => whnf)))
          refine Tr.loop (md := true) (X := Nat) (st := fun k => ⟨[(2, .c (.int .i64 c)), (7, .c (.ptr 6 0)), (8, .c (.ptr 8 0)), (9, .c (.ptr 11 0)), (10, .c (.int .i64 i)), (11, .c (.int .i64 w)), (12, .c (.bool ok)), (13, .c (.int .i64 0)), (14, .c (.int .i64 (ofK c M1 1 (ofT c M0 M1 1) k))), (15, .c (.int .i64 1)), (16, .c (.int .i64 k))], [(5, wB g), (6, .own (gC g 5)), (7, wB g), (8, .own (gC g 7)), (9, .ro (ints M0)), (10, .ro (ints M1)), (11, .own [.rs 9 0 M0.length, .rs 10 0 M1.length]), (100002, .ro tab64), (100000, noneB)], 12, 144, 3⟩) (inv := fun k => k ≤ M1.length) (μ := fun k => M1.length - k) (x0 := 0) (l := []) tok (Nat.zero_le _) ?_ ?_
          · exact Sub.nil ⟨rfl, rfl, (by simp [treesK, repSt, tab64_LL, gC, wB, giC, noneB, gst, tC, pC, gN, gR, rC, rB]), rfl, (by simp [tupA, hpLt, tmLt, AV.lt, AE.lt, AC.lt, LL_cons, LL_nil, idOk, ABlk.lt, ints_LL, GB, treesK, repSt, tab64_LL, gC, wB, giC, noneB, gst, tC, pC, gN, gR, rC, rB]), (by simp [tupA, hpLt, tmLt, AV.lt, AE.lt, AC.lt, LL_cons, LL_nil, idOk, ABlk.lt, ints_LL, GB, treesK, repSt, tab64_LL, gC, wB, giC, noneB, gst, tC, pC, gN, gR, rC, rB])⟩ (by (repeat (first | exact trivial | refine ⟨trivial, ?_⟩ | refine ⟨rfl, ?_⟩))) (by (repeat (first | exact trivial | refine ⟨trivial, ?_⟩ | refine ⟨rfl, ?_⟩)))
          · intro k hk
            by_cases hkl : k < M1.length
            · have hs := ofK_succ (c : Int) M1 1 (ofT c M0 M1 1) hkl
              have hat : (ints M1).getD (0 + (k : Int).toNat * 1) (.int .i64 0) = .int .i64 (M1.getD k 0) := by rw [ints_getD, Int.toNat_natCast, Nat.mul_one, Nat.zero_add]
              (conv => whnf); (repeat ((first | (refine ⟨rfl, ?_⟩) | (refine ⟨trivial, ?_⟩) | (refine Wk.yes ?_) | (refine Wk.no ?_) | (refine Wk.and ?_)); (conv => whnf)))
              rw [decide_eq_true (show ((k : Nat) : Int) < ((M1.length : Nat) : Int) by omega)]
              (conv => whnf); (repeat ((first | (refine ⟨rfl, ?_⟩) | (refine ⟨trivial, ?_⟩) | (refine Wk.yes ?_) | (refine Wk.no ?_) | (refine Wk.and ?_)); (conv => whnf)))
              refine ⟨by rw [ints_len, Int.toNat_natCast]; omega, ?_⟩
              rw [hat]
              generalize M1.getD k 0 = z at *
              (conv => whnf); (repeat ((first | (refine ⟨rfl, ?_⟩) | (refine ⟨trivial, ?_⟩) | (refine Wk.yes ?_) | (refine Wk.no ?_) | (refine Wk.and ?_)); (conv => whnf)))
              by_cases hz : z = (c : Int)
              · rw [if_pos hz] at hs
                rw [decide_eq_true hz]
                (conv => whnf); (repeat ((first | (refine ⟨rfl, ?_⟩) | (refine ⟨trivial, ?_⟩) | (refine Wk.yes ?_) | (refine Wk.no ?_) | (refine Wk.and ?_)); (conv => whnf)))
                refine Again.mk (k + 1) (Sub.nil ⟨rfl, rfl, (by simp [treesK, repSt, tab64_LL, gC, wB, giC, noneB, gst, tC, pC, gN, gR, rC, rB]), rfl, (by simp [tupA, hpLt, tmLt, AV.lt, AE.lt, AC.lt, LL_cons, LL_nil, idOk, ABlk.lt, ints_LL, GB, treesK, repSt, tab64_LL, gC, wB, giC, noneB, gst, tC, pC, gN, gR, rC, rB]), (by simp [tupA, hpLt, tmLt, AV.lt, AE.lt, AC.lt, LL_cons, LL_nil, idOk, ABlk.lt, ints_LL, GB, treesK, repSt, tab64_LL, gC, wB, giC, noneB, gst, tC, pC, gN, gR, rC, rB])⟩ ⟨rfl, rfl, rfl, rfl, rfl, rfl, rfl, rfl, by rw [hs]; rfl, rfl, rfl, trivial⟩ (by (repeat (first | exact trivial | refine ⟨trivial, ?_⟩ | refine ⟨rfl, ?_⟩)))) (by omega) (by omega)
              · rw [if_neg hz] at hs
                rw [decide_eq_false hz]
                (conv => whnf); (repeat ((first | (refine ⟨rfl, ?_⟩) | (refine ⟨trivial, ?_⟩) | (refine Wk.yes ?_) | (refine Wk.no ?_) | (refine Wk.and ?_)); (conv => whnf)))
                refine Again.mk (k + 1) (Sub.nil ⟨rfl, rfl, (by simp [treesK, repSt, tab64_LL, gC, wB, giC, noneB, gst, tC, pC, gN, gR, rC, rB]), rfl, (by simp [tupA, hpLt, tmLt, AV.lt, AE.lt, AC.lt, LL_cons, LL_nil, idOk, ABlk.lt, ints_LL, GB, treesK, repSt, tab64_LL, gC, wB, giC, noneB, gst, tC, pC, gN, gR, rC, rB]), (by simp [tupA, hpLt, tmLt, AV.lt, AE.lt, AC.lt, LL_cons, LL_nil, idOk, ABlk.lt, ints_LL, GB, treesK, repSt, tab64_LL, gC, wB, giC, noneB, gst, tC, pC, gN, gR, rC, rB])⟩ ⟨rfl, rfl, rfl, rfl, rfl, rfl, rfl, rfl, by rw [hs]; rfl, rfl, rfl, trivial⟩ (by (repeat (first | exact trivial | refine ⟨trivial, ?_⟩ | refine ⟨rfl, ?_⟩)))) (by omega) (by omega)
            · obtain rfl : k = M1.length := by omega
              (conv => whnf); (repeat ((first | (refine ⟨rfl, ?_⟩) | (refine ⟨trivial, ?_⟩) | (refine Wk.yes ?_) | (refine Wk.no ?_) | (refine Wk.and ?_)); (conv => whnf)))
              rw [decide_eq_false (show ¬ ((M1.length : Nat) : Int) < ((M1.length : Nat) : Int) by omega)]
              intro _
              (conv => whnf); (repeat ((first | (refine ⟨rfl, ?_⟩) | (refine ⟨trivial, ?_⟩) | (refine Wk.yes ?_) | (refine Wk.no ?_) | (refine Wk.and ?_)); (conv => whnf)))
              refine Again.mk (2) (Sub.nil ⟨rfl, rfl, (by simp [treesK, repSt, tab64_LL, gC, wB, giC, noneB, gst, tC, pC, gN, gR, rC, rB]), rfl, (by simp [tupA, hpLt, tmLt, AV.lt, AE.lt, AC.lt, LL_cons, LL_nil, idOk, ABlk.lt, ints_LL, GB, treesK, repSt, tab64_LL, gC, wB, giC, noneB, gst, tC, pC, gN, gR, rC, rB]), (by simp [tupA, hpLt, tmLt, AV.lt, AE.lt, AC.lt, LL_cons, LL_nil, idOk, ABlk.lt, ints_LL, GB, treesK, repSt, tab64_LL, gC, wB, giC, noneB, gst, tC, pC, gN, gR, rC, rB])⟩ (by (repeat (first | exact trivial | refine ⟨trivial, ?_⟩ | refine ⟨rfl, ?_⟩))) (by (repeat (first | exact trivial | refine ⟨trivial, ?_⟩ | refine ⟨rfl, ?_⟩)))) (by omega) (by omega)
        · generalize ofT c M0 M1 2 = o at *
          rcases hv with ⟨rfl, rfl, wn, rfl, hr⟩ | ⟨rfl, rfl, wn, rfl, hr⟩ | ⟨rfl, rfl, rfl⟩
          · (conv => whnf); (repeat ((first | (refine ⟨rfl, ?_⟩) | (refine ⟨trivial, ?_⟩) | (refine Wk.yes ?_) | (refine Wk.no ?_) | (refine Wk.and ?_)); (conv => whnf)))
            refine CallA.ro [5, 9, 10] (.c (.bool true)) (hr) (by first | rfl | exact congrArg AV.g (ints_ren _ _) | (simp [ints_ren, AV.ren, ABlk.ren, AC.ren, AE.ren, qq]; done)) rfl (by (repeat (first | exact trivial | refine ⟨⟨(by first | exact .inl (by decide) | exact .inr (by decide)), (by first | (refine Or.inl ?_; first | rfl | exact congrArg some (ints_ren _ _).symm | exact congrArg ABlk.own (ints_ren _ _).symm | exact congrArg some (tab64_ren _).symm) | rfl | exact congrArg some (ints_ren _ _).symm | exact congrArg ABlk.own (ints_ren _ _).symm | exact congrArg some (tab64_ren _).symm | exact Or.inr ⟨rfl, rfl⟩)⟩, ?_⟩))) (by first | rfl | exact congrArg AV.g (ints_ren _ _) | (simp [ints_ren, AV.ren, ABlk.ren, AC.ren, AE.ren, qq]; done)) ?_
            (conv => whnf); (repeat ((first | (refine ⟨rfl, ?_⟩) | (refine ⟨trivial, ?_⟩) | (refine Wk.yes ?_) | (refine Wk.no ?_) | (refine Wk.and ?_)); (conv => whnf)))
            cases hT : treesF g (alT g) with
            | none =>
              refine CallA.ro [7] (.t [.g [.nils, .nils], .c (.bool false), .c (.int .i64 0)]) (Trees_none hg hT) (by first | rfl | exact congrArg AV.g (ints_ren _ _) | (simp [ints_ren, AV.ren, ABlk.ren, AC.ren, AE.ren, qq]; done)) rfl (by (repeat (first | exact trivial | refine ⟨⟨(by first | exact .inl (by decide) | exact .inr (by decide)), (by first | (refine Or.inl ?_; first | rfl | exact congrArg some (ints_ren _ _).symm | exact congrArg ABlk.own (ints_ren _ _).symm | exact congrArg some (tab64_ren _).symm) | rfl | exact congrArg some (ints_ren _ _).symm | exact congrArg ABlk.own (ints_ren _ _).symm | exact congrArg some (tab64_ren _).symm | exact Or.inr ⟨rfl, rfl⟩)⟩, ?_⟩))) (by first | rfl | exact congrArg AV.g (ints_ren _ _) | (simp [ints_ren, AV.ren, ABlk.ren, AC.ren, AE.ren, qq]; done)) ?_
              (conv => whnf); (repeat ((first | (refine ⟨rfl, ?_⟩) | (refine ⟨trivial, ?_⟩) | (refine Wk.yes ?_) | (refine Wk.no ?_) | (refine Wk.and ?_)); (conv => whnf)))
              rw [hw1]
              (conv => whnf); (repeat ((first | (refine ⟨rfl, ?_⟩) | (refine ⟨trivial, ?_⟩) | (refine Wk.yes ?_) | (refine Wk.no ?_) | (refine Wk.and ?_)); (conv => whnf)))
              rw [hw2]
              refine Again.under (i + 1, [], [], (um c (g.ws.length + 1) : Int)) (Under.wk [] ⟨rfl, rfl, Nat.le_of_ble_eq_true rfl, Nat.le_of_ble_eq_true rfl⟩ rfl (by repeat (first | exact trivial | refine ⟨?_, ?_⟩ | exact Or.inl rfl | exact Or.inl (tab64_ren _).symm | exact Or.inr (Or.inl (Or.inl (ints_ren _ _).symm)) | exact Or.inr (Or.inl (Or.inr ⟨rfl, rfl, trivial⟩)) | exact Or.inr (Or.inr ⟨rfl, rfl⟩))) (by repeat (first | exact trivial | refine ⟨?_, ?_⟩ | exact Or.inl rfl | exact Or.inl (tab64_ren _).symm | exact Or.inr (Or.inl (Or.inl (ints_ren _ _).symm)) | exact Or.inr (Or.inl (Or.inr ⟨rfl, rfl, trivial⟩)) | exact Or.inr (Or.inr ⟨rfl, rfl⟩))) rfl (by simp [tupA, hpLt, tmLt, AV.lt, AE.lt, AC.lt, LL_cons, LL_nil, idOk, ABlk.lt, ints_LL, GB, treesK, repSt, tab64_LL, gC, wB, giC, noneB, gst, tC, pC, gN, gR, rC, rB]) (by simp [tupA, hpLt, tmLt, AV.lt, AE.lt, AC.lt, LL_cons, LL_nil, idOk, ABlk.lt, ints_LL, GB, treesK, repSt, tab64_LL, gC, wB, giC, noneB, gst, tC, pC, gN, gR, rC, rB])) ⟨by omega, by simp, by simp⟩ (by show 2 - (i + 1) < 2 - i; omega)
            | some p =>
              obtain ⟨ta, tb⟩ := p
              obtain ⟨hta, htb⟩ := hT10 hT
              have hsR := isTreesR_spec hg.ok (mem ta) (mem tb) (by omega) (by omega)
              rw [trees_are hg.ok hg.st hT] at hsR
              refine CallA.det [7] (.t [.g [.rs 12 0 (mem ta).length, .rs 13 0 (mem tb).length], .c (.bool true), .c (.int .i64 0)]) ([(5, wB g), (6, .own (gC g 5)), (7, wB g), (8, .own (gC g 7)), (9, .ro (ints M0)), (10, .ro (ints M1)), (11, .own [.rs 9 0 M0.length, .rs 10 0 M1.length]), (100002, .ro tab64), (100000, noneB), (13, .row 3 1 (ints (mem tb))), (12, .row 3 1 (ints (mem ta)))]) (Trees_some hg hT) (by first | rfl | exact congrArg AV.g (ints_ren _ _) | (simp [ints_ren, AV.ren, ABlk.ren, AC.ren, AE.ren, qq]; done)) rfl (by (repeat (first | exact trivial | refine ⟨⟨(by first | exact .inl (by decide) | exact .inr (by decide)), (by first | (refine Or.inl ?_; first | rfl | exact congrArg some (ints_ren _ _).symm | exact congrArg ABlk.own (ints_ren _ _).symm | exact congrArg some (tab64_ren _).symm) | rfl | exact congrArg some (ints_ren _ _).symm | exact congrArg ABlk.own (ints_ren _ _).symm | exact congrArg some (tab64_ren _).symm | exact Or.inr ⟨rfl, rfl⟩)⟩, ?_⟩))) (by first | rfl | exact congrArg AV.g (ints_ren _ _) | (simp [ints_ren, AV.ren, ABlk.ren, AC.ren, AE.ren, qq]; done)) (by first | rfl | (simp [behind, gone, lk, up, del, qq, ABlk.wr, GB, ints_ren, AV.ren, ABlk.ren, AC.ren, AE.ren]; done) | (simp [behind, gone, lk, up, del, qq, ABlk.wr, GB, ints_ren, AV.ren, ABlk.ren, AC.ren, AE.ren]; rfl)) ?_
              (conv => whnf); (repeat ((first | (refine ⟨rfl, ?_⟩) | (refine ⟨trivial, ?_⟩) | (refine Wk.yes ?_) | (refine Wk.no ?_) | (refine Wk.and ?_)); (conv => whnf)))
              refine CallA.ro [5, 12, 13] (.c (.bool true)) (hsR) (by first | rfl | exact congrArg AV.g (ints_ren _ _) | (simp [ints_ren, AV.ren, ABlk.ren, AC.ren, AE.ren, qq]; done)) rfl (by (repeat (first | exact trivial | refine ⟨⟨(by first | exact .inl (by decide) | exact .inr (by decide)), (by first | (refine Or.inl ?_; first | rfl | exact congrArg some (ints_ren _ _).symm | exact congrArg ABlk.own (ints_ren _ _).symm | exact congrArg some (tab64_ren _).symm) | rfl | exact congrArg some (ints_ren _ _).symm | exact congrArg ABlk.own (ints_ren _ _).symm | exact congrArg some (tab64_ren _).symm | exact Or.inr ⟨rfl, rfl⟩)⟩, ?_⟩))) (by first | rfl | exact congrArg AV.g (ints_ren _ _) | (simp [ints_ren, AV.ren, ABlk.ren, AC.ren, AE.ren, qq]; done)) ?_
              (conv => whnf); (repeat ((first | (refine ⟨rfl, ?_⟩) | (refine ⟨trivial, ?_⟩) | (refine Wk.yes ?_) | (refine Wk.no ?_) | (refine Wk.and ?_)); (conv => whnf)))
              rw [hw1]
              (conv => whnf); (repeat ((first | (refine ⟨rfl, ?_⟩) | (refine ⟨trivial, ?_⟩) | (refine Wk.yes ?_) | (refine Wk.no ?_) | (refine Wk.and ?_)); (conv => whnf)))
              rw [hw2]
              refine Again.under (i + 1, mem ta, mem tb, (um c (g.ws.length + 1) : Int)) (Under.wk [(9, 12), (10, 13)] ⟨rfl, rfl, Nat.le_of_ble_eq_true rfl, Nat.le_of_ble_eq_true rfl⟩ rfl (by repeat (first | exact trivial | refine ⟨?_, ?_⟩ | exact Or.inl rfl | exact Or.inl (tab64_ren _).symm | exact Or.inr (Or.inl (Or.inl (ints_ren _ _).symm)) | exact Or.inr (Or.inl (Or.inr ⟨rfl, rfl, trivial⟩)) | exact Or.inr (Or.inr ⟨rfl, rfl⟩))) (by repeat (first | exact trivial | refine ⟨?_, ?_⟩ | exact Or.inl rfl | exact Or.inl (tab64_ren _).symm | exact Or.inr (Or.inl (Or.inl (ints_ren _ _).symm)) | exact Or.inr (Or.inl (Or.inr ⟨rfl, rfl, trivial⟩)) | exact Or.inr (Or.inr ⟨rfl, rfl⟩))) rfl (by simp [tupA, hpLt, tmLt, AV.lt, AE.lt, AC.lt, LL_cons, LL_nil, idOk, ABlk.lt, ints_LL, GB, treesK, repSt, tab64_LL, gC, wB, giC, noneB, gst, tC, pC, gN, gR, rC, rB]) (by simp [tupA, hpLt, tmLt, AV.lt, AE.lt, AC.lt, LL_cons, LL_nil, idOk, ABlk.lt, ints_LL, GB, treesK, repSt, tab64_LL, gC, wB, giC, noneB, gst, tC, pC, gN, gR, rC, rB])) ⟨by omega, by omega, by omega⟩ (by show 2 - (i + 1) < 2 - i; omega)
          · (conv => whnf); (repeat ((first | (refine ⟨rfl, ?_⟩) | (refine ⟨trivial, ?_⟩) | (refine Wk.yes ?_) | (refine Wk.no ?_) | (refine Wk.and ?_)); (conv => whnf)))
            refine CallA.ro [5, 9, 10] (.c (.bool true)) (hr) (by first | rfl | exact congrArg AV.g (ints_ren _ _) | (simp [ints_ren, AV.ren, ABlk.ren, AC.ren, AE.ren, qq]; done)) rfl (by (repeat (first | exact trivial | refine ⟨⟨(by first | exact .inl (by decide) | exact .inr (by decide)), (by first | (refine Or.inl ?_; first | rfl | exact congrArg some (ints_ren _ _).symm | exact congrArg ABlk.own (ints_ren _ _).symm | exact congrArg some (tab64_ren _).symm) | rfl | exact congrArg some (ints_ren _ _).symm | exact congrArg ABlk.own (ints_ren _ _).symm | exact congrArg some (tab64_ren _).symm | exact Or.inr ⟨rfl, rfl⟩)⟩, ?_⟩))) (by first | rfl | exact congrArg AV.g (ints_ren _ _) | (simp [ints_ren, AV.ren, ABlk.ren, AC.ren, AE.ren, qq]; done)) ?_
            (conv => whnf); (repeat ((first | (refine ⟨rfl, ?_⟩) | (refine ⟨trivial, ?_⟩) | (refine Wk.yes ?_) | (refine Wk.no ?_) | (refine Wk.and ?_)); (conv => whnf)))
            cases hT : treesF g (alT g) with
            | none =>
              refine CallA.ro [7] (.t [.g [.nils, .nils], .c (.bool false), .c (.int .i64 0)]) (Trees_none hg hT) (by first | rfl | exact congrArg AV.g (ints_ren _ _) | (simp [ints_ren, AV.ren, ABlk.ren, AC.ren, AE.ren, qq]; done)) rfl (by (repeat (first | exact trivial | refine ⟨⟨(by first | exact .inl (by decide) | exact .inr (by decide)), (by first | (refine Or.inl ?_; first | rfl | exact congrArg some (ints_ren _ _).symm | exact congrArg ABlk.own (ints_ren _ _).symm | exact congrArg some (tab64_ren _).symm) | rfl | exact congrArg some (ints_ren _ _).symm | exact congrArg ABlk.own (ints_ren _ _).symm | exact congrArg some (tab64_ren _).symm | exact Or.inr ⟨rfl, rfl⟩)⟩, ?_⟩))) (by first | rfl | exact congrArg AV.g (ints_ren _ _) | (simp [ints_ren, AV.ren, ABlk.ren, AC.ren, AE.ren, qq]; done)) ?_
              (conv => whnf); (repeat ((first | (refine ⟨rfl, ?_⟩) | (refine ⟨trivial, ?_⟩) | (refine Wk.yes ?_) | (refine Wk.no ?_) | (refine Wk.and ?_)); (conv => whnf)))
              rw [hw1]
              (conv => whnf); (repeat ((first | (refine ⟨rfl, ?_⟩) | (refine ⟨trivial, ?_⟩) | (refine Wk.yes ?_) | (refine Wk.no ?_) | (refine Wk.and ?_)); (conv => whnf)))
              rw [hw2]
              refine Again.under (i + 1, [], [], (um c (g.ws.length + 1) : Int)) (Under.wk [] ⟨rfl, rfl, Nat.le_of_ble_eq_true rfl, Nat.le_of_ble_eq_true rfl⟩ rfl (by repeat (first | exact trivial | refine ⟨?_, ?_⟩ | exact Or.inl rfl | exact Or.inl (tab64_ren _).symm | exact Or.inr (Or.inl (Or.inl (ints_ren _ _).symm)) | exact Or.inr (Or.inl (Or.inr ⟨rfl, rfl, trivial⟩)) | exact Or.inr (Or.inr ⟨rfl, rfl⟩))) (by repeat (first | exact trivial | refine ⟨?_, ?_⟩ | exact Or.inl rfl | exact Or.inl (tab64_ren _).symm | exact Or.inr (Or.inl (Or.inl (ints_ren _ _).symm)) | exact Or.inr (Or.inl (Or.inr ⟨rfl, rfl, trivial⟩)) | exact Or.inr (Or.inr ⟨rfl, rfl⟩))) rfl (by simp [tupA, hpLt, tmLt, AV.lt, AE.lt, AC.lt, LL_cons, LL_nil, idOk, ABlk.lt, ints_LL, GB, treesK, repSt, tab64_LL, gC, wB, giC, noneB, gst, tC, pC, gN, gR, rC, rB]) (by simp [tupA, hpLt, tmLt, AV.lt, AE.lt, AC.lt, LL_cons, LL_nil, idOk, ABlk.lt, ints_LL, GB, treesK, repSt, tab64_LL, gC, wB, giC, noneB, gst, tC, pC, gN, gR, rC, rB])) ⟨by omega, by simp, by simp⟩ (by show 2 - (i + 1) < 2 - i; omega)
            | some p =>
              obtain ⟨ta, tb⟩ := p
              obtain ⟨hta, htb⟩ := hT10 hT
              have hsR := isTreesR_spec hg.ok (mem ta) (mem tb) (by omega) (by omega)
              rw [trees_are hg.ok hg.st hT] at hsR
              refine CallA.det [7] (.t [.g [.rs 12 0 (mem ta).length, .rs 13 0 (mem tb).length], .c (.bool true), .c (.int .i64 0)]) ([(5, wB g), (6, .own (gC g 5)), (7, wB g), (8, .own (gC g 7)), (9, .ro (ints M0)), (10, .ro (ints M1)), (11, .own [.rs 9 0 M0.length, .rs 10 0 M1.length]), (100002, .ro tab64), (100000, noneB), (13, .row 3 1 (ints (mem tb))), (12, .row 3 1 (ints (mem ta)))]) (Trees_some hg hT) (by first | rfl | exact congrArg AV.g (ints_ren _ _) | (simp [ints_ren, AV.ren, ABlk.ren, AC.ren, AE.ren, qq]; done)) rfl (by (repeat (first | exact trivial | refine ⟨⟨(by first | exact .inl (by decide) | exact .inr (by decide)), (by first | (refine Or.inl ?_; first | rfl | exact congrArg some (ints_ren _ _).symm | exact congrArg ABlk.own (ints_ren _ _).symm | exact congrArg some (tab64_ren _).symm) | rfl | exact congrArg some (ints_ren _ _).symm | exact congrArg ABlk.own (ints_ren _ _).symm | exact congrArg some (tab64_ren _).symm | exact Or.inr ⟨rfl, rfl⟩)⟩, ?_⟩))) (by first | rfl | exact congrArg AV.g (ints_ren _ _) | (simp [ints_ren, AV.ren, ABlk.ren, AC.ren, AE.ren, qq]; done)) (by first | rfl | (simp [behind, gone, lk, up, del, qq, ABlk.wr, GB, ints_ren, AV.ren, ABlk.ren, AC.ren, AE.ren]; done) | (simp [behind, gone, lk, up, del, qq, ABlk.wr, GB, ints_ren, AV.ren, ABlk.ren, AC.ren, AE.ren]; rfl)) ?_
              (conv => whnf); (repeat ((first | (refine ⟨rfl, ?_⟩) | (refine ⟨trivial, ?_⟩) | (refine Wk.yes ?_) | (refine Wk.no ?_) | (refine Wk.and ?_)); (conv => whnf)))
              refine CallA.ro [5, 12, 13] (.c (.bool true)) (hsR) (by first | rfl | exact congrArg AV.g (ints_ren _ _) | (simp [ints_ren, AV.ren, ABlk.ren, AC.ren, AE.ren, qq]; done)) rfl (by (repeat (first | exact trivial | refine ⟨⟨(by first | exact .inl (by decide) | exact .inr (by decide)), (by first | (refine Or.inl ?_; first | rfl | exact congrArg some (ints_ren _ _).symm | exact congrArg ABlk.own (ints_ren _ _).symm | exact congrArg some (tab64_ren _).symm) | rfl | exact congrArg some (ints_ren _ _).symm | exact congrArg ABlk.own (ints_ren _ _).symm | exact congrArg some (tab64_ren _).symm | exact Or.inr ⟨rfl, rfl⟩)⟩, ?_⟩))) (by first | rfl | exact congrArg AV.g (ints_ren _ _) | (simp [ints_ren, AV.ren, ABlk.ren, AC.ren, AE.ren, qq]; done)) ?_
              (conv => whnf); (repeat ((first | (refine ⟨rfl, ?_⟩) | (refine ⟨trivial, ?_⟩) | (refine Wk.yes ?_) | (refine Wk.no ?_) | (refine Wk.and ?_)); (conv => whnf)))
              rw [hw1]
              (conv => whnf); (repeat ((first | (refine ⟨rfl, ?_⟩) | (refine ⟨trivial, ?_⟩) | (refine Wk.yes ?_) | (refine Wk.no ?_) | (refine Wk.and ?_)); (conv => whnf)))
              rw [hw2]
              refine Again.under (i + 1, mem ta, mem tb, (um c (g.ws.length + 1) : Int)) (Under.wk [(9, 12), (10, 13)] ⟨rfl, rfl, Nat.le_of_ble_eq_true rfl, Nat.le_of_ble_eq_true rfl⟩ rfl (by repeat (first | exact trivial | refine ⟨?_, ?_⟩ | exact Or.inl rfl | exact Or.inl (tab64_ren _).symm | exact Or.inr (Or.inl (Or.inl (ints_ren _ _).symm)) | exact Or.inr (Or.inl (Or.inr ⟨rfl, rfl, trivial⟩)) | exact Or.inr (Or.inr ⟨rfl, rfl⟩))) (by repeat (first | exact trivial | refine ⟨?_, ?_⟩ | exact Or.inl rfl | exact Or.inl (tab64_ren _).symm | exact Or.inr (Or.inl (Or.inl (ints_ren _ _).symm)) | exact Or.inr (Or.inl (Or.inr ⟨rfl, rfl, trivial⟩)) | exact Or.inr (Or.inr ⟨rfl, rfl⟩))) rfl (by simp [tupA, hpLt, tmLt, AV.lt, AE.lt, AC.lt, LL_cons, LL_nil, idOk, ABlk.lt, ints_LL, GB, treesK, repSt, tab64_LL, gC, wB, giC, noneB, gst, tC, pC, gN, gR, rC, rB]) (by simp [tupA, hpLt, tmLt, AV.lt, AE.lt, AC.lt, LL_cons, LL_nil, idOk, ABlk.lt, ints_LL, GB, treesK, repSt, tab64_LL, gC, wB, giC, noneB, gst, tC, pC, gN, gR, rC, rB])) ⟨by omega, by omega, by omega⟩ (by show 2 - (i + 1) < 2 - i; omega)
          · (conv => whnf); (repeat ((first | (refine ⟨rfl, ?_⟩) | (refine ⟨trivial, ?_⟩) | (refine Wk.yes ?_) | (refine Wk.no ?_) | (refine Wk.and ?_)); (conv => whnf)))
            cases hT : treesF g (alT g) with
            | none =>
              refine CallA.ro [7] (.t [.g [.nils, .nils], .c (.bool false), .c (.int .i64 0)]) (Trees_none hg hT) (by first | rfl | exact congrArg AV.g (ints_ren _ _) | (simp [ints_ren, AV.ren, ABlk.ren, AC.ren, AE.ren, qq]; done)) rfl (by (repeat (first | exact trivial | refine ⟨⟨(by first | exact .inl (by decide) | exact .inr (by decide)), (by first | (refine Or.inl ?_; first | rfl | exact congrArg some (ints_ren _ _).symm | exact congrArg ABlk.own (ints_ren _ _).symm | exact congrArg some (tab64_ren _).symm) | rfl | exact congrArg some (ints_ren _ _).symm | exact congrArg ABlk.own (ints_ren _ _).symm | exact congrArg some (tab64_ren _).symm | exact Or.inr ⟨rfl, rfl⟩)⟩, ?_⟩))) (by first | rfl | exact congrArg AV.g (ints_ren _ _) | (simp [ints_ren, AV.ren, ABlk.ren, AC.ren, AE.ren, qq]; done)) ?_
              (conv => whnf); (repeat ((first | (refine ⟨rfl, ?_⟩) | (refine ⟨trivial, ?_⟩) | (refine Wk.yes ?_) | (refine Wk.no ?_) | (refine Wk.and ?_)); (conv => whnf)))
              rw [hw1]
              (conv => whnf); (repeat ((first | (refine ⟨rfl, ?_⟩) | (refine ⟨trivial, ?_⟩) | (refine Wk.yes ?_) | (refine Wk.no ?_) | (refine Wk.and ?_)); (conv => whnf)))
              rw [hw2]
              refine Again.under (i + 1, [], [], (um c (g.ws.length + 1) : Int)) (Under.wk [] ⟨rfl, rfl, Nat.le_of_ble_eq_true rfl, Nat.le_of_ble_eq_true rfl⟩ rfl (by repeat (first | exact trivial | refine ⟨?_, ?_⟩ | exact Or.inl rfl | exact Or.inl (tab64_ren _).symm | exact Or.inr (Or.inl (Or.inl (ints_ren _ _).symm)) | exact Or.inr (Or.inl (Or.inr ⟨rfl, rfl, trivial⟩)) | exact Or.inr (Or.inr ⟨rfl, rfl⟩))) (by repeat (first | exact trivial | refine ⟨?_, ?_⟩ | exact Or.inl rfl | exact Or.inl (tab64_ren _).symm | exact Or.inr (Or.inl (Or.inl (ints_ren _ _).symm)) | exact Or.inr (Or.inl (Or.inr ⟨rfl, rfl, trivial⟩)) | exact Or.inr (Or.inr ⟨rfl, rfl⟩))) rfl (by simp [tupA, hpLt, tmLt, AV.lt, AE.lt, AC.lt, LL_cons, LL_nil, idOk, ABlk.lt, ints_LL, GB, treesK, repSt, tab64_LL, gC, wB, giC, noneB, gst, tC, pC, gN, gR, rC, rB]) (by simp [tupA, hpLt, tmLt, AV.lt, AE.lt, AC.lt, LL_cons, LL_nil, idOk, ABlk.lt, ints_LL, GB, treesK, repSt, tab64_LL, gC, wB, giC, noneB, gst, tC, pC, gN, gR, rC, rB])) ⟨by omega, by simp, by simp⟩ (by show 2 - (i + 1) < 2 - i; omega)
            | some p =>
              obtain ⟨ta, tb⟩ := p
              obtain ⟨hta, htb⟩ := hT10 hT
              have hsR := isTreesR_spec hg.ok (mem ta) (mem tb) (by omega) (by omega)
              rw [trees_are hg.ok hg.st hT] at hsR
              refine CallA.det [7] (.t [.g [.rs 12 0 (mem ta).length, .rs 13 0 (mem tb).length], .c (.bool true), .c (.int .i64 0)]) ([(5, wB g), (6, .own (gC g 5)), (7, wB g), (8, .own (gC g 7)), (9, .ro (ints M0)), (10, .ro (ints M1)), (11, .own [.rs 9 0 M0.length, .rs 10 0 M1.length]), (100002, .ro tab64), (100000, noneB), (13, .row 3 1 (ints (mem tb))), (12, .row 3 1 (ints (mem ta)))]) (Trees_some hg hT) (by first | rfl | exact congrArg AV.g (ints_ren _ _) | (simp [ints_ren, AV.ren, ABlk.ren, AC.ren, AE.ren, qq]; done)) rfl (by (repeat (first | exact trivial | refine ⟨⟨(by first | exact .inl (by decide) | exact .inr (by decide)), (by first | (refine Or.inl ?_; first | rfl | exact congrArg some (ints_ren _ _).symm | exact congrArg ABlk.own (ints_ren _ _).symm | exact congrArg some (tab64_ren _).symm) | rfl | exact congrArg some (ints_ren _ _).symm | exact congrArg ABlk.own (ints_ren _ _).symm | exact congrArg some (tab64_ren _).symm | exact Or.inr ⟨rfl, rfl⟩)⟩, ?_⟩))) (by first | rfl | exact congrArg AV.g (ints_ren _ _) | (simp [ints_ren, AV.ren, ABlk.ren, AC.ren, AE.ren, qq]; done)) (by first | rfl | (simp [behind, gone, lk, up, del, qq, ABlk.wr, GB, ints_ren, AV.ren, ABlk.ren, AC.ren, AE.ren]; done) | (simp [behind, gone, lk, up, del, qq, ABlk.wr, GB, ints_ren, AV.ren, ABlk.ren, AC.ren, AE.ren]; rfl)) ?_
              (conv => whnf); (repeat ((first | (refine ⟨rfl, ?_⟩) | (refine ⟨trivial, ?_⟩) | (refine Wk.yes ?_) | (refine Wk.no ?_) | (refine Wk.and ?_)); (conv => whnf)))
              refine CallA.ro [5, 12, 13] (.c (.bool true)) (hsR) (by first | rfl | exact congrArg AV.g (ints_ren _ _) | (simp [ints_ren, AV.ren, ABlk.ren, AC.ren, AE.ren, qq]; done)) rfl (by (repeat (first | exact trivial | refine ⟨⟨(by first | exact .inl (by decide) | exact .inr (by decide)), (by first | (refine Or.inl ?_; first | rfl | exact congrArg some (ints_ren _ _).symm | exact congrArg ABlk.own (ints_ren _ _).symm | exact congrArg some (tab64_ren _).symm) | rfl | exact congrArg some (ints_ren _ _).symm | exact congrArg ABlk.own (ints_ren _ _).symm | exact congrArg some (tab64_ren _).symm | exact Or.inr ⟨rfl, rfl⟩)⟩, ?_⟩))) (by first | rfl | exact congrArg AV.g (ints_ren _ _) | (simp [ints_ren, AV.ren, ABlk.ren, AC.ren, AE.ren, qq]; done)) ?_
              (conv => whnf); (repeat ((first | (refine ⟨rfl, ?_⟩) | (refine ⟨trivial, ?_⟩) | (refine Wk.yes ?_) | (refine Wk.no ?_) | (refine Wk.and ?_)); (conv => whnf)))
              rw [hw1]
              (conv => whnf); (repeat ((first | (refine ⟨rfl, ?_⟩) | (refine ⟨trivial, ?_⟩) | (refine Wk.yes ?_) | (refine Wk.no ?_) | (refine Wk.and ?_)); (conv => whnf)))
              rw [hw2]
              refine Again.under (i + 1, mem ta, mem tb, (um c (g.ws.length + 1) : Int)) (Under.wk [(9, 12), (10, 13)] ⟨rfl, rfl, Nat.le_of_ble_eq_true rfl, Nat.le_of_ble_eq_true rfl⟩ rfl (by repeat (first | exact trivial | refine ⟨?_, ?_⟩ | exact Or.inl rfl | exact Or.inl (tab64_ren _).symm | exact Or.inr (Or.inl (Or.inl (ints_ren _ _).symm)) | exact Or.inr (Or.inl (Or.inr ⟨rfl, rfl, trivial⟩)) | exact Or.inr (Or.inr ⟨rfl, rfl⟩))) (by repeat (first | exact trivial | refine ⟨?_, ?_⟩ | exact Or.inl rfl | exact Or.inl (tab64_ren _).symm | exact Or.inr (Or.inl (Or.inl (ints_ren _ _).symm)) | exact Or.inr (Or.inl (Or.inr ⟨rfl, rfl, trivial⟩)) | exact Or.inr (Or.inr ⟨rfl, rfl⟩))) rfl (by simp [tupA, hpLt, tmLt, AV.lt, AE.lt, AC.lt, LL_cons, LL_nil, idOk, ABlk.lt, ints_LL, GB, treesK, repSt, tab64_LL, gC, wB, giC, noneB, gst, tC, pC, gN, gR, rC, rB]) (by simp [tupA, hpLt, tmLt, AV.lt, AE.lt, AC.lt, LL_cons, LL_nil, idOk, ABlk.lt, ints_LL, GB, treesK, repSt, tab64_LL, gC, wB, giC, noneB, gst, tC, pC, gN, gR, rC, rB])) ⟨by omega, by omega, by omega⟩ (by show 2 - (i + 1) < 2 - i; omega)
end Go.Proofs.YtfphkpdobbffeaaDoor
