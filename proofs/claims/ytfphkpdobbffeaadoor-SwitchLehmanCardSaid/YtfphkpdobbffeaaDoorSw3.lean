/-
  Contracts: who wins, by the program.
-/
import Derived.Test.YtfphkpdobbffeaaDoorSw2
import Derived.Test.YtfphkpdobbffeaaDoorAh5
set_option linter.unusedSimpArgs false
set_option linter.unusedVariables false
namespace Go.Proofs.YtfphkpdobbffeaaDoor
open Go Go.AH
set_option maxRecDepth 100000
set_option maxHeartbeats 1000000

def pC (g : Gm) (w m : Nat) : List AC := [.int .i64 g.n, .int .i64 g.s, .int .i64 g.t, .rs w 0 g.ws.length, .map m]
def ShortOk (g : Gm) (f : Nat) : Prop := ∀ k c, k < 2 ^ g.ws.length → FDet Tryd.prog 58 [.c (.ptr 1 0), .g (tC f k c)] [(0, wB g), (1, .ro (pC g 0 2)), (2, .mi (MI g)), (100002, .ro tab64)] 3 (.c (.bool (W g f k c))) [(2, .mi (MI g))] 3
def GoodOk (g : Gm) (f : Nat) : Prop := ∀ k c, k < 2 ^ g.ws.length → FDet Tryd.prog 83 [.c (.ptr 1 0), .g (tC f k c)] [(0, wB g), (1, .ro (pC g 0 2)), (2, .mi (MI g)), (100002, .ro tab64)] 3
  (.t [.c (.int .i64 ((goodO g f k c).getD 0)), .c (.bool (goodO g f k c).isSome)]) [(2, .mi (MI g))] 3

def ShortPost (g : Gm) (R : AV) (r : AV) (hq : List (Nat × ABlk)) (k : Nat) : Prop := r = R ∧ k = 3 ∧ (hq = [(2, .mi (MI g))] ∨ ∃ m, (MI g m ∧ primM m) ∧ hq = [(2, .mp m)])
theorem ShortPost.wk {g : Gm} {R : AV} (hR : ∀ hq, wkV hq R R) (hl : R.lt 3) : ∀ r hq k', ShortPost g R r hq k' → ∃ r2 hq2, (r2 = R ∧ hq2 = [(2, ABlk.mi (MI g))] ∧ k' = 3) ∧ wkV hq r r2 ∧ wkH hq hq2 ∧ r2.lt k' ∧ hpLt k' hq2 ∧ (hq2.map Prod.fst).Nodup := by
  rintro r hq k' ⟨rfl, rfl, h⟩
  refine ⟨_, _, ⟨rfl, rfl, rfl⟩, hR _, ?_, hl, ⟨.inl (by decide), trivial, trivial⟩, by simp⟩
  rcases h with rfl | ⟨m, hm, rfl⟩
  · exact ⟨rfl, trivial⟩
  · exact ⟨hm, trivial⟩

theorem short_of_good {g : Gm} (hg : g.ok) {f : Nat} (hf : f < 2 ^ g.ws.length) (hG : GoodOk g f) : ShortOk g f := by
  intro k c hk
  have hp : 2 ^ g.ws.length ≤ 1024 := Nat.pow_le_pow_right (by omega) hg.len
  have hkf : k ||| f < 2 ^ g.ws.length := or_lt hk hf
  have hstep := W_step g (f := f) (by omega) k c
  refine FSpec.mi 2 rfl (Go.Proofs.enters_of Tryd.func58 (by kernel_rfl) rfl) fun m hm hpm => ?_
  show FSpec _ _ _ [(0, wB g), (1, .ro (pC g 0 2)), (2, .mp m), (100002, .ro tab64)] _ _
  have hmk := hm.ok (f := f) (k := k) (c := c) (by omega) (by omega)
  refine FSpec.post (Post := ShortPost g (.c (.bool (W g f k c)))) ?_ (ShortPost.wk (fun _ => rfl) trivial)
  have fin : ∀ b : Bool, b = W g f k c → ShortPost g (.c (.bool (W g f k c))) (.c (.bool b)) [(2, .mp m)] 3 := fun b h => ⟨by rw [h], rfl, .inr ⟨m, ⟨hm, hpm⟩, rfl⟩⟩
  refine FSpec.of_body tok true Tryd.func58 rfl (by kernel_rfl) (by decide) (by simp [tupA, hpLt, tmLt, AV.lt, AE.lt, AC.lt, LL_cons, LL_nil, idOk, ABlk.lt, ints_LL, GB, tab64_LL, gC, wB, giC, noneB, gst, tC, pC]) ⟨.inl (by decide), (by simp [tupA, hpLt, tmLt, AV.lt, AE.lt, AC.lt, LL_cons, LL_nil, idOk, ABlk.lt, ints_LL, GB, tab64_LL, gC, wB, giC, noneB, gst, tC, pC]), .inl (by decide), (by simp [tupA, hpLt, tmLt, AV.lt, AE.lt, AC.lt, LL_cons, LL_nil, idOk, ABlk.lt, ints_LL, GB, tab64_LL, gC, wB, giC, noneB, gst, tC, pC]), .inl (by decide), prim_mp hpm 3, .inr (by decide), (by simp [tupA, hpLt, tmLt, AV.lt, AE.lt, AC.lt, LL_cons, LL_nil, idOk, ABlk.lt, ints_LL, GB, tab64_LL, gC, wB, giC, noneB, gst, tC, pC]), trivial⟩ (by show 2 ≤ _; decide) ?_
  refine Wk.on ?_
  refine Tr.draw (md := true) [⟨[], [14, 15, 16], [], [], []⟩, ⟨[0], [14, 15, 16], [], [], []⟩, ⟨[0, 1], [14, 15, 16], [], [], []⟩, ⟨[0, 1, 2], [14, 15, 16], [], [], []⟩, ⟨[], [10, 11, 12, 13], [0, 1, 2, 3], [], []⟩, ⟨[4], [10, 11, 12, 13], [0, 1, 2, 3], [], []⟩, ⟨[4, 5], [10, 11, 12, 13], [0, 1, 2, 3], [], []⟩, ⟨[0, 1, 2, 3, 4, 5, 6], [], [], [], []⟩, ⟨[0, 1, 2, 3, 4, 5, 6, 7], [], [], [], []⟩, ⟨[0, 1, 2, 3, 4, 5, 6, 7, 8], [], [], [], []⟩, ⟨[0, 1, 2, 3, 4, 5, 6, 7, 8, 9], [], [], [], []⟩, ⟨[0, 1, 2, 3, 4, 5, 6, 7, 8, 9, 10], [], [], [], []⟩, ⟨[0, 1, 2, 3, 4, 5, 6, 7, 8, 9, 10, 11], [], [], [], []⟩, ⟨[0, 1, 2, 3, 4, 5, 6, 7, 8, 9, 10, 11, 12], [], [], [], []⟩, ⟨[0, 1, 2, 3, 4, 5, 6, 7, 8, 9, 10, 11, 12, 13], [], [], [], []⟩, ⟨[0, 1, 2, 3, 4, 5, 6, 7, 8, 9, 10, 11, 12, 13, 14], [29, 30, 31, 32, 33, 34, 35], [], [], []⟩, ⟨[0, 1, 2, 3, 4, 5, 6, 7, 8, 9, 10, 11, 12, 13, 14, 15], [29, 30, 31, 32, 33, 34, 35], [], [], []⟩, ⟨[0, 1, 2, 3, 4, 5, 6, 7, 8, 9, 10, 11, 12, 13, 14, 15, 16], [29, 30, 31, 32, 33, 34, 35], [], [], []⟩, ⟨[0, 1, 2, 3, 4, 5, 6, 7, 8, 9, 10, 11, 12, 13, 14, 15, 16, 17], [29, 30, 31, 32, 33, 34, 35], [], [], []⟩, ⟨[0, 1, 2, 3, 4, 5, 6, 7, 8, 9, 10, 11, 12, 13, 14], [25, 26, 27, 28, 32, 33, 34], [15, 16, 17, 18], [], []⟩, ⟨[0, 1, 2, 3, 4, 5, 6, 7, 8, 9, 10, 11, 12, 13, 14, 19], [25, 26, 27, 28, 32, 33, 34], [15, 16, 17, 18], [], []⟩, ⟨[0, 1, 2, 3, 4, 5, 6, 7, 8, 9, 10, 11, 12, 13, 14, 19, 20], [25, 26, 27, 28, 32, 33, 34], [15, 16, 17, 18], [], []⟩, ⟨[0, 1, 2, 3, 4, 5, 6, 7, 8, 9, 10, 11, 12, 13, 14], [25, 26, 27, 28, 29, 30, 31], [15, 16, 17, 18, 19, 20, 21], [], []⟩, ⟨[0, 1, 2, 3, 4, 5, 6, 7, 8, 9, 10, 11, 12, 13, 14, 22], [25, 26, 27, 28, 29, 30, 31], [15, 16, 17, 18, 19, 20, 21], [], []⟩, ⟨[0, 1, 2, 3, 4, 5, 6, 7, 8, 9, 10, 11, 12, 13, 14, 22, 23], [25, 26, 27, 28, 29, 30, 31], [15, 16, 17, 18, 19, 20, 21], [], []⟩, ⟨[0, 1, 2, 3, 4, 5, 6, 7, 8, 9, 10, 11, 12, 13, 14, 19, 20, 21, 22, 23, 24], [25, 26, 27, 28], [15, 16, 17, 18], [], []⟩] tok (by kernel_rfl) (by kernel_rfl) ?_
  refine Wk.on ?_
  refine CallQ.ro [0] (.c (.bool (joinedB g k))) (joined_spec hg hk) (by first | rfl | exact congrArg AV.g (ints_ren _ _) | (simp [ints_ren, AV.ren, ABlk.ren, AC.ren, AE.ren, qq]; done)) rfl (by (repeat (first | exact trivial | refine ⟨⟨(by first | exact .inl (by decide) | exact .inr (by decide)), (by first | (refine Or.inl ?_; first | rfl | exact congrArg some (ints_ren _ _).symm | exact congrArg ABlk.own (ints_ren _ _).symm | exact congrArg some (tab64_ren _).symm | exact (mp_ren hpm _).symm) | rfl | exact congrArg some (ints_ren _ _).symm | exact congrArg ABlk.own (ints_ren _ _).symm | exact congrArg some (tab64_ren _).symm | exact (mp_ren hpm _).symm | exact Or.inr ⟨rfl, rfl⟩)⟩, ?_⟩))) (by first | rfl | exact congrArg AV.g (ints_ren _ _) | (simp [ints_ren, AV.ren, ABlk.ren, AC.ren, AE.ren, qq]; done)) ?_
  refine Wk.on ?_
  refine ⟨fun hc => ?_, fun hc => ?_⟩ <;> (try simp only [decide_eq_true_eq, decide_eq_false_iff_not, Decidable.not_not, Bool.not_true, Bool.not_false, ne_eq, cond_true, cond_false, Bool.not_eq_true', Bool.not_eq_false'] at hc)
  rotate_left
  · refine Wk.on ?_
    refine Tr.draw (md := true) [⟨[], [43, 44, 45], [], [], []⟩, ⟨[0], [43, 44, 45], [], [], []⟩, ⟨[0, 1], [43, 44, 45], [], [], []⟩, ⟨[0, 1, 2], [43, 44, 45], [], [], []⟩, ⟨[], [39, 40, 41, 42], [0, 1, 2, 3], [], []⟩, ⟨[4], [39, 40, 41, 42], [0, 1, 2, 3], [], []⟩, ⟨[4, 5], [39, 40, 41, 42], [0, 1, 2, 3], [], []⟩] tok (by kernel_rfl) (by kernel_rfl) ?_
    refine Wk.on ?_
    refine CallA.ro [0] (.c (.bool (joinedB g k))) (joined_spec hg hk) (by first | rfl | exact congrArg AV.g (ints_ren _ _) | (simp [ints_ren, AV.ren, ABlk.ren, AC.ren, AE.ren, qq]; done)) rfl (by (repeat (first | exact trivial | refine ⟨⟨(by first | exact .inl (by decide) | exact .inr (by decide)), (by first | (refine Or.inl ?_; first | rfl | exact congrArg some (ints_ren _ _).symm | exact congrArg ABlk.own (ints_ren _ _).symm | exact congrArg some (tab64_ren _).symm | exact (mp_ren hpm _).symm) | rfl | exact congrArg some (ints_ren _ _).symm | exact congrArg ABlk.own (ints_ren _ _).symm | exact congrArg some (tab64_ren _).symm | exact (mp_ren hpm _).symm | exact Or.inr ⟨rfl, rfl⟩)⟩, ?_⟩))) (by first | rfl | exact congrArg AV.g (ints_ren _ _) | (simp [ints_ren, AV.ren, ABlk.ren, AC.ren, AE.ren, qq]; done)) ?_
    refine Wk.on ?_
    exact AH.Fin.nil [(2, .mp m)] (fin _ (by rw [hstep, hc]; rfl)) trivial ⟨rfl, trivial⟩ ⟨.inl (Nat.le_of_ble_eq_true rfl), prim_mp hpm 3, trivial⟩ rfl (by simp [GB])
  have hj := hc
  refine Wk.on ?_
  refine ⟨fun hc => ?_, fun hc => ?_⟩ <;> (try simp only [decide_eq_true_eq, decide_eq_false_iff_not, Decidable.not_not, Bool.not_true, Bool.not_false, ne_eq, cond_true, cond_false, Bool.not_eq_true', Bool.not_eq_false'] at hc)
  rotate_left
  · refine Wk.on ?_
    refine Tr.draw (md := true) [⟨[], [43, 44, 45], [], [], []⟩, ⟨[0], [43, 44, 45], [], [], []⟩, ⟨[0, 1], [43, 44, 45], [], [], []⟩, ⟨[0, 1, 2], [43, 44, 45], [], [], []⟩, ⟨[], [39, 40, 41, 42], [0, 1, 2, 3], [], []⟩, ⟨[4], [39, 40, 41, 42], [0, 1, 2, 3], [], []⟩, ⟨[4, 5], [39, 40, 41, 42], [0, 1, 2, 3], [], []⟩] tok (by kernel_rfl) (by kernel_rfl) ?_
    refine Wk.on ?_
    refine CallA.ro [0] (.c (.bool (joinedB g k))) (joined_spec hg hk) (by first | rfl | exact congrArg AV.g (ints_ren _ _) | (simp [ints_ren, AV.ren, ABlk.ren, AC.ren, AE.ren, qq]; done)) rfl (by (repeat (first | exact trivial | refine ⟨⟨(by first | exact .inl (by decide) | exact .inr (by decide)), (by first | (refine Or.inl ?_; first | rfl | exact congrArg some (ints_ren _ _).symm | exact congrArg ABlk.own (ints_ren _ _).symm | exact congrArg some (tab64_ren _).symm | exact (mp_ren hpm _).symm) | rfl | exact congrArg some (ints_ren _ _).symm | exact congrArg ABlk.own (ints_ren _ _).symm | exact congrArg some (tab64_ren _).symm | exact (mp_ren hpm _).symm | exact Or.inr ⟨rfl, rfl⟩)⟩, ?_⟩))) (by first | rfl | exact congrArg AV.g (ints_ren _ _) | (simp [ints_ren, AV.ren, ABlk.ren, AC.ren, AE.ren, qq]; done)) ?_
    refine Wk.on ?_
    exact AH.Fin.nil [(2, .mp m)] (fin _ (by rw [hstep, decide_eq_true (show f = 0 by omega)]; simp)) trivial ⟨rfl, trivial⟩ ⟨.inl (Nat.le_of_ble_eq_true rfl), prim_mp hpm 3, trivial⟩ rfl (by simp [GB])
  have hf0 := hc
  refine Wk.on ?_
  simp only [Int.toNat_natCast]
  refine CallA.ro [0] (.c (.bool (joinedB g (k ||| f)))) (joined_spec hg hkf) (by first | rfl | exact congrArg AV.g (ints_ren _ _) | (simp [ints_ren, AV.ren, ABlk.ren, AC.ren, AE.ren, qq]; done)) rfl (by (repeat (first | exact trivial | refine ⟨⟨(by first | exact .inl (by decide) | exact .inr (by decide)), (by first | (refine Or.inl ?_; first | rfl | exact congrArg some (ints_ren _ _).symm | exact congrArg ABlk.own (ints_ren _ _).symm | exact congrArg some (tab64_ren _).symm | exact (mp_ren hpm _).symm) | rfl | exact congrArg some (ints_ren _ _).symm | exact congrArg ABlk.own (ints_ren _ _).symm | exact congrArg some (tab64_ren _).symm | exact (mp_ren hpm _).symm | exact Or.inr ⟨rfl, rfl⟩)⟩, ?_⟩))) (by first | rfl | exact congrArg AV.g (ints_ren _ _) | (simp [ints_ren, AV.ren, ABlk.ren, AC.ren, AE.ren, qq]; done)) ?_
  refine Wk.on ?_
  refine ⟨fun hc => ?_, fun hc => ?_⟩ <;> (try simp only [decide_eq_true_eq, decide_eq_false_iff_not, Decidable.not_not, Bool.not_true, Bool.not_false, ne_eq, cond_true, cond_false, Bool.not_eq_true', Bool.not_eq_false'] at hc)
  · refine Wk.on ?_
    refine Tr.draw (md := true) [⟨[], [43, 44, 45], [], [], []⟩, ⟨[0], [43, 44, 45], [], [], []⟩, ⟨[0, 1], [43, 44, 45], [], [], []⟩, ⟨[0, 1, 2], [43, 44, 45], [], [], []⟩, ⟨[], [39, 40, 41, 42], [0, 1, 2, 3], [], []⟩, ⟨[4], [39, 40, 41, 42], [0, 1, 2, 3], [], []⟩, ⟨[4, 5], [39, 40, 41, 42], [0, 1, 2, 3], [], []⟩] tok (by kernel_rfl) (by kernel_rfl) ?_
    refine Wk.on ?_
    refine CallA.ro [0] (.c (.bool (joinedB g k))) (joined_spec hg hk) (by first | rfl | exact congrArg AV.g (ints_ren _ _) | (simp [ints_ren, AV.ren, ABlk.ren, AC.ren, AE.ren, qq]; done)) rfl (by (repeat (first | exact trivial | refine ⟨⟨(by first | exact .inl (by decide) | exact .inr (by decide)), (by first | (refine Or.inl ?_; first | rfl | exact congrArg some (ints_ren _ _).symm | exact congrArg ABlk.own (ints_ren _ _).symm | exact congrArg some (tab64_ren _).symm | exact (mp_ren hpm _).symm) | rfl | exact congrArg some (ints_ren _ _).symm | exact congrArg ABlk.own (ints_ren _ _).symm | exact congrArg some (tab64_ren _).symm | exact (mp_ren hpm _).symm | exact Or.inr ⟨rfl, rfl⟩)⟩, ?_⟩))) (by first | rfl | exact congrArg AV.g (ints_ren _ _) | (simp [ints_ren, AV.ren, ABlk.ren, AC.ren, AE.ren, qq]; done)) ?_
    refine Wk.on ?_
    exact AH.Fin.nil [(2, .mp m)] (fin _ (by rw [hstep, hc]; simp)) trivial ⟨rfl, trivial⟩ ⟨.inl (Nat.le_of_ble_eq_true rfl), prim_mp hpm 3, trivial⟩ rfl (by simp [GB])
  have hj2 := hc
  refine Wk.on ?_
  refine Tr.draw (md := true) [⟨[], [52], [], [], []⟩, ⟨[0], [52], [], [], []⟩, ⟨[0, 1], [52], [], [], []⟩, ⟨[0, 1, 2], [52], [], [], []⟩, ⟨[], [48, 49, 50, 51], [0, 1, 2, 3], [], []⟩, ⟨[0, 1, 2, 3, 4], [], [], [], []⟩, ⟨[0, 1, 2, 3, 4, 5], [], [], [], []⟩, ⟨[0, 1, 2, 3, 4, 5, 6], [55], [], [], []⟩, ⟨[0, 1, 2, 3, 4, 5, 6], [5, 54], [7], [], []⟩, ⟨[0, 1, 2, 3, 4, 5, 6, 7], [55], [8], [], []⟩] tok (by kernel_rfl) (by kernel_rfl) ?_
  refine Wk.on ?_
  refine ⟨⟨rfl, hmk⟩, ?_⟩
  refine Wk.on ?_
  have hkk : rdn (tC f k c) 0 [.int .i64 0, .int .i64 0, .bool false] = tC f k c := rfl
  rw [hkk]
  cases hq : mget m (tC f k c) with
  | some v =>
    have hv := MI.get hm hq
    subst hv
    refine Wk.on ?_
    refine ⟨fun _ => ?_, fun h => (by cases h)⟩
    refine Wk.on ?_
    exact AH.Fin.nil [(2, .mp m)] (fin _ rfl) trivial ⟨rfl, trivial⟩ ⟨.inl (Nat.le_of_ble_eq_true rfl), prim_mp hpm 3, trivial⟩ rfl (by simp [GB])
  | none =>
    have hW : ((goodO g f k c).isSome != c) = W g f k c := by
      rw [hstep, if_neg (by simp [hj, hj2]; omega), goodO_some]
    refine Wk.on ?_
    refine CallA.det [0, 1, 2] (.t [.c (.int .i64 ((goodO g f k c).getD 0)), .c (.bool (goodO g f k c).isSome)]) ([(3, .own (tC f k c)), (0, wB g), (1, .ro (pC g 0 2)), (100002, .ro tab64), (2, .mi (MI g))]) (FDet.wk (hG k c hk) (args' := [.c (.ptr 1 0), .g (tC f k c)]) (hp' := [(0, wB g), (1, .ro (pC g 0 2)), (2, .mp m), (100002, .ro tab64)]) ⟨rfl, .inl rfl, trivial⟩ ⟨.inl rfl, .inl rfl, ⟨hm, hpm⟩, .inl rfl, trivial⟩) (by first | rfl | exact congrArg AV.g (ints_ren _ _) | (simp [ints_ren, AV.ren, ABlk.ren, AC.ren, AE.ren, qq]; done)) rfl (by (repeat (first | exact trivial | refine ⟨⟨(by first | exact .inl (by decide) | exact .inr (by decide)), (by first | (refine Or.inl ?_; first | rfl | exact congrArg some (ints_ren _ _).symm | exact congrArg ABlk.own (ints_ren _ _).symm | exact congrArg some (tab64_ren _).symm | exact (mp_ren hpm _).symm) | rfl | exact congrArg some (ints_ren _ _).symm | exact congrArg ABlk.own (ints_ren _ _).symm | exact congrArg some (tab64_ren _).symm | exact (mp_ren hpm _).symm | exact Or.inr ⟨rfl, rfl⟩)⟩, ?_⟩))) (by first | rfl | exact congrArg AV.g (ints_ren _ _) | (simp [ints_ren, AV.ren, ABlk.ren, AC.ren, AE.ren, qq]; done)) (by first | rfl | (simp [behind, gone, lk, up, del, qq, ABlk.wr, GB, ints_ren, AV.ren, ABlk.ren, AC.ren, AE.ren]; done) | (simp [behind, gone, lk, up, del, qq, ABlk.wr, GB, ints_ren, AV.ren, ABlk.ren, AC.ren, AE.ren]; rfl)) ?_
    refine Wk.on ?_
    refine Tr.draw (md := true) [⟨[], [72, 73], [], [], []⟩, ⟨[0], [72, 73], [], [], []⟩, ⟨[0, 1], [72, 73], [], [], []⟩, ⟨[0, 1, 2], [72, 73], [], [], []⟩, ⟨[], [68, 69, 70, 71, 73], [0, 1, 2, 3], [], []⟩, ⟨[], [68, 69, 70, 71, 72], [0, 1, 2, 3, 4], [], []⟩] tok (by kernel_rfl) (by kernel_rfl) ?_
    refine Wk.on ?_
    rw [hW]
    refine ⟨⟨rfl, fun m2 hm2 => ⟨hm2.ok (by omega) (by omega), hm2.set (by omega) (by omega)⟩⟩, ?_⟩
    refine Wk.on ?_
    exact AH.Fin.nil [(2, .mi (MI g))] ⟨rfl, rfl, .inl rfl⟩ trivial ⟨rfl, trivial⟩ ⟨.inl (Nat.le_of_ble_eq_true rfl), trivial, trivial⟩ rfl (by simp [GB])

theorem mem_memN {f : Nat} {x : Int} (h : x ∈ mem f) : ∃ w ∈ memN f, x = (w : Int) ∧ w < 10 := by
  obtain ⟨w, hw, rfl⟩ := List.mem_map.1 h
  refine ⟨w, hw, rfl, ?_⟩
  have := (List.mem_filter.1 hw).1
  simpa using this
theorem good_of_short {g : Gm} (hg : g.ok) {f : Nat} (hf : f < 2 ^ g.ws.length) (hS : ∀ f', f' < f → ShortOk g f') : GoodOk g f := by
  intro k c hk
  have hp : 2 ^ g.ws.length ≤ 1024 := Nat.pow_le_pow_right (by omega) hg.len
  refine FSpec.of_body tok true Tryd.func83 rfl (by kernel_rfl) (by decide) (by simp [tupA, hpLt, tmLt, AV.lt, AE.lt, AC.lt, LL_cons, LL_nil, idOk, ABlk.lt, ints_LL, GB, tab64_LL, gC, wB, giC, noneB, gst, tC, pC]) (by simp [tupA, hpLt, tmLt, AV.lt, AE.lt, AC.lt, LL_cons, LL_nil, idOk, ABlk.lt, ints_LL, GB, tab64_LL, gC, wB, giC, noneB, gst, tC, pC]) (by show 2 ≤ _; decide) ?_
  refine Wk.on ?_
  refine CallA.det [] (.c (.fn 98 [] [7])) ([(6, .own [.bool false]), (5, .own [.int .i64 0]), (4, .own (tC f k c)), (3, .own [.ptr 1 0]), (0, wB g), (1, .ro (pC g 0 2)), (2, .mi (MI g)), (100002, .ro tab64), (7, .own [.int .i64 f])]) (members_spec f) (by first | rfl | exact congrArg AV.g (ints_ren _ _) | (simp [ints_ren, AV.ren, ABlk.ren, AC.ren, AE.ren, qq]; done)) rfl (by (repeat (first | exact trivial | refine ⟨⟨(by first | exact .inl (by decide) | exact .inr (by decide)), (by first | (refine Or.inl ?_; first | rfl | exact congrArg some (ints_ren _ _).symm | exact congrArg ABlk.own (ints_ren _ _).symm | exact congrArg some (tab64_ren _).symm | exact (mp_ren hpm _).symm) | rfl | exact congrArg some (ints_ren _ _).symm | exact congrArg ABlk.own (ints_ren _ _).symm | exact congrArg some (tab64_ren _).symm | exact (mp_ren hpm _).symm | exact Or.inr ⟨rfl, rfl⟩)⟩, ?_⟩))) (by first | rfl | exact congrArg AV.g (ints_ren _ _) | (simp [ints_ren, AV.ren, ABlk.ren, AC.ren, AE.ren, qq]; done)) (by first | rfl | (simp [behind, gone, lk, up, del, qq, ABlk.wr, GB, ints_ren, AV.ren, ABlk.ren, AC.ren, AE.ren]; done) | (simp [behind, gone, lk, up, del, qq, ABlk.wr, GB, ints_ren, AV.ren, ABlk.ren, AC.ren, AE.ren]; rfl)) ?_
  refine Wk.on ?_
  refine Tr.range (md := true) tok rfl (mem f) ([(7, .ro [.int .i64 f]), (100002, .ro tab64)]) (members1_iter (by omega) 7 (by decide)) (by (repeat (first | exact trivial | refine ⟨trivial, ?_⟩ | refine ⟨rfl, ?_⟩))) rfl (fun pre => [(7, .ro [.int .i64 f]), (6, .own [.bool false]), (5, .own [.int .i64 0]), (4, .own (tC f k c)), (3, .own [.ptr 1 0]), (0, wB g), (1, .ro (pC g 0 2)), (2, .mi (MI g)), (100002, .ro tab64)]) (fun pre => ∀ y ∈ pre, goodW g f k c y = false) (8) (by decide) (by first | trivial | rfl | decide | simp) (by (repeat (first | exact trivial | refine ⟨trivial, ?_⟩ | refine ⟨rfl, ?_⟩))) (fun pre hpre => (by simp [tupA, hpLt, tmLt, AV.lt, AE.lt, AC.lt, LL_cons, LL_nil, idOk, ABlk.lt, ints_LL, GB, tab64_LL, gC, wB, giC, noneB, gst, tC, pC])) (fun pre hpre => ⟨(by (repeat (first | exact trivial | refine ⟨trivial, ?_⟩ | refine ⟨rfl, ?_⟩))), (by (repeat (first | exact trivial | refine ⟨trivial, ?_⟩ | refine ⟨rfl, ?_⟩)))⟩) rfl rfl (by decide) ?_ ?_
  · intro pre x hpre hinv hx hl
    obtain ⟨x0, x1⟩ := mem_lt hg.len hf hx
    obtain ⟨w, hw, hxw, hw10⟩ := mem_memN hx
    have hoff := off_mem (n := f) (by omega) hx
    subst hxw
    rw [Int.toNat_natCast] at hoff x1
    obtain ⟨k2, hk2⟩ : ∃ k2, k2 = if c = true then k else k ||| 2 ^ w := ⟨_, rfl⟩
    have hk2' : k2 < 2 ^ g.ws.length := by
      rw [hk2]
      split
      · exact hk
      · exact or_lt hk ((Nat.pow_lt_pow_iff_right (by omega)).2 x1)
    have hgw : goodW g f k c w = (W g (offN f w) k2 (!c) != c) := by rw [goodW, Int.toNat_natCast, ← hk2]
    have next : goodW g f k c w = false → ∀ y ∈ pre ++ [(w : Int)], goodW g f k c y = false := fun h y hy => by
      rcases List.mem_append.1 hy with hy | hy
      · exact hinv y hy
      · simp at hy; exact hy ▸ h
    refine Wk.on ?_
    refine Tr.draw (md := true) [⟨[], [15, 16, 17, 19, 20], [], [], []⟩, ⟨[], [14, 16, 19, 20], [0], [], []⟩, ⟨[], [14, 15, 19, 20], [0, 1], [], []⟩, ⟨[1, 2], [14, 19, 20], [0], [], []⟩, ⟨[0, 1, 2, 3], [19, 20], [], [], []⟩, ⟨[], [14, 15, 16, 17, 18], [0, 1, 2, 3, 4], [], []⟩, ⟨[5], [14, 15, 16, 17, 18], [0, 1, 2, 3, 4], [], []⟩] tok (by kernel_rfl) (by kernel_rfl) ?_
    refine Wk.on ?_
    refine CallQ.ro [] (.g (tC (offN f w) (if c then k else k ||| 2 ^ w) (!c))) (after_spec (f := f) (k := k) (w := w) c (by omega) (by omega) hw10) (by first | rfl | exact congrArg AV.g (ints_ren _ _) | (simp [ints_ren, AV.ren, ABlk.ren, AC.ren, AE.ren, qq]; done)) rfl (by (repeat (first | exact trivial | refine ⟨⟨(by first | exact .inl (by decide) | exact .inr (by decide)), (by first | (refine Or.inl ?_; first | rfl | exact congrArg some (ints_ren _ _).symm | exact congrArg ABlk.own (ints_ren _ _).symm | exact congrArg some (tab64_ren _).symm | exact (mp_ren hpm _).symm) | rfl | exact congrArg some (ints_ren _ _).symm | exact congrArg ABlk.own (ints_ren _ _).symm | exact congrArg some (tab64_ren _).symm | exact (mp_ren hpm _).symm | exact Or.inr ⟨rfl, rfl⟩)⟩, ?_⟩))) (by first | rfl | exact congrArg AV.g (ints_ren _ _) | (simp [ints_ren, AV.ren, ABlk.ren, AC.ren, AE.ren, qq]; done)) ?_
    refine Wk.on ?_
    rw [← hk2]
    refine CallQ.keep [0, 1, 2] (.c (.bool (W g (offN f w) k2 (!c)))) (hS _ hoff.2 k2 (!c) hk2') (by first | rfl | exact congrArg AV.g (ints_ren _ _) | (simp [ints_ren, AV.ren, ABlk.ren, AC.ren, AE.ren, qq]; done)) rfl (by (repeat (first | exact trivial | refine ⟨trivial, ?_⟩ | refine ⟨rfl, ?_⟩))) (by (repeat (first | exact trivial | refine ⟨trivial, ?_⟩ | refine ⟨rfl, ?_⟩))) (by (repeat (first | exact trivial | refine ⟨⟨(by first | exact .inl (by decide) | exact .inr (by decide)), (by first | (refine Or.inl ?_; first | rfl | exact congrArg some (ints_ren _ _).symm | exact congrArg ABlk.own (ints_ren _ _).symm | exact congrArg some (tab64_ren _).symm | exact (mp_ren hpm _).symm) | rfl | exact congrArg some (ints_ren _ _).symm | exact congrArg ABlk.own (ints_ren _ _).symm | exact congrArg some (tab64_ren _).symm | exact (mp_ren hpm _).symm | exact Or.inr ⟨rfl, rfl⟩)⟩, ?_⟩))) (by first | rfl | exact congrArg AV.g (ints_ren _ _) | (simp [ints_ren, AV.ren, ABlk.ren, AC.ren, AE.ren, qq]; done)) ?_
    refine Wk.on ?_
    refine ⟨fun hc => ?_, fun hc => ?_⟩ <;> (try simp only [decide_eq_true_eq, decide_eq_false_iff_not, Decidable.not_not, Bool.not_true, Bool.not_false, ne_eq, cond_true, cond_false, Bool.not_eq_true', Bool.not_eq_false'] at hc)
    · refine Wk.on ?_
      intro hpfx
      have hgo : goodO g f k c = some (w : Int) := by
        obtain ⟨suf, hsuf⟩ := hpfx
        rw [goodO, ← hsuf, List.append_assoc, List.find?_append, List.find?_eq_none.2 (fun y hy => by rw [hinv y hy]; simp)]
        simp [hgw, hc]
      refine ⟨⟨rfl, trivial⟩, ?_⟩
      refine Wk.on ?_
      refine Tr.draw (md := true) [⟨[], [24], [], [], []⟩, ⟨[], [4, 23], [0], [], []⟩, ⟨[0], [24], [1], [], []⟩] tok (by kernel_rfl) (by kernel_rfl) ?_
      refine Wk.on ?_
      exact AH.Fin.nil [(2, .mi (MI g))] ⟨by rw [hgo]; rfl, rfl, rfl⟩ (by simp [tupA, hpLt, tmLt, AV.lt, AE.lt, AC.lt, LL_cons, LL_nil, idOk, ABlk.lt, ints_LL, GB, tab64_LL, gC, wB, giC, noneB, gst, tC, pC]) ⟨rfl, trivial⟩ ⟨.inl (Nat.le_of_ble_eq_true rfl), trivial, trivial⟩ rfl (by simp [GB])
    · exact ⟨(), next (by rw [hgw, hc]), RoundOk.nil (by (repeat (first | exact trivial | refine ⟨trivial, ?_⟩ | refine ⟨rfl, ?_⟩))) rfl⟩
  · intro hinv
    have hno : goodO g f k c = none := by
      rw [goodO, List.find?_eq_none]
      exact fun x hx => by rw [hinv x hx]; simp
    refine Wk.on ?_
    refine Tr.draw (md := true) [⟨[], [24], [], [], []⟩, ⟨[], [4, 23], [0], [], []⟩, ⟨[0], [24], [1], [], []⟩] tok (by kernel_rfl) (by kernel_rfl) ?_
    refine Wk.on ?_
    exact AH.Fin.nil [(2, .mi (MI g))] ⟨by rw [hno]; rfl, rfl, rfl⟩ (by simp [tupA, hpLt, tmLt, AV.lt, AE.lt, AC.lt, LL_cons, LL_nil, idOk, ABlk.lt, ints_LL, GB, tab64_LL, gC, wB, giC, noneB, gst, tC, pC]) ⟨rfl, trivial⟩ ⟨.inl (Nat.le_of_ble_eq_true rfl), trivial, trivial⟩ rfl (by simp [GB])
end Go.Proofs.YtfphkpdobbffeaaDoor

/-
  Contract: Kind, by the program.
-/
namespace Go.Proofs.YtfphkpdobbffeaaDoor
open Go Go.AH
set_option maxRecDepth 100000
set_option maxHeartbeats 1000000

theorem short_all {g : Gm} (hg : g.ok) : ∀ f, f < 2 ^ g.ws.length → ShortOk g f := by
  intro f
  induction f using Nat.strongRecOn with
  | _ f ih => exact fun hf => short_of_good hg hf (good_of_short hg hf fun f' h => ih f' h (by omega))
theorem newP_mi (g : Gm) : FDet Tryd.prog 56 [.g (gC g 0)] [(0, wB g)] 1 (.c (.ptr 2 0)) [(2, .own (pC g 0 1)), (1, .mi (MI g))] 3 :=
  FDet.post newP_spec _ _ rfl ⟨.inl rfl, MI.nil g, trivial⟩ (.inl (by decide)) (by simp [tupA, hpLt, tmLt, AV.lt, AE.lt, AC.lt, LL_cons, LL_nil, idOk, ABlk.lt, ints_LL, GB, tab64_LL, gC, wB, giC, noneB, gst, tC, pC]) rfl
def kindB (g : Gm) : ByteArray := if W g (2 ^ g.ws.length - 1) 0 true then "short".toUTF8 else if W g (2 ^ g.ws.length - 1) 0 false then "first".toUTF8 else "cut".toUTF8
theorem gC_LA {g : Gm} {p : Nat → Prop} (h : p 0) : LA p (gC g 0) := by
  intro x hx
  simp [gC] at hx
  rcases hx with rfl | rfl | rfl | rfl
  · trivial
  · trivial
  · trivial
  · exact h
theorem kind_spec {g : Gm} (hg : g.game) : FDet Tryd.prog 19 [.g (gC g 0)] [(0, wB g), (100002, .ro tab64)] 1 (.t [.c (.str (kindB g)), .c (.int .i64 0)]) [] 1 := by
  have hq3 : 0 < 2 ^ g.ws.length := pow_pos2 _
  have hS := short_all hg.ok (2 ^ g.ws.length - 1) (by omega)
  refine FSpec.of_body tok true Tryd.func19 rfl (by kernel_rfl) (by decide) (by simp [tupA, hpLt, tmLt, AV.lt, AE.lt, AC.lt, LL_cons, LL_nil, idOk, ABlk.lt, ints_LL, GB, tab64_LL, gC, wB, giC, noneB, gst, tC, pC]) (by simp [tupA, hpLt, tmLt, AV.lt, AE.lt, AC.lt, LL_cons, LL_nil, idOk, ABlk.lt, ints_LL, GB, tab64_LL, gC, wB, giC, noneB, gst, tC, pC]) (by show 1 ≤ _; decide) ?_
  refine Wk.on ?_
  refine CallA.ro [0] (.c (.int .i64 0)) (check_ok hg) (by first | rfl | exact congrArg AV.g (ints_ren _ _) | (simp [ints_ren, AV.ren, ABlk.ren, AC.ren, AE.ren, qq]; done)) rfl (by (repeat (first | exact trivial | refine ⟨⟨(by first | exact .inl (by decide) | exact .inr (by decide)), (by first | (refine Or.inl ?_; first | rfl | exact congrArg some (ints_ren _ _).symm | exact congrArg ABlk.own (ints_ren _ _).symm | exact congrArg some (tab64_ren _).symm | exact (mp_ren hpm _).symm) | rfl | exact congrArg some (ints_ren _ _).symm | exact congrArg ABlk.own (ints_ren _ _).symm | exact congrArg some (tab64_ren _).symm | exact (mp_ren hpm _).symm | exact Or.inr ⟨rfl, rfl⟩)⟩, ?_⟩))) (by first | rfl | exact congrArg AV.g (ints_ren _ _) | (simp [ints_ren, AV.ren, ABlk.ren, AC.ren, AE.ren, qq]; done)) ?_
  refine Wk.on ?_
  refine Tr.draw (md := true) [⟨[], [6, 14], [], [], []⟩, ⟨[0], [6, 14], [], [], []⟩, ⟨[], [6, 12, 13], [0, 1], [], []⟩, ⟨[0, 1, 2], [6], [], [], []⟩, ⟨[0, 1, 2, 3], [5, 6], [], [], []⟩, ⟨[], [12, 13, 14, 15, 16], [0, 1, 2, 3, 4], [], []⟩, ⟨[0, 1, 2, 3, 5], [16], [4], [], []⟩] tok (by kernel_rfl) (by kernel_rfl) ?_
  refine Wk.on ?_
  refine CallQ.new [0] (.c (.ptr 3 0)) ([(3, .own (pC g 0 2)), (2, .mi (MI g))]) (newP_mi g) (by first | rfl | exact congrArg AV.g (ints_ren _ _) | (simp [ints_ren, AV.ren, ABlk.ren, AC.ren, AE.ren, qq]; done)) rfl (by (repeat (first | exact trivial | refine ⟨⟨(by first | exact .inl (by decide) | exact .inr (by decide)), (by first | (refine Or.inl ?_; first | rfl | exact congrArg some (ints_ren _ _).symm | exact congrArg ABlk.own (ints_ren _ _).symm | exact congrArg some (tab64_ren _).symm | exact (mp_ren hpm _).symm) | rfl | exact congrArg some (ints_ren _ _).symm | exact congrArg ABlk.own (ints_ren _ _).symm | exact congrArg some (tab64_ren _).symm | exact (mp_ren hpm _).symm | exact Or.inr ⟨rfl, rfl⟩)⟩, ?_⟩))) (by first | rfl | exact congrArg AV.g (ints_ren _ _) | (simp [ints_ren, AV.ren, ABlk.ren, AC.ren, AE.ren, qq]; done)) (by first | rfl | (simp [behind, gone, lk, up, del, qq, ABlk.wr, GB, ints_ren, AV.ren, ABlk.ren, AC.ren, AE.ren]; done) | (simp [behind, gone, lk, up, del, qq, ABlk.wr, GB, ints_ren, AV.ren, ABlk.ren, AC.ren, AE.ren]; rfl)) ?_
  refine Wk.on ?_
  refine ⟨⟨show LA _ (gC g 0) from gC_LA (avB_sound rfl), fun q h => (List.not_mem_nil h).elim⟩, ?_⟩
  refine Wk.on ?_
  refine CallQ.ro [0] (.c (.int .i64 (2 ^ g.ws.length - 1 : Nat))) (all_spec hg.ok) (by first | rfl | exact congrArg AV.g (ints_ren _ _) | (simp [ints_ren, AV.ren, ABlk.ren, AC.ren, AE.ren, qq]; done)) rfl (by (repeat (first | exact trivial | refine ⟨⟨(by first | exact .inl (by decide) | exact .inr (by decide)), (by first | (refine Or.inl ?_; first | rfl | exact congrArg some (ints_ren _ _).symm | exact congrArg ABlk.own (ints_ren _ _).symm | exact congrArg some (tab64_ren _).symm | exact (mp_ren hpm _).symm) | rfl | exact congrArg some (ints_ren _ _).symm | exact congrArg ABlk.own (ints_ren _ _).symm | exact congrArg some (tab64_ren _).symm | exact (mp_ren hpm _).symm | exact Or.inr ⟨rfl, rfl⟩)⟩, ?_⟩))) (by first | rfl | exact congrArg AV.g (ints_ren _ _) | (simp [ints_ren, AV.ren, ABlk.ren, AC.ren, AE.ren, qq]; done)) ?_
  refine Wk.on ?_
  refine CallA.det [0, 3, 2] (.c (.bool (W g (2 ^ g.ws.length - 1) 0 true))) ([(4, .own [.int .i64 ((2 ^ g.ws.length - 1 : Nat) : Int), .int .i64 0]), (3, .own (pC g 0 2)), (1, .own (gC g 0)), (0, wB g), (100002, .ro tab64), (2, .mi (MI g))]) (hS 0 true (by omega)) (by first | rfl | exact congrArg AV.g (ints_ren _ _) | (simp [ints_ren, AV.ren, ABlk.ren, AC.ren, AE.ren, qq]; done)) rfl (by (repeat (first | exact trivial | refine ⟨⟨(by first | exact .inl (by decide) | exact .inr (by decide)), (by first | (refine Or.inl ?_; first | rfl | exact congrArg some (ints_ren _ _).symm | exact congrArg ABlk.own (ints_ren _ _).symm | exact congrArg some (tab64_ren _).symm | exact (mp_ren hpm _).symm) | rfl | exact congrArg some (ints_ren _ _).symm | exact congrArg ABlk.own (ints_ren _ _).symm | exact congrArg some (tab64_ren _).symm | exact (mp_ren hpm _).symm | exact Or.inr ⟨rfl, rfl⟩)⟩, ?_⟩))) (by first | rfl | exact congrArg AV.g (ints_ren _ _) | (simp [ints_ren, AV.ren, ABlk.ren, AC.ren, AE.ren, qq]; done)) (by first | rfl | (simp [behind, gone, lk, up, del, qq, ABlk.wr, GB, ints_ren, AV.ren, ABlk.ren, AC.ren, AE.ren]; done) | (simp [behind, gone, lk, up, del, qq, ABlk.wr, GB, ints_ren, AV.ren, ABlk.ren, AC.ren, AE.ren]; rfl)) ?_
  refine Wk.on ?_
  refine ⟨fun hc => ?_, fun hc => ?_⟩ <;> (try simp only [decide_eq_true_eq, decide_eq_false_iff_not, Decidable.not_not, Bool.not_true, Bool.not_false, ne_eq, cond_true, cond_false, Bool.not_eq_true', Bool.not_eq_false'] at hc)
  · refine Wk.on ?_
    exact AH.Fin.nil [] ⟨by rw [kindB, hc]; rfl, rfl, rfl⟩ (by first | exact trivial | (simp [tupA, hpLt, tmLt, AV.lt, AE.lt, AC.lt, LL_cons, LL_nil, idOk, ABlk.lt, ints_LL, GB, tab64_LL, gC, wB, giC, noneB, gst, tC, pC]; done) | (simp [tupA, hpLt, tmLt, AV.lt, AE.lt, AC.lt, LL_cons, LL_nil, idOk, ABlk.lt, ints_LL, GB, tab64_LL, gC, wB, giC, noneB, gst, tC, pC, rdn, wrn]; done)) trivial trivial rfl (by simp [GB])
  · have hc1 := hc
    refine Wk.on ?_
    refine CallA.det [0, 3, 2] (.c (.bool (W g (2 ^ g.ws.length - 1) 0 false))) ([(4, .own [.int .i64 ((2 ^ g.ws.length - 1 : Nat) : Int), .int .i64 0]), (3, .own (pC g 0 2)), (1, .own (gC g 0)), (0, wB g), (100002, .ro tab64), (2, .mi (MI g))]) (hS 0 false (by omega)) (by first | rfl | exact congrArg AV.g (ints_ren _ _) | (simp [ints_ren, AV.ren, ABlk.ren, AC.ren, AE.ren, qq]; done)) rfl (by (repeat (first | exact trivial | refine ⟨⟨(by first | exact .inl (by decide) | exact .inr (by decide)), (by first | (refine Or.inl ?_; first | rfl | exact congrArg some (ints_ren _ _).symm | exact congrArg ABlk.own (ints_ren _ _).symm | exact congrArg some (tab64_ren _).symm | exact (mp_ren hpm _).symm) | rfl | exact congrArg some (ints_ren _ _).symm | exact congrArg ABlk.own (ints_ren _ _).symm | exact congrArg some (tab64_ren _).symm | exact (mp_ren hpm _).symm | exact Or.inr ⟨rfl, rfl⟩)⟩, ?_⟩))) (by first | rfl | exact congrArg AV.g (ints_ren _ _) | (simp [ints_ren, AV.ren, ABlk.ren, AC.ren, AE.ren, qq]; done)) (by first | rfl | (simp [behind, gone, lk, up, del, qq, ABlk.wr, GB, ints_ren, AV.ren, ABlk.ren, AC.ren, AE.ren]; done) | (simp [behind, gone, lk, up, del, qq, ABlk.wr, GB, ints_ren, AV.ren, ABlk.ren, AC.ren, AE.ren]; rfl)) ?_
    refine Wk.on ?_
    refine ⟨fun hc => ?_, fun hc => ?_⟩ <;> (try simp only [decide_eq_true_eq, decide_eq_false_iff_not, Decidable.not_not, Bool.not_true, Bool.not_false, ne_eq, cond_true, cond_false, Bool.not_eq_true', Bool.not_eq_false'] at hc)
    · refine Wk.on ?_
      exact AH.Fin.nil [] ⟨by rw [kindB, hc1, hc]; rfl, rfl, rfl⟩ (by first | exact trivial | (simp [tupA, hpLt, tmLt, AV.lt, AE.lt, AC.lt, LL_cons, LL_nil, idOk, ABlk.lt, ints_LL, GB, tab64_LL, gC, wB, giC, noneB, gst, tC, pC]; done) | (simp [tupA, hpLt, tmLt, AV.lt, AE.lt, AC.lt, LL_cons, LL_nil, idOk, ABlk.lt, ints_LL, GB, tab64_LL, gC, wB, giC, noneB, gst, tC, pC, rdn, wrn]; done)) trivial trivial rfl (by simp [GB])
    · refine Wk.on ?_
      exact AH.Fin.nil [] ⟨by rw [kindB, hc1, hc]; rfl, rfl, rfl⟩ (by first | exact trivial | (simp [tupA, hpLt, tmLt, AV.lt, AE.lt, AC.lt, LL_cons, LL_nil, idOk, ABlk.lt, ints_LL, GB, tab64_LL, gC, wB, giC, noneB, gst, tC, pC]; done) | (simp [tupA, hpLt, tmLt, AV.lt, AE.lt, AC.lt, LL_cons, LL_nil, idOk, ABlk.lt, ints_LL, GB, tab64_LL, gC, wB, giC, noneB, gst, tC, pC, rdn, wrn]; done)) trivial trivial rfl (by simp [GB])
end Go.Proofs.YtfphkpdobbffeaaDoor

/-
  Contract: a game, given to the program.
-/
namespace Go.Proofs.YtfphkpdobbffeaaDoor
open Go Go.AH
set_option maxRecDepth 100000
set_option maxHeartbeats 1000000

/-- A game without wires, and one whose wires append has made. -/
def gN (g : Gm) : List AC := [.int .i64 g.n, .int .i64 g.s, .int .i64 g.t, .nils]
def gR (g : Gm) (id : Nat) : List AC := [.int .i64 g.n, .int .i64 g.s, .int .i64 g.t, .row id g.ws.length]
theorem given_nil {g : Gm} : FDet Tryd.prog 20 [.g (gN g)] [] 1 (.g (gN g)) [] 1 := by
  refine FSpec.of_body tok true Tryd.func20 rfl (by kernel_rfl) (by decide) (by simp [tupA, hpLt, tmLt, AV.lt, AE.lt, AC.lt, LL_cons, LL_nil, idOk, ABlk.lt, ints_LL, GB, tab64_LL, gC, wB, giC, noneB, gst, tC, pC, gN, gR]) (by simp [tupA, hpLt, tmLt, AV.lt, AE.lt, AC.lt, LL_cons, LL_nil, idOk, ABlk.lt, ints_LL, GB, tab64_LL, gC, wB, giC, noneB, gst, tC, pC, gN, gR]) (by show 1 ≤ _; decide) ?_
  refine Wk.on ?_
  exact AH.Fin.nil [] ⟨rfl, rfl, rfl⟩ (by first | exact trivial | (simp [tupA, hpLt, tmLt, AV.lt, AE.lt, AC.lt, LL_cons, LL_nil, idOk, ABlk.lt, ints_LL, GB, tab64_LL, gC, wB, giC, noneB, gst, tC, pC, gN, gR]; done) | (simp [tupA, hpLt, tmLt, AV.lt, AE.lt, AC.lt, LL_cons, LL_nil, idOk, ABlk.lt, ints_LL, GB, tab64_LL, gC, wB, giC, noneB, gst, tC, pC, gN, gR, rdn, wrn]; done)) trivial trivial rfl (by simp [GB])
theorem given_row {g : Gm} (h : 0 < g.ws.length) (hl : g.ws.length ≤ 10) : FDet Tryd.prog 20 [.g (gC g 0)] [(0, wB g)] 1 (.g (gR g 1)) [(1, .row 60 2 (ints (fl g.ws)))] 2 := by
  have hl2 := fl_len g.ws
  refine FSpec.of_body tok true Tryd.func20 rfl (by kernel_rfl) (by decide) (by simp [tupA, hpLt, tmLt, AV.lt, AE.lt, AC.lt, LL_cons, LL_nil, idOk, ABlk.lt, ints_LL, GB, tab64_LL, gC, wB, giC, noneB, gst, tC, pC, gN, gR]) (by simp [tupA, hpLt, tmLt, AV.lt, AE.lt, AC.lt, LL_cons, LL_nil, idOk, ABlk.lt, ints_LL, GB, tab64_LL, gC, wB, giC, noneB, gst, tC, pC, gN, gR]) (by show 1 ≤ _; decide) ?_
  refine Wk.on ?_
  have hl3 : (ints (fl g.ws)).length = g.ws.length * 2 := by rw [ints_len]; exact hl2
  refine ⟨by rw [hl3]; show 0 + g.ws.length * 2 ≤ _; omega, ?_⟩
  refine Wk.on ?_
  refine ⟨⟨Nat.le_of_ble_eq_true rfl, by show ((g.ws.length : Nat) : Int) * 16 ≤ _; omega, by omega⟩, fun h0 => by omega, fun _ => ?_⟩
  have hpos : ((ints (fl g.ws)).drop 0).take (g.ws.length * 2) = ints (fl g.ws) := by rw [List.drop_zero, List.take_of_length_le (by omega)]
  refine Wk.on ?_
  trace_state
  exact AH.Fin.new [4] _ _ ⟨rfl, rfl, rfl⟩ rfl ⟨by rw [hpos]; exact rowEq rfl, trivial⟩ rfl (by simp [tupA, hpLt, tmLt, AV.lt, AE.lt, AC.lt, LL_cons, LL_nil, idOk, ABlk.lt, ints_LL, GB, tab64_LL, gC, wB, giC, noneB, gst, tC, pC, gN, gR]) (by simp [tupA, hpLt, tmLt, AV.lt, AE.lt, AC.lt, LL_cons, LL_nil, idOk, ABlk.lt, ints_LL, GB, tab64_LL, gC, wB, giC, noneB, gst, tC, pC, gN, gR])
end Go.Proofs.YtfphkpdobbffeaaDoor
