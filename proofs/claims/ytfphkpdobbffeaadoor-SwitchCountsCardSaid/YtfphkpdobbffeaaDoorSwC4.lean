/-
  Contracts: the places of a set of wires, the groups that it makes, whether it is a tree.
-/
import Derived.Test.YtfphkpdobbffeaaDoorSwC3
set_option linter.unusedSimpArgs false
set_option linter.unusedVariables false
namespace Go.Proofs.YtfphkpdobbffeaaDoor
open Go Go.AH
set_option maxRecDepth 100000
set_option maxHeartbeats 1000000

/-- A game. -/
structure Gm where
  n : Nat
  s : Nat
  t : Nat
  ws : List (Nat × Nat)
structure Gm.ok (g : Gm) : Prop where
  n2 : 2 ≤ g.n
  n8 : g.n ≤ 8
  s : g.s < g.n
  t : g.t < g.n
  len : g.ws.length ≤ 10
  ends : ∀ i, i < g.ws.length → (g.ws.getD i (0, 0)).1 < (g.ws.getD i (0, 0)).2 ∧ (g.ws.getD i (0, 0)).2 < g.n
def fl (ws : List (Nat × Nat)) : List Int := ws.flatMap fun w => [(w.1 : Int), (w.2 : Int)]
theorem fl_len (ws : List (Nat × Nat)) : (fl ws).length = ws.length * 2 := by
  induction ws with
  | nil => rfl
  | cons w ws ih => simp [fl] at ih ⊢; omega
theorem fl_get (ws : List (Nat × Nat)) (i : Nat) : (fl ws).getD (i * 2) 0 = ((ws.getD i (0, 0)).1 : Int) ∧ (fl ws).getD (i * 2 + 1) 0 = ((ws.getD i (0, 0)).2 : Int) := by
  induction ws generalizing i with
  | nil => simp [fl]
  | cons w ws ih =>
    cases i with
    | zero => simp [fl]
    | succ i =>
      have := ih i
      simp only [fl, List.flatMap_cons, List.getD_eq_getElem?_getD, List.cons_append, List.nil_append] at this ⊢
      rw [show (i + 1) * 2 = i * 2 + 1 + 1 by omega]
      simpa using this
def gC (g : Gm) (id : Nat) : List AC := [.int .i64 g.n, .int .i64 g.s, .int .i64 g.t, .rs id 0 g.ws.length]
def wB (g : Gm) : ABlk := .ro (ints (fl g.ws))


theorem wget0 (ws : List (Nat × Nat)) (i : Nat) : (ints (fl ws)).getD (0 + i * 2 + Int.toNat 0 * 1) (.int .i64 0) = .int .i64 ((ws.getD i (0, 0)).1 : Nat) := by
  rw [ints_getD, show 0 + i * 2 + Int.toNat 0 * 1 = i * 2 by simp, (fl_get ws i).1]
theorem wget1 (ws : List (Nat × Nat)) (i : Nat) : (ints (fl ws)).getD (0 + i * 2 + Int.toNat 1 * 1) (.int .i64 0) = .int .i64 ((ws.getD i (0, 0)).2 : Nat) := by
  rw [ints_getD, show 0 + i * 2 + Int.toNat 1 * 1 = i * 2 + 1 by simp, (fl_get ws i).2]
theorem wrapU {n : Nat} (h : n < 9223372036854775808) : IntKind.u64.wrap (n : Int) = n := AH.wrap_small _ _ (by omega) (by show (n : Int) < 2 ^ 64; omega) (by intro h; cases h)
theorem shl1 {n q : Nat} (h : q = 2 ^ n) : (1 : Int) * 2 ^ (Int.toNat (n : Int)) = (q : Int) := by simp [h]
theorem or_lt {a b k : Nat} (h : a < 2 ^ k) (h2 : b < 2 ^ k) : a ||| b < 2 ^ k := Nat.or_lt_two_pow h h2
theorem pow_small {n : Nat} (h : n < 11) : 2 ^ n < 2048 := by
  have : 2 ^ n < 2 ^ 11 := (Nat.pow_lt_pow_iff_right (by omega)).2 h
  omega

/-- A bit more, as the places of a set of wires grow. -/
def placesF (g : Gm) (a : Nat) (i : Int) : Nat := a ||| (2 ^ (g.ws.getD i.toNat (0, 0)).1 ||| 2 ^ (g.ws.getD i.toNat (0, 0)).2)
def placesN (g : Gm) (n : Nat) : Nat := (mem n).foldl (placesF g) 0

theorem placesN_lt {g : Gm} (hg : g.ok) : ∀ pre : List Int, (∀ y ∈ pre, y.toNat < g.ws.length) → pre.foldl (placesF g) 0 < 2 ^ 8 := by
  have : ∀ (pre : List Int) (a : Nat), a < 2 ^ 8 → (∀ y ∈ pre, y.toNat < g.ws.length) → pre.foldl (placesF g) a < 2 ^ 8 := by
    intro pre
    induction pre with
    | nil => intro a h _; exact h
    | cons y pre ih =>
      intro a h hy
      refine ih _ ?_ (fun z hz => hy z (by simp [hz]))
      have he := hg.ends _ (hy y (by simp))
      have h8 := hg.n8
      exact or_lt h (or_lt ((Nat.pow_lt_pow_iff_right (by omega)).2 (by omega)) ((Nat.pow_lt_pow_iff_right (by omega)).2 (by omega)))
  exact fun pre h => this pre 0 (by decide) h
theorem mem_lt {n k : Nat} (hk : k ≤ 10) (hn : n < 2 ^ k) {x : Int} (hx : x ∈ mem n) : 0 ≤ x ∧ x.toNat < k := by
  simp only [mem, List.mem_map, memN, List.mem_filter, List.mem_range] at hx
  obtain ⟨i, ⟨h1, h2⟩, rfl⟩ := hx
  refine ⟨Int.natCast_nonneg i, ?_⟩
  have : 2 ^ i ≤ n := Nat.ge_two_pow_of_testBit h2
  have h4 : 2 ^ i < 2 ^ k := by omega
  have := (Nat.pow_lt_pow_iff_right (a := 2) (by omega)).1 h4
  show (Int.ofNat i).toNat < k
  simpa using this

theorem places_spec {g : Gm} (hg : g.ok) {n : Nat} (hn : n < 2 ^ g.ws.length) : FDet Tryd.prog 75 [.g (gC g 0), .c (.int .i64 n)] [(0, wB g), (100002, .ro tab64)] 1 (.c (.int .i64 (placesN g n))) [] 1 := by
  have hn' : n < 1024 := by have : 2 ^ g.ws.length ≤ 2 ^ 10 := Nat.pow_le_pow_right (by omega) hg.len; omega
  refine FSpec.of_body tok true Tryd.func75 rfl (by kernel_rfl) (by decide) (by simp [tupA, hpLt, tmLt, AV.lt, AE.lt, AC.lt, LL_cons, LL_nil, idOk, ABlk.lt, ints_LL, GB, tab64_LL, gC, wB]) (by simp [tupA, hpLt, tmLt, AV.lt, AE.lt, AC.lt, LL_cons, LL_nil, idOk, ABlk.lt, ints_LL, GB, tab64_LL, gC, wB]) (by show 2 ≤ _; decide) ?_
  (conv => whnf); (repeat ((first | (refine ⟨rfl, ?_⟩) | (refine ⟨trivial, ?_⟩) | (refine ⟨fun _ => ?_, fun h => absurd h (by decide)⟩) | (refine ⟨fun h => absurd h (by decide), fun _ => ?_⟩) | (refine ⟨by (first | exact Nat.le_of_ble_eq_true rfl | exact ⟨rfl, Nat.le_of_ble_eq_true rfl⟩ | exact ⟨Nat.le_of_ble_eq_true rfl, rfl⟩ | exact ⟨rfl, rfl⟩ | (with_reducible assumption) | exact ⟨by with_reducible assumption, rfl⟩ | ((with_reducible refine bsCond ?_); rfl) | ((with_reducible refine nilsCond ?_); rfl) | omega | exact ⟨rfl, by omega⟩ | exact ⟨by omega, rfl⟩ | exact ⟨by omega, by omega, by omega, by omega, rfl⟩ | decide | (unfold I64; omega) | exact ⟨by omega, by omega, by unfold I64; omega⟩  | exact ⟨trivial, fun q hq => absurd hq List.not_mem_nil⟩ | (simp [AV.all, AC.all, AE.all, ABlk.all, avAll, holes, rgN, outside, ints_LA, LA_nil, LA_cons] <;> fail) | exact ⟨by omega, by show _ < (64 : Int); omega⟩), ?_⟩)); (conv => whnf)))
  refine CallA.det [] (.c (.fn 98 [] [3])) ([(2, .own [.int .i64 0]), (1, .own (gC g 0)), (0, wB g), (100002, .ro tab64), (3, .own [.int .i64 n])]) (members_spec n) (by first | rfl | exact congrArg AV.g (ints_ren _ _) | (simp [ints_ren, AV.ren, ABlk.ren, AC.ren, AE.ren, qq]; done)) rfl (by (repeat (first | exact trivial | refine ⟨⟨(by first | exact .inl (by decide) | exact .inr (by decide)), (by first | rfl | exact congrArg some (ints_ren _ _).symm | exact congrArg ABlk.own (ints_ren _ _).symm | exact congrArg some (tab64_ren _).symm)⟩, ?_⟩))) (by first | rfl | exact congrArg AV.g (ints_ren _ _) | (simp [ints_ren, AV.ren, ABlk.ren, AC.ren, AE.ren, qq]; done)) (by first | rfl | (simp [behind, gone, lk, up, del, qq, ABlk.wr, GB, ints_ren, AV.ren, ABlk.ren, AC.ren, AE.ren]; done) | (simp [behind, gone, lk, up, del, qq, ABlk.wr, GB, ints_ren, AV.ren, ABlk.ren, AC.ren, AE.ren]; rfl)) ?_
  (conv => whnf); (repeat ((first | (refine ⟨rfl, ?_⟩) | (refine ⟨trivial, ?_⟩) | (refine ⟨fun _ => ?_, fun h => absurd h (by decide)⟩) | (refine ⟨fun h => absurd h (by decide), fun _ => ?_⟩) | (refine ⟨by (first | exact Nat.le_of_ble_eq_true rfl | exact ⟨rfl, Nat.le_of_ble_eq_true rfl⟩ | exact ⟨Nat.le_of_ble_eq_true rfl, rfl⟩ | exact ⟨rfl, rfl⟩ | (with_reducible assumption) | exact ⟨by with_reducible assumption, rfl⟩ | ((with_reducible refine bsCond ?_); rfl) | ((with_reducible refine nilsCond ?_); rfl) | omega | exact ⟨rfl, by omega⟩ | exact ⟨by omega, rfl⟩ | exact ⟨by omega, by omega, by omega, by omega, rfl⟩ | decide | (unfold I64; omega) | exact ⟨by omega, by omega, by unfold I64; omega⟩  | exact ⟨trivial, fun q hq => absurd hq List.not_mem_nil⟩ | (simp [AV.all, AC.all, AE.all, ABlk.all, avAll, holes, rgN, outside, ints_LA, LA_nil, LA_cons] <;> fail) | exact ⟨by omega, by show _ < (64 : Int); omega⟩), ?_⟩)); (conv => whnf)))
  refine Tr.range (md := true) tok rfl (mem n) ([(3, .ro [.int .i64 n]), (100002, .ro tab64)]) (members1_iter hn' 3 (by decide)) (by (repeat (first | exact trivial | refine ⟨trivial, ?_⟩ | refine ⟨rfl, ?_⟩))) rfl (fun pre => [(3, .ro [.int .i64 n]), (2, .own [.int .i64 (pre.foldl (placesF g) 0 : Nat)]), (1, .own (gC g 0)), (0, wB g), (100002, .ro tab64)]) (fun _ => True) (4) (by decide) (by first | trivial | rfl | decide) (by (repeat (first | exact trivial | refine ⟨trivial, ?_⟩ | refine ⟨rfl, ?_⟩))) (fun pre hpre => (by simp [tupA, hpLt, tmLt, AV.lt, AE.lt, AC.lt, LL_cons, LL_nil, idOk, ABlk.lt, ints_LL, GB, tab64_LL, gC, wB])) (fun pre hpre => ⟨(by (repeat (first | exact trivial | refine ⟨trivial, ?_⟩ | refine ⟨rfl, ?_⟩))), (by (repeat (first | exact trivial | refine ⟨trivial, ?_⟩ | refine ⟨rfl, ?_⟩)))⟩) rfl rfl (by decide) ?_ ?_
  · intro pre x hpre _ hx hl
    obtain ⟨x0, x1⟩ := mem_lt hg.len hn hx
    (conv => whnf); (repeat ((first | (refine ⟨rfl, ?_⟩) | (refine ⟨trivial, ?_⟩) | (refine ⟨fun _ => ?_, fun h => absurd h (by decide)⟩) | (refine ⟨fun h => absurd h (by decide), fun _ => ?_⟩) | (refine ⟨by (first | exact Nat.le_of_ble_eq_true rfl | exact ⟨rfl, Nat.le_of_ble_eq_true rfl⟩ | exact ⟨Nat.le_of_ble_eq_true rfl, rfl⟩ | exact ⟨rfl, rfl⟩ | (with_reducible assumption) | exact ⟨by with_reducible assumption, rfl⟩ | ((with_reducible refine bsCond ?_); rfl) | ((with_reducible refine nilsCond ?_); rfl) | omega | exact ⟨rfl, by omega⟩ | exact ⟨by omega, rfl⟩ | exact ⟨by omega, by omega, by omega, by omega, rfl⟩ | decide | (unfold I64; omega) | exact ⟨by omega, by omega, by unfold I64; omega⟩  | exact ⟨trivial, fun q hq => absurd hq List.not_mem_nil⟩ | (simp [AV.all, AC.all, AE.all, ABlk.all, avAll, holes, rgN, outside, ints_LA, LA_nil, LA_cons] <;> fail) | exact ⟨by omega, by show _ < (64 : Int); omega⟩), ?_⟩)); (conv => whnf)))
    have he := hg.ends _ x1
    have h8 := hg.n8
    obtain ⟨w1, hw1⟩ : ∃ w, w = (g.ws.getD x.toNat (0, 0)).1 := ⟨_, rfl⟩
    obtain ⟨w2, hw2⟩ : ∃ w, w = (g.ws.getD x.toNat (0, 0)).2 := ⟨_, rfl⟩
    obtain ⟨q1, hq1⟩ : ∃ q, q = 2 ^ w1 := ⟨_, rfl⟩
    obtain ⟨q2, hq2⟩ : ∃ q, q = 2 ^ w2 := ⟨_, rfl⟩
    have p1 : q1 < 2 ^ 8 := by rw [hq1]; exact (Nat.pow_lt_pow_iff_right (by omega)).2 (by omega)
    have p2 : q2 < 2 ^ 8 := by rw [hq2]; exact (Nat.pow_lt_pow_iff_right (by omega)).2 (by omega)
    obtain ⟨a, ha⟩ : ∃ a, a = pre.foldl (placesF g) 0 := ⟨_, rfl⟩
    have ha8 : a < 2 ^ 8 := by rw [ha]; exact placesN_lt hg pre fun y hy => (mem_lt hg.len hn (hpre y hy)).2
    have h12 := or_lt p1 p2
    obtain ⟨q3, hq3⟩ : ∃ q, q = q1 ||| q2 := ⟨_, rfl⟩
    rw [← hq3] at h12
    simp only [← ha]
    have hlen : 0 + x.toNat * 2 + Int.toNat 0 * 1 + 1 ≤ (ints (fl g.ws)).length ∧ 0 + x.toNat * 2 + Int.toNat 1 * 1 + 1 ≤ (ints (fl g.ws)).length := by
      rw [ints_len, fl_len]; simp; omega
    refine Tr.draw (md := true) [⟨[], [11, 12, 13, 14, 15, 16, 17, 18, 19, 20, 21, 22, 23, 24, 25, 26, 27], []⟩, ⟨[], [10, 13, 19, 20, 21, 22, 23, 24, 25, 26], [0]⟩, ⟨[1], [10, 13, 19, 20, 21, 22, 23, 24, 25, 26], [0]⟩, ⟨[], [10, 11, 12, 19, 20, 21, 22, 23, 24, 25, 26], [0, 1, 2]⟩, ⟨[1, 2, 3], [10, 19, 20, 21, 22, 23, 24, 25, 26], [0]⟩, ⟨[1, 2, 3, 4], [10, 19, 20, 21, 22, 23, 24, 25, 26], [0]⟩, ⟨[1, 2, 3, 4, 5], [10, 19, 20, 21, 22, 23, 24, 25, 26], [0]⟩, ⟨[1, 2, 3, 4, 5, 6], [10, 19, 20, 21, 22, 23, 24, 25, 26], [0]⟩, ⟨[1, 2, 3, 4, 5, 6, 7], [10, 19, 20, 21, 22, 23, 24, 25, 26], [0]⟩, ⟨[], [10, 11, 12, 13, 14, 15, 16, 17, 18, 21], [0, 1, 2, 3, 4, 5, 6, 7, 8]⟩, ⟨[9], [10, 11, 12, 13, 14, 15, 16, 17, 18, 21], [0, 1, 2, 3, 4, 5, 6, 7, 8]⟩, ⟨[], [10, 11, 12, 13, 14, 15, 16, 17, 18, 19, 20], [0, 1, 2, 3, 4, 5, 6, 7, 8, 9, 10]⟩, ⟨[9, 10, 11], [10, 11, 12, 13, 14, 15, 16, 17, 18], [0, 1, 2, 3, 4, 5, 6, 7, 8]⟩, ⟨[9, 10, 11, 12], [10, 11, 12, 13, 14, 15, 16, 17, 18], [0, 1, 2, 3, 4, 5, 6, 7, 8]⟩, ⟨[9, 10, 11, 12, 13], [10, 11, 12, 13, 14, 15, 16, 17, 18], [0, 1, 2, 3, 4, 5, 6, 7, 8]⟩, ⟨[9, 10, 11, 12, 13, 14], [10, 11, 12, 13, 14, 15, 16, 17, 18], [0, 1, 2, 3, 4, 5, 6, 7, 8]⟩, ⟨[9, 10, 11, 12, 13, 14, 15], [10, 11, 12, 13, 14, 15, 16, 17, 18], [0, 1, 2, 3, 4, 5, 6, 7, 8]⟩, ⟨[1, 2, 3, 4, 5, 6, 7, 8, 9, 10, 11, 12, 13, 14, 15, 16], [10], [0]⟩] tok (by kernel_rfl) (by kernel_rfl) ?_
    (conv => whnf); (repeat ((first | (refine ⟨rfl, ?_⟩) | (refine ⟨trivial, ?_⟩) | (refine ⟨fun _ => ?_, fun h => absurd h (by decide)⟩) | (refine ⟨fun h => absurd h (by decide), fun _ => ?_⟩) | (refine ⟨by (first | exact Nat.le_of_ble_eq_true rfl | exact ⟨rfl, Nat.le_of_ble_eq_true rfl⟩ | exact ⟨Nat.le_of_ble_eq_true rfl, rfl⟩ | exact ⟨rfl, rfl⟩ | (with_reducible assumption) | exact ⟨by with_reducible assumption, rfl⟩ | ((with_reducible refine bsCond ?_); rfl) | ((with_reducible refine nilsCond ?_); rfl) | omega | exact ⟨rfl, by omega⟩ | exact ⟨by omega, rfl⟩ | exact ⟨by omega, by omega, by omega, by omega, rfl⟩ | decide | (unfold I64; omega) | exact ⟨by omega, by omega, by unfold I64; omega⟩  | exact ⟨trivial, fun q hq => absurd hq List.not_mem_nil⟩ | (simp [AV.all, AC.all, AE.all, ABlk.all, avAll, holes, rgN, outside, ints_LA, LA_nil, LA_cons] <;> fail) | exact ⟨by omega, by show _ < (64 : Int); omega⟩), ?_⟩)); (conv => whnf)))
    rw [wget0, ← hw1]
    (conv => whnf); (repeat ((first | (refine ⟨rfl, ?_⟩) | (refine ⟨trivial, ?_⟩) | (refine ⟨fun _ => ?_, fun h => absurd h (by decide)⟩) | (refine ⟨fun h => absurd h (by decide), fun _ => ?_⟩) | (refine ⟨by (first | exact Nat.le_of_ble_eq_true rfl | exact ⟨rfl, Nat.le_of_ble_eq_true rfl⟩ | exact ⟨Nat.le_of_ble_eq_true rfl, rfl⟩ | exact ⟨rfl, rfl⟩ | (with_reducible assumption) | exact ⟨by with_reducible assumption, rfl⟩ | ((with_reducible refine bsCond ?_); rfl) | ((with_reducible refine nilsCond ?_); rfl) | omega | exact ⟨rfl, by omega⟩ | exact ⟨by omega, rfl⟩ | exact ⟨by omega, by omega, by omega, by omega, rfl⟩ | decide | (unfold I64; omega) | exact ⟨by omega, by omega, by unfold I64; omega⟩  | exact ⟨trivial, fun q hq => absurd hq List.not_mem_nil⟩ | (simp [AV.all, AC.all, AE.all, ABlk.all, avAll, holes, rgN, outside, ints_LA, LA_nil, LA_cons] <;> fail) | exact ⟨by omega, by show _ < (64 : Int); omega⟩), ?_⟩)); (conv => whnf)))
    rw [wrapU (by omega)]
    (conv => whnf); (repeat ((first | (refine ⟨rfl, ?_⟩) | (refine ⟨trivial, ?_⟩) | (refine ⟨fun _ => ?_, fun h => absurd h (by decide)⟩) | (refine ⟨fun h => absurd h (by decide), fun _ => ?_⟩) | (refine ⟨by (first | exact Nat.le_of_ble_eq_true rfl | exact ⟨rfl, Nat.le_of_ble_eq_true rfl⟩ | exact ⟨Nat.le_of_ble_eq_true rfl, rfl⟩ | exact ⟨rfl, rfl⟩ | (with_reducible assumption) | exact ⟨by with_reducible assumption, rfl⟩ | ((with_reducible refine bsCond ?_); rfl) | ((with_reducible refine nilsCond ?_); rfl) | omega | exact ⟨rfl, by omega⟩ | exact ⟨by omega, rfl⟩ | exact ⟨by omega, by omega, by omega, by omega, rfl⟩ | decide | (unfold I64; omega) | exact ⟨by omega, by omega, by unfold I64; omega⟩  | exact ⟨trivial, fun q hq => absurd hq List.not_mem_nil⟩ | (simp [AV.all, AC.all, AE.all, ABlk.all, avAll, holes, rgN, outside, ints_LA, LA_nil, LA_cons] <;> fail) | exact ⟨by omega, by show _ < (64 : Int); omega⟩), ?_⟩)); (conv => whnf)))
    refine ⟨⟨by omega, by omega, by rw [shl1 hq1]; unfold I64; omega⟩, ?_⟩
    rw [shl1 hq1]
    (conv => whnf); (repeat ((first | (refine ⟨rfl, ?_⟩) | (refine ⟨trivial, ?_⟩) | (refine ⟨fun _ => ?_, fun h => absurd h (by decide)⟩) | (refine ⟨fun h => absurd h (by decide), fun _ => ?_⟩) | (refine ⟨by (first | exact Nat.le_of_ble_eq_true rfl | exact ⟨rfl, Nat.le_of_ble_eq_true rfl⟩ | exact ⟨Nat.le_of_ble_eq_true rfl, rfl⟩ | exact ⟨rfl, rfl⟩ | (with_reducible assumption) | exact ⟨by with_reducible assumption, rfl⟩ | ((with_reducible refine bsCond ?_); rfl) | ((with_reducible refine nilsCond ?_); rfl) | omega | exact ⟨rfl, by omega⟩ | exact ⟨by omega, rfl⟩ | exact ⟨by omega, by omega, by omega, by omega, rfl⟩ | decide | (unfold I64; omega) | exact ⟨by omega, by omega, by unfold I64; omega⟩  | exact ⟨trivial, fun q hq => absurd hq List.not_mem_nil⟩ | (simp [AV.all, AC.all, AE.all, ABlk.all, avAll, holes, rgN, outside, ints_LA, LA_nil, LA_cons] <;> fail) | exact ⟨by omega, by show _ < (64 : Int); omega⟩), ?_⟩)); (conv => whnf)))
    rw [wget1, ← hw2]
    (conv => whnf); (repeat ((first | (refine ⟨rfl, ?_⟩) | (refine ⟨trivial, ?_⟩) | (refine ⟨fun _ => ?_, fun h => absurd h (by decide)⟩) | (refine ⟨fun h => absurd h (by decide), fun _ => ?_⟩) | (refine ⟨by (first | exact Nat.le_of_ble_eq_true rfl | exact ⟨rfl, Nat.le_of_ble_eq_true rfl⟩ | exact ⟨Nat.le_of_ble_eq_true rfl, rfl⟩ | exact ⟨rfl, rfl⟩ | (with_reducible assumption) | exact ⟨by with_reducible assumption, rfl⟩ | ((with_reducible refine bsCond ?_); rfl) | ((with_reducible refine nilsCond ?_); rfl) | omega | exact ⟨rfl, by omega⟩ | exact ⟨by omega, rfl⟩ | exact ⟨by omega, by omega, by omega, by omega, rfl⟩ | decide | (unfold I64; omega) | exact ⟨by omega, by omega, by unfold I64; omega⟩  | exact ⟨trivial, fun q hq => absurd hq List.not_mem_nil⟩ | (simp [AV.all, AC.all, AE.all, ABlk.all, avAll, holes, rgN, outside, ints_LA, LA_nil, LA_cons] <;> fail) | exact ⟨by omega, by show _ < (64 : Int); omega⟩), ?_⟩)); (conv => whnf)))
    rw [wrapU (by omega)]
    (conv => whnf); (repeat ((first | (refine ⟨rfl, ?_⟩) | (refine ⟨trivial, ?_⟩) | (refine ⟨fun _ => ?_, fun h => absurd h (by decide)⟩) | (refine ⟨fun h => absurd h (by decide), fun _ => ?_⟩) | (refine ⟨by (first | exact Nat.le_of_ble_eq_true rfl | exact ⟨rfl, Nat.le_of_ble_eq_true rfl⟩ | exact ⟨Nat.le_of_ble_eq_true rfl, rfl⟩ | exact ⟨rfl, rfl⟩ | (with_reducible assumption) | exact ⟨by with_reducible assumption, rfl⟩ | ((with_reducible refine bsCond ?_); rfl) | ((with_reducible refine nilsCond ?_); rfl) | omega | exact ⟨rfl, by omega⟩ | exact ⟨by omega, rfl⟩ | exact ⟨by omega, by omega, by omega, by omega, rfl⟩ | decide | (unfold I64; omega) | exact ⟨by omega, by omega, by unfold I64; omega⟩  | exact ⟨trivial, fun q hq => absurd hq List.not_mem_nil⟩ | (simp [AV.all, AC.all, AE.all, ABlk.all, avAll, holes, rgN, outside, ints_LA, LA_nil, LA_cons] <;> fail) | exact ⟨by omega, by show _ < (64 : Int); omega⟩), ?_⟩)); (conv => whnf)))
    refine ⟨⟨by omega, by omega, by rw [shl1 hq2]; unfold I64; omega⟩, ?_⟩
    rw [shl1 hq2]
    (conv => whnf); (repeat ((first | (refine ⟨rfl, ?_⟩) | (refine ⟨trivial, ?_⟩) | (refine ⟨fun _ => ?_, fun h => absurd h (by decide)⟩) | (refine ⟨fun h => absurd h (by decide), fun _ => ?_⟩) | (refine ⟨by (first | exact Nat.le_of_ble_eq_true rfl | exact ⟨rfl, Nat.le_of_ble_eq_true rfl⟩ | exact ⟨Nat.le_of_ble_eq_true rfl, rfl⟩ | exact ⟨rfl, rfl⟩ | (with_reducible assumption) | exact ⟨by with_reducible assumption, rfl⟩ | ((with_reducible refine bsCond ?_); rfl) | ((with_reducible refine nilsCond ?_); rfl) | omega | exact ⟨rfl, by omega⟩ | exact ⟨by omega, rfl⟩ | exact ⟨by omega, by omega, by omega, by omega, rfl⟩ | decide | (unfold I64; omega) | exact ⟨by omega, by omega, by unfold I64; omega⟩  | exact ⟨trivial, fun q hq => absurd hq List.not_mem_nil⟩ | (simp [AV.all, AC.all, AE.all, ABlk.all, avAll, holes, rgN, outside, ints_LA, LA_nil, LA_cons] <;> fail) | exact ⟨by omega, by show _ < (64 : Int); omega⟩), ?_⟩)); (conv => whnf)))
    simp only [Int.toNat_natCast, ← hq3]
    (conv => whnf); (repeat ((first | (refine ⟨rfl, ?_⟩) | (refine ⟨trivial, ?_⟩) | (refine ⟨fun _ => ?_, fun h => absurd h (by decide)⟩) | (refine ⟨fun h => absurd h (by decide), fun _ => ?_⟩) | (refine ⟨by (first | exact Nat.le_of_ble_eq_true rfl | exact ⟨rfl, Nat.le_of_ble_eq_true rfl⟩ | exact ⟨Nat.le_of_ble_eq_true rfl, rfl⟩ | exact ⟨rfl, rfl⟩ | (with_reducible assumption) | exact ⟨by with_reducible assumption, rfl⟩ | ((with_reducible refine bsCond ?_); rfl) | ((with_reducible refine nilsCond ?_); rfl) | omega | exact ⟨rfl, by omega⟩ | exact ⟨by omega, rfl⟩ | exact ⟨by omega, by omega, by omega, by omega, rfl⟩ | decide | (unfold I64; omega) | exact ⟨by omega, by omega, by unfold I64; omega⟩  | exact ⟨trivial, fun q hq => absurd hq List.not_mem_nil⟩ | (simp [AV.all, AC.all, AE.all, ABlk.all, avAll, holes, rgN, outside, ints_LA, LA_nil, LA_cons] <;> fail) | exact ⟨by omega, by show _ < (64 : Int); omega⟩), ?_⟩)); (conv => whnf)))
    (conv => whnf); (repeat ((first | (refine ⟨rfl, ?_⟩) | (refine ⟨trivial, ?_⟩) | (refine ⟨fun _ => ?_, fun h => absurd h (by decide)⟩) | (refine ⟨fun h => absurd h (by decide), fun _ => ?_⟩) | (refine ⟨by (first | exact Nat.le_of_ble_eq_true rfl | exact ⟨rfl, Nat.le_of_ble_eq_true rfl⟩ | exact ⟨Nat.le_of_ble_eq_true rfl, rfl⟩ | exact ⟨rfl, rfl⟩ | (with_reducible assumption) | exact ⟨by with_reducible assumption, rfl⟩ | ((with_reducible refine bsCond ?_); rfl) | ((with_reducible refine nilsCond ?_); rfl) | omega | exact ⟨rfl, by omega⟩ | exact ⟨by omega, rfl⟩ | exact ⟨by omega, by omega, by omega, by omega, rfl⟩ | decide | (unfold I64; omega) | exact ⟨by omega, by omega, by unfold I64; omega⟩  | exact ⟨trivial, fun q hq => absurd hq List.not_mem_nil⟩ | (simp [AV.all, AC.all, AE.all, ABlk.all, avAll, holes, rgN, outside, ints_LA, LA_nil, LA_cons] <;> fail) | exact ⟨by omega, by show _ < (64 : Int); omega⟩), ?_⟩)); (conv => whnf)))
    refine ⟨(), trivial, RoundOk.nil ⟨rfl, ?_, rfl, rfl, rfl, trivial⟩ rfl⟩
    show ABlk.own _ = ABlk.own _
    simp only [List.foldl_append, List.foldl_cons, List.foldl_nil, ← ha, placesF, ← hw1, ← hw2, ← hq1, ← hq2, ← hq3]
    rfl
  · intro _
    (conv => whnf); (repeat ((first | (refine ⟨rfl, ?_⟩) | (refine ⟨trivial, ?_⟩) | (refine ⟨fun _ => ?_, fun h => absurd h (by decide)⟩) | (refine ⟨fun h => absurd h (by decide), fun _ => ?_⟩) | (refine ⟨by (first | exact Nat.le_of_ble_eq_true rfl | exact ⟨rfl, Nat.le_of_ble_eq_true rfl⟩ | exact ⟨Nat.le_of_ble_eq_true rfl, rfl⟩ | exact ⟨rfl, rfl⟩ | (with_reducible assumption) | exact ⟨by with_reducible assumption, rfl⟩ | ((with_reducible refine bsCond ?_); rfl) | ((with_reducible refine nilsCond ?_); rfl) | omega | exact ⟨rfl, by omega⟩ | exact ⟨by omega, rfl⟩ | exact ⟨by omega, by omega, by omega, by omega, rfl⟩ | decide | (unfold I64; omega) | exact ⟨by omega, by omega, by unfold I64; omega⟩  | exact ⟨trivial, fun q hq => absurd hq List.not_mem_nil⟩ | (simp [AV.all, AC.all, AE.all, ABlk.all, avAll, holes, rgN, outside, ints_LA, LA_nil, LA_cons] <;> fail) | exact ⟨by omega, by show _ < (64 : Int); omega⟩), ?_⟩)); (conv => whnf)))
    exact AH.Fin.nil [] ⟨rfl, rfl, rfl⟩ trivial trivial trivial rfl (by simp [GB])
end Go.Proofs.YtfphkpdobbffeaaDoor
