/-
  Contract: put, the search for a barrier.
-/
import Derived.Test.YtfphkpdobbffeaaDoorSw6
import Derived.Test.YtfphkpdobbffeaaDoorSw2
import Derived.Test.YtfphkpdobbffeaaDoorSw5
import Derived.Test.YtfphkpdobbffeaaDoorAh6
set_option linter.unusedSimpArgs false
set_option linter.unusedVariables false
namespace Go.Proofs.YtfphkpdobbffeaaDoor
open Go Go.AH
set_option maxRecDepth 100000
set_option maxHeartbeats 4000000

def rwP : Nat → List (List Int) → List (Nat × List Int)
  | _, [] => []
  | j, a :: V => (6 + j, a) :: rwP (j + 1) V
theorem rwC_eq : ∀ (V : List (List Int)) (j : Nat), rwC j V = (rwP j V).map fun p => AC.row p.1 p.2.length
  | [], _ => rfl
  | a :: V, j => by rw [rwC, rwP, List.map_cons, rwC_eq V]
theorem rwP_le : ∀ (V : List (List Int)) (j : Nat), ∀ p ∈ rwP j V, 6 + j ≤ p.1
  | [], _, p, h => absurd h List.not_mem_nil
  | a :: V, j, p, h => by
    rcases List.mem_cons.1 h with rfl | h
    · exact Nat.le_refl _
    · have := rwP_le V (j + 1) p h; omega
theorem rwH_lk : ∀ (V : List (List Int)) (j : Nat), ∀ p ∈ rwP j V, lk (rwH j V) p.1 = some (.row 3 1 (ints p.2))
  | [], _, p, h => absurd h List.not_mem_nil
  | a :: V, j, p, h => by
    rcases List.mem_cons.1 h with rfl | h
    · simp [rwH, lk]
    · have := rwP_le V (j + 1) p h
      simp only [rwH, lk]
      rw [if_neg (by omega)]
      exact rwH_lk V (j + 1) p h
theorem rwP_map : ∀ (V : List (List Int)) (j : Nat), (rwP j V).map Prod.snd = V
  | [], _ => rfl
  | a :: V, j => by rw [rwP, List.map_cons, rwP_map V]
/-- The lists, frozen. -/
def tvC (V : List (List Int)) : List AC := V.map fun a => .tv (.leaf 1 a.length a)
theorem tvC_ren (q : Nat → Nat) (V : List (List Int)) : (tvC V).map (AC.ren q) = tvC V := by
  unfold tvC; rw [List.map_map]; rfl
theorem tvC_LL (n : Nat) (V : List (List Int)) : LL n (tvC V) ↔ True := by
  refine ⟨fun _ => trivial, fun _ x hx => ?_⟩
  obtain ⟨a, _, rfl⟩ := List.mem_map.1 hx
  trivial
def prH (g : Gm) : Bool × (Nat → Nat) → List (Nat × ABlk)
  | (false, v) => [(2, .own (ints (wL v))), (3, .own [.nils])]
  | (true, v) => [(5, .own (tvC (LV v g.n))), (2, .own (ints (wL v))), (3, .own [.sl 5 0 (mx v g.n) (some (mx v g.n))])]
def PI (g : Gm) (w : Nat → Nat) (i : Nat) (x : Bool × (Nat → Nat)) : Prop :=
  (∀ j, j < i → x.2 j = w j) ∧ (x.1 = true → RG x.2 g.n ∧ Bar g x.2) ∧ (x.1 = false → ∀ u : Nat → Nat, (∀ j, j < i → u j = w j) → RG u g.n → ¬ Bar g u)
def PutSp (g : Gm) (i : Nat) (w : Nat → Nat) : Prop :=
  FSpec Tryd.prog 66 [.c (.int .i64 i), .c (.int .i64 (mx w i : Nat)), .c (.ptr 1 0), .c (.ptr 2 0), .c (.ptr 3 0), .c (.ptr 4 0)] (putB g w) 5 fun r hq k' => ∃ x, PI g w i x ∧ r = .c (.bool x.1) ∧ hq = prH g x ∧ k' = 14
theorem crN_congr {u v : Nat → Nat} {n : Nat} {ws : List (Nat × Nat)} (h : ∀ j, j < n → u j = v j) (hw : ∀ p ∈ ws, p.1 < n ∧ p.2 < n) : crN u ws = crN v ws := by
  refine List.countP_congr fun p hp => ?_
  obtain ⟨h1, h2⟩ := hw p hp
  rw [h _ h1, h _ h2]
theorem ws_ends {g : Gm} (hg : g.ok) : ∀ p ∈ g.ws, p.1 < g.n ∧ p.2 < g.n := fun p hp => by
  obtain ⟨i, hi, rfl⟩ := List.getElem_of_mem hp
  have := hg.ends i hi
  rw [List.getD_eq_getElem?_getD, List.getElem?_eq_getElem hi] at this
  simp only [Option.getD_some] at this
  omega
theorem Bar_congr {g : Gm} (hg : g.ok) {u v : Nat → Nat} (h : ∀ j, j < g.n → u j = v j) : Bar g u ↔ Bar g v := by
  unfold Bar
  rw [mx_congr h, crN_congr h (ws_ends hg)]
theorem put_leaf {g : Gm} (hg : g.ok) {w : Nat → Nat} (hr : RG w g.n) : PutSp g g.n w := by
  by_cases hb : Bar g w
  · refine (leaf_yes hg w hr hb).frz ?_
    rintro R wd u r hp' k' ⟨rfl, rfl, rfl⟩ H hcr hrl hnd hlt
    have ho : lk ((2, ABlk.own (ints (wL w))) :: (3, .own [.sl 5 0 (mx w g.n) (some (mx w g.n))]) :: (5, .own (rwC 0 (LV w g.n))) :: rwH 0 (LV w g.n)) 5 = some (.own ((rwP 0 (LV w g.n)).map fun p => AC.row p.1 p.2.length)) := by rw [← rwC_eq]; rfl
    have h6 : ∀ p ∈ rwP 0 (LV w g.n), 6 ≤ p.1 := fun p hp => rwP_le _ 0 p hp
    obtain ⟨Z, z1, z2, z3⟩ := H.freezeRows (n := 14) (rwP 0 (LV w g.n)) [(2, .own (ints (wL w))), (3, .own [.sl 5 0 (mx w g.n) (some (mx w g.n))])] ho (fun p hp => ⟨3, by
      have := h6 p hp
      simp only [lk]
      rw [if_neg (by omega), if_neg (by omega), if_neg (by omega)]
      exact rwH_lk _ 0 p hp⟩) (fun i b hb => by
      simp only [lk] at hb ⊢
      split at hb
      · rename_i e; subst e
        exact ⟨by rw [if_pos rfl]; exact hb, fun hm => by obtain ⟨p, hp, e⟩ := List.mem_map.1 hm; have := h6 p hp; omega⟩
      · rename_i e1
        split at hb
        · rename_i e; subst e
          exact ⟨by rw [if_neg (by omega), if_pos rfl]; exact hb, fun hm => by obtain ⟨p, hp, e⟩ := List.mem_map.1 hm; have := h6 p hp; omega⟩
        · cases hb) hlt (fun hm => by obtain ⟨p, hp, e⟩ := List.mem_map.1 hm; have := h6 p hp; omega)
    have e5 : ((rwP 0 (LV w g.n)).map fun p => AC.tv (.leaf 1 p.2.length p.2)) = tvC (LV w g.n) := by
      have := congrArg (List.map fun a : List Int => AC.tv (.leaf 1 a.length a)) (rwP_map (LV w g.n) 0)
      rw [List.map_map] at this
      exact this
    rw [e5] at z3
    refine ⟨Z, .c (.bool true), (5, .own (tvC (LV w g.n))) :: [(2, .own (ints (wL w))), (3, .own [.sl 5 0 (mx w g.n) (some (mx w g.n))])], z1, z2, ⟨(true, w), ⟨fun _ _ => rfl, fun _ => ⟨hr, hb⟩, fun h => by cases h⟩, rfl, rfl, rfl⟩, hcr, trivial, z3, by simp, fun i b hb => ?_, fun i b hb hw => ?_⟩
    · simp only [lk] at hb
      split at hb
      · rename_i e; subst e; injection hb with hb; subst hb; exact ⟨.inl (by omega), (tvC_LL _ _).2 trivial⟩
      · split at hb
        · rename_i e; subst e; injection hb with hb; subst hb; exact ⟨.inl (by omega), ints_LL _ _⟩
        · split at hb
          · rename_i e; subst e; injection hb with hb; subst hb; exact ⟨.inl (by omega), (by simp [tupA, hpLt, tmLt, AV.lt, AE.lt, AC.lt, LL_cons, LL_nil, idOk, ABlk.lt, ints_LL, GB, tab64_LL, gC, wB, giC, noneB, putB, tvC_LL])⟩
          · cases hb
    · simp only [lk] at hb ⊢
      split at hb
      · rename_i e; subst e; exact ⟨_, rfl, rfl⟩
      · split at hb
        · rename_i e; subst e; exact ⟨_, rfl, rfl⟩
        · split at hb
          · rename_i e; subst e; exact ⟨_, rfl, rfl⟩
          · cases hb
  · refine (leaf_no hg w hb).imp ?_
    rintro r hq k' ⟨rfl, rfl, rfl⟩
    exact ⟨(false, w), ⟨fun _ _ => rfl, (fun h => by cases h), fun _ u hu _ hbu => hb ((Bar_congr hg hu).1 hbu)⟩, rfl, rfl, rfl⟩
end Go.Proofs.YtfphkpdobbffeaaDoor

/-
  Contract: put, the search for a barrier: the recursion.
-/
namespace Go.Proofs.YtfphkpdobbffeaaDoor
open Go Go.AH
set_option maxRecDepth 100000
set_option maxHeartbeats 4000000

/-- What lies there after a call. -/
def prS (g : Gm) (x : Bool × (Nat → Nat)) : List (Nat × ABlk) := match x with
  | (false, v) => [(0, wB g), (1, .ro (gC g 0)), (4, .ro [.fn 66 [] [1, 2, 3, 4]]), (3, .own [.nils]), (2, .own (ints (wL v)))]
  | (true, v) => [(0, wB g), (1, .ro (gC g 0)), (4, .ro [.fn 66 [] [1, 2, 3, 4]]), (3, .own [.sl 5 0 (mx v g.n) (some (mx v g.n))]), (2, .own (ints (wL v))), (5, .own (tvC (LV v g.n)))]
theorem updW_lt {w : Nat → Nat} {i k j : Nat} (h : j < i) : updW w i k j = w j := if_neg (by omega)
theorem updW_eq {w : Nat → Nat} {i k : Nat} : updW w i k i = k := if_pos rfl
theorem bput_spec {g : Gm} (hg : g.ok) : ∀ (d i : Nat) (w : Nat → Nat), i + d = g.n → RG w i → PutSp g i w := by
  intro d
  induction d with
  | zero => 
    intro i w hi hr
    have e : i = g.n := by omega
    subst e
    exact put_leaf hg hr
  | succ d ih =>
    intro i w hi hr
    have h8 := hg.n8
    have hm8 := mx_le hr i (by omega)
    obtain ⟨m, hm⟩ : ∃ m, m = mx w i := ⟨_, rfl⟩
    unfold PutSp
    rw [← hm] at hm8 ⊢
    have hW8 : ∀ v, (ints (wL v)).length = 8 := fun v => by rw [ints_len, wL_len]
    refine FSpec.of_body tok true Tryd.func66 rfl (by kernel_rfl) (by decide) (by simp [tupA, hpLt, tmLt, AV.lt, AE.lt, AC.lt, LL_cons, LL_nil, idOk, ABlk.lt, ints_LL, GB, tab64_LL, gC, wB, giC, noneB, putB, prH, tvC_LL]) (by simp [tupA, hpLt, tmLt, AV.lt, AE.lt, AC.lt, LL_cons, LL_nil, idOk, ABlk.lt, ints_LL, GB, tab64_LL, gC, wB, giC, noneB, putB, prH, tvC_LL]) (by show 6 ≤ _; decide) ?_
    refine Wk.on ?_
    rw [decide_eq_false (show ¬ ((i : Nat) : Int) = ((g.n : Nat) : Int) by omega)]
    refine Wk.on ?_
    refine Tr.loop (md := true) (X := Nat × (Nat → Nat)) (st := fun x => ⟨[(0, .c (.int .i64 i)), (1, .c (.int .i64 m)), (2, .c (.ptr 1 0)), (3, .c (.ptr 2 0)), (4, .c (.ptr 3 0)), (5, .c (.ptr 4 0)), (50, .c (.int .i64 (m + 1 : Nat))), (51, .c (.int .i64 x.1))], [(0, wB g), (1, .ro (gC g 0)), (4, .ro [.fn 66 [] [1, 2, 3, 4]]), (3, .own [.nils]), (2, .own (ints (wL x.2)))], 5, 66, 5⟩) (inv := fun x => x.1 ≤ m + 1 ∧ (∀ j, j < i → x.2 j = w j) ∧ ∀ u : Nat → Nat, (∀ j, j < i → u j = w j) → RG u g.n → u i < x.1 → ¬ Bar g u) (μ := fun x => m + 1 - x.1) (x0 := (0, w)) (l := []) tok ⟨by omega, fun _ _ => rfl, fun u _ _ h => absurd h (by omega)⟩ ?_ ?_
    · exact Sub.nil ⟨rfl, rfl, (by simp [tab64_LL, gC, wB, giC, noneB, putB, prH, tvC_LL]), rfl, (by simp [tupA, hpLt, tmLt, AV.lt, AE.lt, AC.lt, LL_cons, LL_nil, idOk, ABlk.lt, ints_LL, GB, tab64_LL, gC, wB, giC, noneB, putB, prH, tvC_LL]), (by simp [tupA, hpLt, tmLt, AV.lt, AE.lt, AC.lt, LL_cons, LL_nil, idOk, ABlk.lt, ints_LL, GB, tab64_LL, gC, wB, giC, noneB, putB, prH, tvC_LL])⟩ (by (repeat (first | exact trivial | refine ⟨trivial, ?_⟩ | refine ⟨rfl, ?_⟩))) ⟨rfl, rfl, rfl, rfl, rfl, trivial⟩
    · rintro ⟨k, v⟩ ⟨h1, h2, h3⟩
      dsimp only at h1 h2 h3 ⊢
      by_cases hk : k < m + 1
      · have h8v := hW8 v
        refine Wk.on ?_
        rw [decide_eq_true (show ((k : Nat) : Int) < ((m + 1 : Nat) : Int) by omega)]
        refine Wk.on ?_
        have hset : (ints (wL v)).set (0 + ((i : Nat) : Int).toNat * 1) (.int .i64 (k : Nat)) = ints (wL (updW v i k)) := by rw [Int.toNat_natCast, Nat.zero_add, Nat.mul_one]; exact wL_set v k (by omega)
        have hwj : ∀ j, j < i → updW v i k j = w j := fun j hj => (updW_lt hj).trans (h2 j hj)
        have hmx : mx (updW v i k) (i + 1) = max m (k + 1) := by
          show max (mx (updW v i k) i) (updW v i k i + 1) = _
          rw [updW_eq, mx_congr hwj, ← hm]
        have hmx2 : max ((m : Nat) : Int) ((k : Nat) + 1) = ((mx (updW v i k) (i + 1) : Nat) : Int) := by rw [hmx]; omega
        have hr2 : RG (updW v i k) (i + 1) := fun j hj => by
          by_cases e : j < i
          · rw [hwj j e, mx_congr (v := w) fun x hx => hwj x (by omega)]; exact hr j e
          · obtain rfl : j = i := by omega
            rw [updW_eq, mx_congr hwj, ← hm]; omega
        rw [hset, hmx2]
        refine CallA.any (X := Bool × (Nat → Nat)) (I := PI g (updW v i k) (i + 1)) [0, 1, 2, 3, 4] (r := fun x => .c (.bool x.1)) (hp1 := prH g) (k1 := 14) (fun x => .c (.bool x.1)) (prS g) (ih (i + 1) (updW v i k) (by omega) hr2) (by first | rfl | exact congrArg AV.g (ints_ren _ _) | (simp [ints_ren, AV.ren, ABlk.ren, AC.ren, AE.ren, tvC_ren, qq]; done)) rfl (by (repeat (first | exact trivial | refine ⟨⟨(by first | exact .inl (by decide) | exact .inr (by decide)), (by first | (refine Or.inl ?_; first | rfl | exact congrArg some (ints_ren _ _).symm | exact congrArg ABlk.own (ints_ren _ _).symm | exact congrArg some (tab64_ren _).symm) | rfl | exact congrArg some (ints_ren _ _).symm | exact congrArg ABlk.own (ints_ren _ _).symm | exact congrArg some (tab64_ren _).symm | exact Or.inr ⟨rfl, rfl⟩)⟩, ?_⟩))) (fun x => rfl) (fun x => by rcases x with ⟨_ | _, v⟩ <;> simp [behind, gone, lk, up, del, qq, ABlk.wr, GB, prS, prH, putB, wB, gC, ABlk.ren, AC.ren, ints_ren, tvC_ren]) ?_
        rintro ⟨b, v'⟩ ⟨p1, p2, p3⟩
        dsimp only at p1 p2 p3 ⊢
        have q1 : ∀ j, j < i → v' j = w j := fun j hj => (p1 j (by omega)).trans (hwj j hj)
        cases b
        · refine Wk.on ?_
          have hnext : ∀ u : Nat → Nat, (∀ j, j < i → u j = w j) → RG u g.n → u i < k + 1 → ¬ Bar g u := fun u hu hur huk => by
            by_cases e : u i < k
            · exact h3 u hu hur e
            · refine p3 rfl u (fun j hj => ?_) hur
              by_cases e2 : j < i
              · rw [hu j e2, hwj j e2]
              · obtain rfl : j = i := by omega
                rw [updW_eq]; omega
          refine Again.mk ((k + 1, v')) (Sub.nil ⟨rfl, rfl, (by simp [tab64_LL, gC, wB, giC, noneB, putB, prH, tvC_LL]), rfl, (by simp [tupA, hpLt, tmLt, AV.lt, AE.lt, AC.lt, LL_cons, LL_nil, idOk, ABlk.lt, ints_LL, GB, tab64_LL, gC, wB, giC, noneB, putB, prH, tvC_LL]), (by simp [tupA, hpLt, tmLt, AV.lt, AE.lt, AC.lt, LL_cons, LL_nil, idOk, ABlk.lt, ints_LL, GB, tab64_LL, gC, wB, giC, noneB, putB, prH, tvC_LL])⟩ (by (repeat (first | exact trivial | refine ⟨trivial, ?_⟩ | refine ⟨rfl, ?_⟩))) (by (repeat (first | exact trivial | refine ⟨trivial, ?_⟩ | refine ⟨rfl, ?_⟩)))) (⟨by show k + 1 ≤ m + 1; omega, q1, hnext⟩) (by omega)
        · refine Wk.on ?_
          obtain ⟨s1, s2⟩ := p2 rfl
          exact AH.Fin.new [5, 6, 7, 8, 9, 10, 11, 12, 13] _ _ ⟨(true, v'), ⟨q1, fun _ => ⟨s1, s2⟩, (fun h => by cases h)⟩, rfl, rfl, rfl⟩ rfl ⟨congrArg (fun x => some (ABlk.own x)) (tvC_ren _ _).symm, congrArg (fun x => some (ABlk.own x)) (ints_ren _ _).symm, rfl, trivial⟩ rfl (by simp [tupA, hpLt, tmLt, AV.lt, AE.lt, AC.lt, LL_cons, LL_nil, idOk, ABlk.lt, ints_LL, GB, tab64_LL, gC, wB, giC, noneB, putB, prH, tvC_LL]) (by simp [tupA, hpLt, tmLt, AV.lt, AE.lt, AC.lt, LL_cons, LL_nil, idOk, ABlk.lt, ints_LL, GB, tab64_LL, gC, wB, giC, noneB, putB, prH, tvC_LL])
      · obtain rfl : k = m + 1 := by omega
        have h8v := hW8 v
        refine Wk.on ?_
        rw [decide_eq_false (show ¬ ((m + 1 : Nat) : Int) < ((m + 1 : Nat) : Int) by omega)]
        refine Wk.on ?_
        intro _
        refine Wk.on ?_
        exact AH.Fin.new [5, 6, 7, 8, 9, 10, 11, 12, 13] _ _ ⟨(false, v), ⟨h2, (fun h => by cases h), fun _ u hu hur => h3 u hu hur (by
          have := hur i (by omega)
          rw [mx_congr hu, ← hm] at this
          show u i < m + 1
          omega)⟩, rfl, rfl, rfl⟩ rfl ⟨congrArg (fun x => some (ABlk.own x)) (ints_ren _ _).symm, rfl, trivial⟩ rfl (by simp [tupA, hpLt, tmLt, AV.lt, AE.lt, AC.lt, LL_cons, LL_nil, idOk, ABlk.lt, ints_LL, GB, tab64_LL, gC, wB, giC, noneB, putB, prH, tvC_LL]) (by simp [tupA, hpLt, tmLt, AV.lt, AE.lt, AC.lt, LL_cons, LL_nil, idOk, ABlk.lt, ints_LL, GB, tab64_LL, gC, wB, giC, noneB, putB, prH, tvC_LL])
end Go.Proofs.YtfphkpdobbffeaaDoor

/-
  Contract: Barrier.
-/
namespace Go.Proofs.YtfphkpdobbffeaaDoor
open Go Go.AH
set_option maxRecDepth 100000
set_option maxHeartbeats 4000000

def w0 : Nat → Nat := fun _ => 0
def barR (g : Gm) (x : Bool × (Nat → Nat)) : AV := match x with
  | (false, _) => .t [.c .nils, .c (.bool false), .c (.int .i64 0)]
  | (true, v) => .t [.c (.sl 1 0 (mx v g.n) (some (mx v g.n))), .c (.bool true), .c (.int .i64 0)]
def barH (g : Gm) (x : Bool × (Nat → Nat)) : List (Nat × ABlk) := match x with
  | (false, _) => []
  | (true, v) => [(1, .own (tvC (LV v g.n)))]
def BI (g : Gm) (x : Bool × (Nat → Nat)) : Prop := (x.1 = true → RG x.2 g.n ∧ Bar g x.2) ∧ (x.1 = false → ∀ u : Nat → Nat, RG u g.n → ¬ Bar g u)
/-- What lies there after the search. -/
def baS (g : Gm) (x : Bool × (Nat → Nat)) : List (Nat × ABlk) := match x with
  | (false, v) => [(4, .own [.fn 66 [] [1, 2, 3, 4]]), (1, .own (gC g 0)), (0, wB g), (3, .own [.nils]), (2, .own (ints (wL v)))]
  | (true, v) => [(4, .own [.fn 66 [] [1, 2, 3, 4]]), (1, .own (gC g 0)), (0, wB g), (3, .own [.sl 5 0 (mx v g.n) (some (mx v g.n))]), (2, .own (ints (wL v))), (5, .own (tvC (LV v g.n)))]
theorem Barrier_any {g : Gm} (hg : g.game) : FSpec Tryd.prog 27 [.g (gC g 0)] [(0, wB g)] 1 fun r hq k' => ∃ x, BI g x ∧ r = barR g x ∧ hq = barH g x ∧ k' = 2 := by
  have hput := bput_spec hg.ok g.n 0 w0 (by omega) (fun j hj => absurd hj (by omega))
  refine FSpec.of_body tok true Tryd.func27 rfl (by kernel_rfl) (by decide) (by simp [tupA, hpLt, tmLt, AV.lt, AE.lt, AC.lt, LL_cons, LL_nil, idOk, ABlk.lt, ints_LL, GB, tab64_LL, gC, wB, giC, noneB, putB, prH, barH, barR, tvC_LL]) (by simp [tupA, hpLt, tmLt, AV.lt, AE.lt, AC.lt, LL_cons, LL_nil, idOk, ABlk.lt, ints_LL, GB, tab64_LL, gC, wB, giC, noneB, putB, prH, barH, barR, tvC_LL]) (by show 1 ≤ _; decide) ?_
  refine Wk.on ?_
  refine CallA.ro [0] (.c (.int .i64 0)) (check_ok hg) (by first | rfl | exact congrArg AV.g (ints_ren _ _) | (simp [ints_ren, AV.ren, ABlk.ren, AC.ren, AE.ren, tvC_ren, qq]; done)) rfl (by (repeat (first | exact trivial | refine ⟨⟨(by first | exact .inl (by decide) | exact .inr (by decide)), (by first | (refine Or.inl ?_; first | rfl | exact congrArg some (ints_ren _ _).symm | exact congrArg ABlk.own (ints_ren _ _).symm | exact congrArg some (tab64_ren _).symm) | rfl | exact congrArg some (ints_ren _ _).symm | exact congrArg ABlk.own (ints_ren _ _).symm | exact congrArg some (tab64_ren _).symm | exact Or.inr ⟨rfl, rfl⟩)⟩, ?_⟩))) (by first | rfl | exact congrArg AV.g (ints_ren _ _) | (simp [ints_ren, AV.ren, ABlk.ren, AC.ren, AE.ren, tvC_ren, qq]; done)) ?_
  refine Wk.on ?_
  refine CallA.any (X := Bool × (Nat → Nat)) (I := PI g w0 0) [0, 1, 2, 3, 4] (r := fun x => .c (.bool x.1)) (hp1 := prH g) (k1 := 14) (fun x => .c (.bool x.1)) (baS g) hput (by first | rfl | exact congrArg AV.g (ints_ren _ _) | (simp [ints_ren, AV.ren, ABlk.ren, AC.ren, AE.ren, tvC_ren, qq]; done)) rfl (by (repeat (first | exact trivial | refine ⟨⟨(by first | exact .inl (by decide) | exact .inr (by decide)), (by first | (refine Or.inl ?_; first | rfl | exact congrArg some (ints_ren _ _).symm | exact congrArg ABlk.own (ints_ren _ _).symm | exact congrArg some (tab64_ren _).symm) | rfl | exact congrArg some (ints_ren _ _).symm | exact congrArg ABlk.own (ints_ren _ _).symm | exact congrArg some (tab64_ren _).symm | exact Or.inr ⟨rfl, rfl⟩)⟩, ?_⟩))) (fun x => rfl) (fun x => by rcases x with ⟨_ | _, v⟩ <;> simp [behind, gone, lk, up, del, qq, ABlk.wr, GB, baS, prH, putB, wB, gC, ABlk.ren, AC.ren, ints_ren, tvC_ren] <;> rfl) ?_
  rintro ⟨b, v⟩ ⟨p1, p2, p3⟩
  dsimp only at p1 p2 p3 ⊢
  cases b
  · refine Wk.on ?_
    exact AH.Fin.new [5] _ _ ⟨(false, v), ⟨(fun h => by cases h), fun _ u hu => p3 rfl u (fun j hj => absurd hj (by omega)) hu⟩, rfl, rfl, rfl⟩ rfl trivial rfl (by simp [tupA, hpLt, tmLt, AV.lt, AE.lt, AC.lt, LL_cons, LL_nil, idOk, ABlk.lt, ints_LL, GB, tab64_LL, gC, wB, giC, noneB, putB, prH, barH, barR, tvC_LL]) (by simp [tupA, hpLt, tmLt, AV.lt, AE.lt, AC.lt, LL_cons, LL_nil, idOk, ABlk.lt, ints_LL, GB, tab64_LL, gC, wB, giC, noneB, putB, prH, barH, barR, tvC_LL])
  · refine Wk.on ?_
    obtain ⟨s1, s2⟩ := p2 rfl
    exact AH.Fin.new [5] (.t [.c (.sl 1 0 (mx v g.n) (some (mx v g.n))), .c (.bool true), .c (.int .i64 0)]) [(1, .own (tvC (LV v g.n)))] ⟨(true, v), ⟨fun _ => ⟨s1, s2⟩, (fun h => by cases h)⟩, rfl, rfl, rfl⟩ rfl ⟨congrArg (fun x => some (ABlk.own x)) (tvC_ren _ _).symm, trivial⟩ rfl (by simp [tupA, hpLt, tmLt, AV.lt, AE.lt, AC.lt, LL_cons, LL_nil, idOk, ABlk.lt, ints_LL, GB, tab64_LL, gC, wB, giC, noneB, putB, prH, barH, barR, tvC_LL]) (by simp [tupA, hpLt, tmLt, AV.lt, AE.lt, AC.lt, LL_cons, LL_nil, idOk, ABlk.lt, ints_LL, GB, tab64_LL, gC, wB, giC, noneB, putB, prH, barH, barR, tvC_LL])
end Go.Proofs.YtfphkpdobbffeaaDoor

/-
  Contract: IsBarrier.
-/
namespace Go.Proofs.YtfphkpdobbffeaaDoor
open Go Go.AH
set_option maxRecDepth 100000
set_option maxHeartbeats 4000000

def runE (n i : Nat) : List Int → Nat → (Nat → Nat) → Int → Option (Nat × (Nat → Nat))
  | [], s, w, _ => some (s, w)
  | v :: r, s, w, l => if v ≤ l ∨ (n : Int) ≤ v ∨ s.testBit v.toNat = true then none else runE n i r (s ||| 2 ^ v.toNat) (updW w v.toNat i) v
def runP (n : Nat) : List (List Int) → Nat → Option (List Int) → Nat → (Nat → Nat) → Option (Nat × (Nat → Nat))
  | [], _, _, s, w => some (s, w)
  | p :: r, i, q, s, w => if p = [] ∨ (∃ x, q = some x ∧ 0 ≤ cmpL x p) then none else match runE n i p s w (-1) with
    | none => none
    | some (s, w) => runP n r (i + 1) (some p) s w
def isBar (g : Gm) (V : List (List Int)) : Bool := match runP g.n V 0 none 0 w0 with
  | none => false
  | some (s, w) => decide (s = 2 ^ g.n - 1) && decide (2 ≤ V.length) && decide ((crN w g.ws : Int) < 2 * ((V.length : Int) - 1))
theorem tvC_get {V : List (List Int)} {i : Nat} (h : i < V.length) : (tvC V).getD (0 + i * 1) .nils = .tv (.leaf 1 (V.getD i []).length (V.getD i [])) := by
  rw [Nat.zero_add, Nat.mul_one]
  simp [tvC, List.getD_eq_getElem?_getD, h]
theorem cmpTV (a b : List Int) (ha : 0 < a.length) (hb : 0 < b.length) (hal : a.length < 1000000) (hbl : b.length < 1000000) : FDet Tryd.prog 76 [.c (.tv (.leaf 1 a.length a)), .c (.tv (.leaf 1 b.length b))] [] 0 (.c (.int .i64 (cmpL a b))) [] 0 := by
  have h := cmpS_spec (A := a) (B := b) (o := 0) (n := a.length) (p := 0) (m := b.length) (by omega) (by omega) hal hbl
  rw [show win a 0 a.length = a by simp [win], show win b 0 b.length = b by simp [win]] at h
  have h1 : FDet Tryd.prog 76 [.c (.rs 0 0 a.length), .c (.rs 1 0 b.length)] [(1, .ro (ints b)), (0, .ro (ints a))] 2 (.c (.int .i64 (cmpL a b))) [] 2 := FDet.wk h ⟨rfl, rfl, trivial⟩ ⟨Or.inl rfl, Or.inl rfl, trivial⟩
  have h2 : FDet Tryd.prog 76 [.c (.rs 0 0 a.length), .c (.tv (.leaf 1 b.length b))] [(0, .ro (ints a))] 1 (.c (.int .i64 (cmpL a b))) [] 1 :=
    FDet.thaw (T0 := .leaf 1 b.length b) 1 hb (by decide) rfl (by
      intro v hv
      simp at hv
      rcases hv with rfl | rfl
      · exact .inl (by omega)
      · trivial) (by simp [tupA, hpLt, tmLt, AV.lt, AE.lt, AC.lt, LL_cons, LL_nil, idOk, ABlk.lt, ints_LL, GB, tab64_LL, gC, wB, giC, noneB, tvC_LL]) trivial h1
  exact FDet.thaw (T0 := .leaf 1 a.length a) 0 ha (by decide) rfl (by
      intro v hv
      simp at hv
      rcases hv with rfl | rfl <;> trivial) trivial trivial h2
def prevO (V : List (List Int)) (i : Nat) : Option (List Int) := if i = 0 then none else some (V.getD (i - 1) [])
theorem runP_step {n : Nat} {V : List (List Int)} {i : Nat} (h : i < V.length) (s : Nat) (w : Nat → Nat) : runP n (V.drop i) i (prevO V i) s w =
    if V.getD i [] = [] ∨ (0 < i ∧ 0 ≤ cmpL (V.getD (i - 1) []) (V.getD i [])) then none else match runE n i (V.getD i []) s w (-1) with
    | none => none
    | some (s, w) => runP n (V.drop (i + 1)) (i + 1) (prevO V (i + 1)) s w := by
  rw [List.drop_eq_getElem_cons h, runP]
  have e : V.getD i [] = V[i] := by simp [List.getD_eq_getElem?_getD, h]
  rw [e]
  have c : (V[i] = [] ∨ ∃ x, prevO V i = some x ∧ 0 ≤ cmpL x V[i]) ↔ (V[i] = [] ∨ (0 < i ∧ 0 ≤ cmpL (V.getD (i - 1) []) V[i])) := by
    unfold prevO
    constructor
    · rintro (h | ⟨x, h1, h2⟩)
      · exact .inl h
      · by_cases hi : i = 0
        · rw [if_pos hi] at h1; cases h1
        · rw [if_neg hi] at h1; injection h1 with h1; subst h1; exact .inr ⟨by omega, h2⟩
    · rintro (h | ⟨h1, h2⟩)
      · exact .inl h
      · exact .inr ⟨_, if_neg (by omega), h2⟩
  have c2 : prevO V (i + 1) = some V[i] := by unfold prevO; rw [if_neg (by omega)]; simp [List.getD_eq_getElem?_getD, h]
  rw [c2]
  by_cases q : V[i] = [] ∨ (0 < i ∧ 0 ≤ cmpL (V.getD (i - 1) []) V[i])
  · rw [if_pos q, if_pos (c.2 q)]
  · rw [if_neg q, if_neg fun x => q (c.1 x)]
theorem runE_step {n i : Nat} {p : List Int} {j : Nat} (h : j < p.length) (s : Nat) (w : Nat → Nat) (l : Int) : runE n i (p.drop j) s w l =
    if p.getD j 0 ≤ l ∨ (n : Int) ≤ p.getD j 0 ∨ s.testBit (p.getD j 0).toNat = true then none else runE n i (p.drop (j + 1)) (s ||| 2 ^ (p.getD j 0).toNat) (updW w (p.getD j 0).toNat i) (p.getD j 0) := by
  rw [List.drop_eq_getElem_cons h, runE]
  have e : p.getD j 0 = p[j] := by simp [List.getD_eq_getElem?_getD, h]
  rw [e]
theorem isBar_none {g : Gm} {V : List (List Int)} (h : runP g.n V 0 none 0 w0 = none) : isBar g V = false := by unfold isBar; rw [h]
theorem isBar_spec {g : Gm} (hg : g.game) (V : List (List Int)) (hV : V.length < 1000000) (hVa : ∀ a ∈ V, a.length < 1000000) : FDet Tryd.prog 36 [.g (gC g 0), .c (.rs 1 0 V.length)] [(0, wB g), (1, .ro (tvC V))] 2 (.t [.c (.bool (isBar g V)), .c (.int .i64 0)]) [] 2 := by
  have h8 := hg.ok.n8
  refine FSpec.of_body tok true Tryd.func36 rfl (by kernel_rfl) (by decide) (by simp [tupA, hpLt, tmLt, AV.lt, AE.lt, AC.lt, LL_cons, LL_nil, idOk, ABlk.lt, ints_LL, GB, tab64_LL, gC, wB, giC, noneB, tvC_LL]) (by simp [tupA, hpLt, tmLt, AV.lt, AE.lt, AC.lt, LL_cons, LL_nil, idOk, ABlk.lt, ints_LL, GB, tab64_LL, gC, wB, giC, noneB, tvC_LL]) (by show 2 ≤ _; decide) ?_
  refine Wk.on ?_
  refine CallA.ro [0] (.c (.int .i64 0)) (check_ok hg) (by first | rfl | exact congrArg AV.g (ints_ren _ _) | (simp [ints_ren, AV.ren, ABlk.ren, AC.ren, AE.ren, tvC_ren, qq]; done)) rfl (by (repeat (first | exact trivial | refine ⟨⟨(by first | exact .inl (by decide) | exact .inr (by decide)), (by first | (refine Or.inl ?_; first | rfl | exact congrArg some (ints_ren _ _).symm | exact congrArg ABlk.own (ints_ren _ _).symm | exact congrArg some (tab64_ren _).symm) | rfl | exact congrArg some (ints_ren _ _).symm | exact congrArg ABlk.own (ints_ren _ _).symm | exact congrArg some (tab64_ren _).symm | exact Or.inr ⟨rfl, rfl⟩)⟩, ?_⟩))) (by first | rfl | exact congrArg AV.g (ints_ren _ _) | (simp [ints_ren, AV.ren, ABlk.ren, AC.ren, AE.ren, tvC_ren, qq]; done)) ?_
  refine Wk.on ?_
  refine Tr.loop (md := true) (X := Nat × Nat × (Nat → Nat)) (st := fun x => ⟨[(1, .c (.rs 1 0 V.length)), (2, .c (.ptr 2 0)), (7, .c (.ptr 3 0)), (8, .c (.int .i64 x.2.1)), (19, .c (.rs 1 0 V.length)), (20, .c (.int .i64 V.length)), (21, .c (.int .i64 x.1))], [(3, .own (ints (wL x.2.2))), (2, .own (gC g 0)), (0, wB g), (1, .ro (tvC V))], 4, 99, 2⟩) (inv := fun x => x.1 ≤ V.length ∧ x.2.1 < 2 ^ g.n ∧ (0 < x.1 → V.getD (x.1 - 1) [] ≠ []) ∧ runP g.n (V.drop x.1) x.1 (prevO V x.1) x.2.1 x.2.2 = runP g.n V 0 none 0 w0) (μ := fun x => V.length - x.1) (x0 := (0, 0, w0)) (l := []) tok ⟨by omega, pow_pos2 _, (fun h => absurd h (by decide)), rfl⟩ ?_ ?_
  · exact Sub.nil ⟨rfl, rfl, (by simp [tab64_LL, gC, wB, giC, noneB, tvC_LL]), rfl, (by simp [tupA, hpLt, tmLt, AV.lt, AE.lt, AC.lt, LL_cons, LL_nil, idOk, ABlk.lt, ints_LL, GB, tab64_LL, gC, wB, giC, noneB, tvC_LL]), (by simp [tupA, hpLt, tmLt, AV.lt, AE.lt, AC.lt, LL_cons, LL_nil, idOk, ABlk.lt, ints_LL, GB, tab64_LL, gC, wB, giC, noneB, tvC_LL])⟩ (by (repeat (first | exact trivial | refine ⟨trivial, ?_⟩ | refine ⟨rfl, ?_⟩))) ⟨rfl, rfl, rfl, rfl, trivial⟩
  · rintro ⟨i, s, w⟩ ⟨h1, h2, h4, h3⟩
    dsimp only at h1 h2 h3 h4 ⊢
    have hW8 : (ints (wL w)).length = 8 := by rw [ints_len, wL_len]
    by_cases hi : i < V.length
    · have hst := runP_step hi s w (n := g.n)
      rw [h3] at hst
      have htl : (tvC V).length = V.length := by simp [tvC]
      refine Wk.on ?_
      rw [decide_eq_true (show ((i : Nat) : Int) < ((V.length : Nat) : Int) by omega)]
      refine Wk.on ?_
      rw [Int.toNat_natCast, tvC_get hi]
      obtain ⟨p, hp⟩ : ∃ p, p = V.getD i [] := ⟨_, rfl⟩
      have hpl : p.length < 1000000 := by rw [hp, List.getD_eq_getElem?_getD, List.getElem?_eq_getElem hi]; exact hVa _ (List.getElem_mem hi)
      rw [← hp] at hst ⊢
      by_cases hp0 : p = []
      · rw [if_pos (.inl hp0)] at hst
        subst hp0
        refine Wk.on ?_
        exact AH.Fin.nil [] ⟨by rw [isBar_none hst]; rfl, rfl, rfl⟩ (by first | exact trivial | (simp [tupA, hpLt, tmLt, AV.lt, AE.lt, AC.lt, LL_cons, LL_nil, idOk, ABlk.lt, ints_LL, GB, tab64_LL, gC, wB, giC, noneB, tvC_LL]; done) | (simp [tupA, hpLt, tmLt, AV.lt, AE.lt, AC.lt, LL_cons, LL_nil, idOk, ABlk.lt, ints_LL, GB, tab64_LL, gC, wB, giC, noneB, tvC_LL, rdn, wrn]; done)) trivial trivial rfl (by simp [GB])
      · have hp1 : 0 < p.length := List.length_pos_iff.2 hp0
        refine Wk.on ?_
        rw [decide_eq_false (show ¬ (((RT.leaf 1 p.length p).len : Nat) : Int) = 0 by show ¬ ((p.length : Nat) : Int) = 0; omega)]
        refine Wk.on ?_
        by_cases hi0 : 0 < i
        · rw [decide_eq_true (show (0 : Int) < ((i : Nat) : Int) by omega)]
          have htq := tvC_get (V := V) (i := i - 1) (by omega)
          have hq0 := h4 hi0
          obtain ⟨q, hq⟩ : ∃ q, q = V.getD (i - 1) [] := ⟨_, rfl⟩
          have hql : q.length < 1000000 := by rw [hq, List.getD_eq_getElem?_getD, List.getElem?_eq_getElem (show i - 1 < V.length by omega)]; exact hVa _ (List.getElem_mem _)
          rw [← hq] at htq hst hq0
          have hq1 : 0 < q.length := List.length_pos_iff.2 hq0
          have hidx : (((i : Nat) : Int) - 1).toNat = i - 1 := by omega
          refine Wk.on ?_
          rw [hidx, htq]
          refine CallA.ro [] (.c (.int .i64 (cmpL q p))) (cmpTV q p hq1 hp1 hql hpl) (by first | rfl | exact congrArg AV.g (ints_ren _ _) | (simp [ints_ren, AV.ren, ABlk.ren, AC.ren, AE.ren, tvC_ren, qq]; done)) rfl (by (repeat (first | exact trivial | refine ⟨⟨(by first | exact .inl (by decide) | exact .inr (by decide)), (by first | (refine Or.inl ?_; first | rfl | exact congrArg some (ints_ren _ _).symm | exact congrArg ABlk.own (ints_ren _ _).symm | exact congrArg some (tab64_ren _).symm) | rfl | exact congrArg some (ints_ren _ _).symm | exact congrArg ABlk.own (ints_ren _ _).symm | exact congrArg some (tab64_ren _).symm | exact Or.inr ⟨rfl, rfl⟩)⟩, ?_⟩))) (by first | rfl | exact congrArg AV.g (ints_ren _ _) | (simp [ints_ren, AV.ren, ABlk.ren, AC.ren, AE.ren, tvC_ren, qq]; done)) ?_
          refine Wk.on ?_
          by_cases hcm : 0 ≤ cmpL q p
          · rw [if_pos (.inr ⟨hi0, hcm⟩)] at hst
            rw [decide_eq_true hcm]
            refine Wk.on ?_
            exact AH.Fin.nil [] ⟨by rw [isBar_none hst]; rfl, rfl, rfl⟩ (by first | exact trivial | (simp [tupA, hpLt, tmLt, AV.lt, AE.lt, AC.lt, LL_cons, LL_nil, idOk, ABlk.lt, ints_LL, GB, tab64_LL, gC, wB, giC, noneB, tvC_LL]; done) | (simp [tupA, hpLt, tmLt, AV.lt, AE.lt, AC.lt, LL_cons, LL_nil, idOk, ABlk.lt, ints_LL, GB, tab64_LL, gC, wB, giC, noneB, tvC_LL, rdn, wrn]; done)) trivial trivial rfl (by simp [GB])
          · rw [if_neg (by rintro (h | h); exact hp0 h; exact hcm h.2)] at hst
            rw [decide_eq_false hcm]
            refine Wk.on ?_
            refine Tr.loop (md := true) (X := Nat × Nat × (Nat → Nat) × Int) (st := fun x => ⟨[(1, .c (.rs 1 0 V.length)), (2, .c (.ptr 2 0)), (7, .c (.ptr 3 0)), (8, .c (.int .i64 x.2.1)), (9, .c (.int .i64 i)), (10, .c (.tv (.leaf 1 p.length p))), (11, .c (.int .i64 x.2.2.2)), (19, .c (.rs 1 0 V.length)), (20, .c (.int .i64 V.length)), (21, .c (.int .i64 i)), (43, .c (.tv (.leaf 1 p.length p))), (44, .c (.int .i64 p.length)), (45, .c (.int .i64 x.1))], [(3, .own (ints (wL x.2.2.1))), (2, .own (gC g 0)), (0, wB g), (1, .ro (tvC V))], 4, 99, 2⟩) (inv := fun x => x.1 ≤ p.length ∧ x.2.1 < 2 ^ g.n ∧ -1 ≤ x.2.2.2 ∧ runE g.n i (p.drop x.1) x.2.1 x.2.2.1 x.2.2.2 = runE g.n i p s w (-1)) (μ := fun x => p.length - x.1) (x0 := (0, s, w, -1)) (l := []) tok ⟨by omega, h2, by show (-1 : Int) ≤ -1; omega, rfl⟩ ?_ ?_
            · exact Sub.nil ⟨rfl, rfl, (by simp [tab64_LL, gC, wB, giC, noneB, tvC_LL]), rfl, (by simp [tupA, hpLt, tmLt, AV.lt, AE.lt, AC.lt, LL_cons, LL_nil, idOk, ABlk.lt, ints_LL, GB, tab64_LL, gC, wB, giC, noneB, tvC_LL]), (by simp [tupA, hpLt, tmLt, AV.lt, AE.lt, AC.lt, LL_cons, LL_nil, idOk, ABlk.lt, ints_LL, GB, tab64_LL, gC, wB, giC, noneB, tvC_LL])⟩ (by (repeat (first | exact trivial | refine ⟨trivial, ?_⟩ | refine ⟨rfl, ?_⟩))) (by (repeat (first | exact trivial | refine ⟨trivial, ?_⟩ | refine ⟨rfl, ?_⟩)))
            · rintro ⟨j, s', w', l⟩ ⟨g1, g2, g3, g4⟩
              dsimp only at g1 g2 g3 g4 ⊢
              have hW8' : (ints (wL w')).length = 8 := by rw [ints_len, wL_len]
              by_cases hj : j < p.length
              · have hes := runE_step (n := g.n) (i := i) hj s' w' l
                rw [g4] at hes
                refine Wk.on ?_
                rw [decide_eq_true (show ((j : Nat) : Int) < ((p.length : Nat) : Int) by omega)]
                refine Wk.on ?_
                refine ⟨⟨rfl, by omega, by show ((j : Nat) : Int) < ((p.length : Nat) : Int); omega⟩, ?_⟩
                refine Wk.on ?_
                refine ⟨by show ((j : Nat) : Int).toNat * 1 + 1 ≤ (p.map _).length; rw [List.length_map]; omega, ?_⟩
                refine Wk.on ?_
                have hv : (RT.leaf 1 p.length p).cs.getD (((j : Nat) : Int).toNat * 1) (.int .i64 0) = .int .i64 (p.getD j 0) := by
                  rw [Int.toNat_natCast, Nat.mul_one]; exact ints_getD p j 0
                rw [hv]
                obtain ⟨v, hvv⟩ : ∃ v, v = p.getD j 0 := ⟨_, rfl⟩
                rw [← hvv] at hes ⊢
                clear hv
                by_cases c1 : v ≤ l
                · rw [if_pos (.inl c1)] at hes
                  refine Wk.on ?_
                  rw [decide_eq_true c1]
                  refine Wk.on ?_
                  rw [hes] at hst
                  exact AH.Fin.nil [] ⟨by rw [isBar_none hst]; rfl, rfl, rfl⟩ (by first | exact trivial | (simp [tupA, hpLt, tmLt, AV.lt, AE.lt, AC.lt, LL_cons, LL_nil, idOk, ABlk.lt, ints_LL, GB, tab64_LL, gC, wB, giC, noneB, tvC_LL]; done) | (simp [tupA, hpLt, tmLt, AV.lt, AE.lt, AC.lt, LL_cons, LL_nil, idOk, ABlk.lt, ints_LL, GB, tab64_LL, gC, wB, giC, noneB, tvC_LL, rdn, wrn]; done)) trivial trivial rfl (by simp [GB])
                · refine Wk.on ?_
                  rw [decide_eq_false c1]
                  refine Wk.on ?_
                  by_cases c2 : ((g.n : Nat) : Int) ≤ v
                  · rw [if_pos (.inr (.inl c2))] at hes
                    rw [decide_eq_true c2]
                    refine Wk.on ?_
                    rw [hes] at hst
                    exact AH.Fin.nil [] ⟨by rw [isBar_none hst]; rfl, rfl, rfl⟩ (by first | exact trivial | (simp [tupA, hpLt, tmLt, AV.lt, AE.lt, AC.lt, LL_cons, LL_nil, idOk, ABlk.lt, ints_LL, GB, tab64_LL, gC, wB, giC, noneB, tvC_LL]; done) | (simp [tupA, hpLt, tmLt, AV.lt, AE.lt, AC.lt, LL_cons, LL_nil, idOk, ABlk.lt, ints_LL, GB, tab64_LL, gC, wB, giC, noneB, tvC_LL, rdn, wrn]; done)) trivial trivial rfl (by simp [GB])
                  · rw [decide_eq_false c2]
                    refine Wk.on ?_
                    obtain ⟨a, rfl⟩ : ∃ a : Nat, v = a := ⟨v.toNat, by omega⟩
                    rw [Int.toNat_natCast] at hes
                    rw [wrapU (by omega)]
                    refine Wk.on ?_
                    have han : a < g.n := by omega
                    have hp8 : 2 ^ g.n ≤ 256 := Nat.pow_le_pow_right (j := 8) (by omega) (by omega)
                    obtain ⟨q2, hq2⟩ : ∃ q2, q2 = s' / 2 ^ a := ⟨_, rfl⟩
                    have hq2l : q2 < 256 := by rw [hq2]; exact Nat.lt_of_le_of_lt (Nat.div_le_self _ _) (by omega)
                    have hbt : s'.testBit a = decide (q2 % 2 = 1) := by rw [hq2]; exact Nat.testBit_eq_decide_div_mod_eq
                    rw [shrN, ← hq2]
                    refine Wk.on ?_
                    rw [show (((q2 : Nat) : Int).toNat &&& Int.toNat 1) = q2 % 2 from Nat.and_one_is_mod q2]
                    by_cases c3 : q2 % 2 = 1
                    · rw [if_pos (.inr (.inr (by rw [hbt]; exact decide_eq_true c3)))] at hes
                      rw [decide_eq_true (show ((q2 % 2 : Nat) : Int) = 1 by omega)]
                      refine Wk.on ?_
                      rw [hes] at hst
                      exact AH.Fin.nil [] ⟨by rw [isBar_none hst]; rfl, rfl, rfl⟩ (by first | exact trivial | (simp [tupA, hpLt, tmLt, AV.lt, AE.lt, AC.lt, LL_cons, LL_nil, idOk, ABlk.lt, ints_LL, GB, tab64_LL, gC, wB, giC, noneB, tvC_LL]; done) | (simp [tupA, hpLt, tmLt, AV.lt, AE.lt, AC.lt, LL_cons, LL_nil, idOk, ABlk.lt, ints_LL, GB, tab64_LL, gC, wB, giC, noneB, tvC_LL, rdn, wrn]; done)) trivial trivial rfl (by simp [GB])
                    · have hnb : ¬ s'.testBit a = true := by rw [hbt, decide_eq_false c3]; decide
                      rw [if_neg (by rintro (h | h | h); exact c1 h; exact c2 h; exact hnb h)] at hes
                      rw [decide_eq_false (show ¬ ((q2 % 2 : Nat) : Int) = 1 by omega)]
                      refine Wk.on ?_
                      rw [wrapU (by omega)]
                      refine Wk.on ?_
                      obtain ⟨r2, hr2⟩ : ∃ r2, r2 = 2 ^ a := ⟨_, rfl⟩
                      have hr2l : r2 < 2 ^ g.n := by rw [hr2]; exact (Nat.pow_lt_pow_iff_right (by omega)).2 han
                      have hor : s' ||| r2 < 2 ^ g.n := or_lt g2 hr2l
                      refine ⟨⟨by omega, by omega, by rw [shl1 hr2]; unfold I64; omega⟩, ?_⟩
                      rw [shl1 hr2]
                      refine Wk.on ?_
                      rw [← hr2] at hes
                      refine Again.mk ((j + 1, s' ||| r2, updW w' a i, (a : Int))) (Sub.nil ⟨rfl, rfl, (by simp [tab64_LL, gC, wB, giC, noneB, tvC_LL]), rfl, (by simp [tupA, hpLt, tmLt, AV.lt, AE.lt, AC.lt, LL_cons, LL_nil, idOk, ABlk.lt, ints_LL, GB, tab64_LL, gC, wB, giC, noneB, tvC_LL]), (by simp [tupA, hpLt, tmLt, AV.lt, AE.lt, AC.lt, LL_cons, LL_nil, idOk, ABlk.lt, ints_LL, GB, tab64_LL, gC, wB, giC, noneB, tvC_LL])⟩ (by (repeat (first | exact trivial | refine ⟨trivial, ?_⟩ | refine ⟨rfl, ?_⟩))) ⟨by show ABlk.own _ = ABlk.own _; rw [Int.toNat_natCast, Nat.zero_add, Nat.mul_one, wL_set w' i (by omega)], rfl, rfl, rfl, trivial⟩) (⟨by show j + 1 ≤ p.length; omega, hor, by show (-1 : Int) ≤ (a : Int); omega, hes.symm⟩) (by omega)
              · have hje : j = p.length := by omega
                subst hje
                rw [List.drop_length, runE] at g4
                rw [← g4] at hst
                dsimp only at hst
                refine Wk.on ?_
                rw [decide_eq_false (show ¬ ((p.length : Nat) : Int) < ((p.length : Nat) : Int) by omega)]
                refine Wk.on ?_
                intro _
                refine Wk.on ?_
                refine Again.mk ((i + 1, s', w')) (Sub.nil ⟨rfl, rfl, (by simp [tab64_LL, gC, wB, giC, noneB, tvC_LL]), rfl, (by simp [tupA, hpLt, tmLt, AV.lt, AE.lt, AC.lt, LL_cons, LL_nil, idOk, ABlk.lt, ints_LL, GB, tab64_LL, gC, wB, giC, noneB, tvC_LL]), (by simp [tupA, hpLt, tmLt, AV.lt, AE.lt, AC.lt, LL_cons, LL_nil, idOk, ABlk.lt, ints_LL, GB, tab64_LL, gC, wB, giC, noneB, tvC_LL])⟩ (by (repeat (first | exact trivial | refine ⟨trivial, ?_⟩ | refine ⟨rfl, ?_⟩))) (by (repeat (first | exact trivial | refine ⟨trivial, ?_⟩ | refine ⟨rfl, ?_⟩)))) (⟨by show i + 1 ≤ V.length; omega, g2, fun _ => (by show V.getD (i + 1 - 1) [] ≠ []; rw [Nat.add_sub_cancel, ← hp]; exact hp0), hst.symm⟩) (by omega)
        · rw [decide_eq_false (show ¬ (0 : Int) < ((i : Nat) : Int) by omega)]
          rw [if_neg (by rintro (h | h); exact hp0 h; exact hi0 h.1)] at hst
          refine Wk.on ?_
          refine Tr.loop (md := true) (X := Nat × Nat × (Nat → Nat) × Int) (st := fun x => ⟨[(1, .c (.rs 1 0 V.length)), (2, .c (.ptr 2 0)), (7, .c (.ptr 3 0)), (8, .c (.int .i64 x.2.1)), (9, .c (.int .i64 i)), (10, .c (.tv (.leaf 1 p.length p))), (11, .c (.int .i64 x.2.2.2)), (19, .c (.rs 1 0 V.length)), (20, .c (.int .i64 V.length)), (21, .c (.int .i64 i)), (43, .c (.tv (.leaf 1 p.length p))), (44, .c (.int .i64 p.length)), (45, .c (.int .i64 x.1))], [(3, .own (ints (wL x.2.2.1))), (2, .own (gC g 0)), (0, wB g), (1, .ro (tvC V))], 4, 99, 2⟩) (inv := fun x => x.1 ≤ p.length ∧ x.2.1 < 2 ^ g.n ∧ -1 ≤ x.2.2.2 ∧ runE g.n i (p.drop x.1) x.2.1 x.2.2.1 x.2.2.2 = runE g.n i p s w (-1)) (μ := fun x => p.length - x.1) (x0 := (0, s, w, -1)) (l := []) tok ⟨by omega, h2, by show (-1 : Int) ≤ -1; omega, rfl⟩ ?_ ?_
          · exact Sub.nil ⟨rfl, rfl, (by simp [tab64_LL, gC, wB, giC, noneB, tvC_LL]), rfl, (by simp [tupA, hpLt, tmLt, AV.lt, AE.lt, AC.lt, LL_cons, LL_nil, idOk, ABlk.lt, ints_LL, GB, tab64_LL, gC, wB, giC, noneB, tvC_LL]), (by simp [tupA, hpLt, tmLt, AV.lt, AE.lt, AC.lt, LL_cons, LL_nil, idOk, ABlk.lt, ints_LL, GB, tab64_LL, gC, wB, giC, noneB, tvC_LL])⟩ (by (repeat (first | exact trivial | refine ⟨trivial, ?_⟩ | refine ⟨rfl, ?_⟩))) (by (repeat (first | exact trivial | refine ⟨trivial, ?_⟩ | refine ⟨rfl, ?_⟩)))
          · rintro ⟨j, s', w', l⟩ ⟨g1, g2, g3, g4⟩
            dsimp only at g1 g2 g3 g4 ⊢
            have hW8' : (ints (wL w')).length = 8 := by rw [ints_len, wL_len]
            by_cases hj : j < p.length
            · have hes := runE_step (n := g.n) (i := i) hj s' w' l
              rw [g4] at hes
              refine Wk.on ?_
              rw [decide_eq_true (show ((j : Nat) : Int) < ((p.length : Nat) : Int) by omega)]
              refine Wk.on ?_
              refine ⟨⟨rfl, by omega, by show ((j : Nat) : Int) < ((p.length : Nat) : Int); omega⟩, ?_⟩
              refine Wk.on ?_
              refine ⟨by show ((j : Nat) : Int).toNat * 1 + 1 ≤ (p.map _).length; rw [List.length_map]; omega, ?_⟩
              refine Wk.on ?_
              have hv : (RT.leaf 1 p.length p).cs.getD (((j : Nat) : Int).toNat * 1) (.int .i64 0) = .int .i64 (p.getD j 0) := by
                rw [Int.toNat_natCast, Nat.mul_one]; exact ints_getD p j 0
              rw [hv]
              obtain ⟨v, hvv⟩ : ∃ v, v = p.getD j 0 := ⟨_, rfl⟩
              rw [← hvv] at hes ⊢
              clear hv
              by_cases c1 : v ≤ l
              · rw [if_pos (.inl c1)] at hes
                refine Wk.on ?_
                rw [decide_eq_true c1]
                refine Wk.on ?_
                rw [hes] at hst
                exact AH.Fin.nil [] ⟨by rw [isBar_none hst]; rfl, rfl, rfl⟩ (by first | exact trivial | (simp [tupA, hpLt, tmLt, AV.lt, AE.lt, AC.lt, LL_cons, LL_nil, idOk, ABlk.lt, ints_LL, GB, tab64_LL, gC, wB, giC, noneB, tvC_LL]; done) | (simp [tupA, hpLt, tmLt, AV.lt, AE.lt, AC.lt, LL_cons, LL_nil, idOk, ABlk.lt, ints_LL, GB, tab64_LL, gC, wB, giC, noneB, tvC_LL, rdn, wrn]; done)) trivial trivial rfl (by simp [GB])
              · refine Wk.on ?_
                rw [decide_eq_false c1]
                refine Wk.on ?_
                by_cases c2 : ((g.n : Nat) : Int) ≤ v
                · rw [if_pos (.inr (.inl c2))] at hes
                  rw [decide_eq_true c2]
                  refine Wk.on ?_
                  rw [hes] at hst
                  exact AH.Fin.nil [] ⟨by rw [isBar_none hst]; rfl, rfl, rfl⟩ (by first | exact trivial | (simp [tupA, hpLt, tmLt, AV.lt, AE.lt, AC.lt, LL_cons, LL_nil, idOk, ABlk.lt, ints_LL, GB, tab64_LL, gC, wB, giC, noneB, tvC_LL]; done) | (simp [tupA, hpLt, tmLt, AV.lt, AE.lt, AC.lt, LL_cons, LL_nil, idOk, ABlk.lt, ints_LL, GB, tab64_LL, gC, wB, giC, noneB, tvC_LL, rdn, wrn]; done)) trivial trivial rfl (by simp [GB])
                · rw [decide_eq_false c2]
                  refine Wk.on ?_
                  obtain ⟨a, rfl⟩ : ∃ a : Nat, v = a := ⟨v.toNat, by omega⟩
                  rw [Int.toNat_natCast] at hes
                  rw [wrapU (by omega)]
                  refine Wk.on ?_
                  have han : a < g.n := by omega
                  have hp8 : 2 ^ g.n ≤ 256 := Nat.pow_le_pow_right (j := 8) (by omega) (by omega)
                  obtain ⟨q2, hq2⟩ : ∃ q2, q2 = s' / 2 ^ a := ⟨_, rfl⟩
                  have hq2l : q2 < 256 := by rw [hq2]; exact Nat.lt_of_le_of_lt (Nat.div_le_self _ _) (by omega)
                  have hbt : s'.testBit a = decide (q2 % 2 = 1) := by rw [hq2]; exact Nat.testBit_eq_decide_div_mod_eq
                  rw [shrN, ← hq2]
                  refine Wk.on ?_
                  rw [show (((q2 : Nat) : Int).toNat &&& Int.toNat 1) = q2 % 2 from Nat.and_one_is_mod q2]
                  by_cases c3 : q2 % 2 = 1
                  · rw [if_pos (.inr (.inr (by rw [hbt]; exact decide_eq_true c3)))] at hes
                    rw [decide_eq_true (show ((q2 % 2 : Nat) : Int) = 1 by omega)]
                    refine Wk.on ?_
                    rw [hes] at hst
                    exact AH.Fin.nil [] ⟨by rw [isBar_none hst]; rfl, rfl, rfl⟩ (by first | exact trivial | (simp [tupA, hpLt, tmLt, AV.lt, AE.lt, AC.lt, LL_cons, LL_nil, idOk, ABlk.lt, ints_LL, GB, tab64_LL, gC, wB, giC, noneB, tvC_LL]; done) | (simp [tupA, hpLt, tmLt, AV.lt, AE.lt, AC.lt, LL_cons, LL_nil, idOk, ABlk.lt, ints_LL, GB, tab64_LL, gC, wB, giC, noneB, tvC_LL, rdn, wrn]; done)) trivial trivial rfl (by simp [GB])
                  · have hnb : ¬ s'.testBit a = true := by rw [hbt, decide_eq_false c3]; decide
                    rw [if_neg (by rintro (h | h | h); exact c1 h; exact c2 h; exact hnb h)] at hes
                    rw [decide_eq_false (show ¬ ((q2 % 2 : Nat) : Int) = 1 by omega)]
                    refine Wk.on ?_
                    rw [wrapU (by omega)]
                    refine Wk.on ?_
                    obtain ⟨r2, hr2⟩ : ∃ r2, r2 = 2 ^ a := ⟨_, rfl⟩
                    have hr2l : r2 < 2 ^ g.n := by rw [hr2]; exact (Nat.pow_lt_pow_iff_right (by omega)).2 han
                    have hor : s' ||| r2 < 2 ^ g.n := or_lt g2 hr2l
                    refine ⟨⟨by omega, by omega, by rw [shl1 hr2]; unfold I64; omega⟩, ?_⟩
                    rw [shl1 hr2]
                    refine Wk.on ?_
                    rw [← hr2] at hes
                    refine Again.mk ((j + 1, s' ||| r2, updW w' a i, (a : Int))) (Sub.nil ⟨rfl, rfl, (by simp [tab64_LL, gC, wB, giC, noneB, tvC_LL]), rfl, (by simp [tupA, hpLt, tmLt, AV.lt, AE.lt, AC.lt, LL_cons, LL_nil, idOk, ABlk.lt, ints_LL, GB, tab64_LL, gC, wB, giC, noneB, tvC_LL]), (by simp [tupA, hpLt, tmLt, AV.lt, AE.lt, AC.lt, LL_cons, LL_nil, idOk, ABlk.lt, ints_LL, GB, tab64_LL, gC, wB, giC, noneB, tvC_LL])⟩ (by (repeat (first | exact trivial | refine ⟨trivial, ?_⟩ | refine ⟨rfl, ?_⟩))) ⟨by show ABlk.own _ = ABlk.own _; rw [Int.toNat_natCast, Nat.zero_add, Nat.mul_one, wL_set w' i (by omega)], rfl, rfl, rfl, trivial⟩) (⟨by show j + 1 ≤ p.length; omega, hor, by show (-1 : Int) ≤ (a : Int); omega, hes.symm⟩) (by omega)
            · have hje : j = p.length := by omega
              subst hje
              rw [List.drop_length, runE] at g4
              rw [← g4] at hst
              dsimp only at hst
              refine Wk.on ?_
              rw [decide_eq_false (show ¬ ((p.length : Nat) : Int) < ((p.length : Nat) : Int) by omega)]
              refine Wk.on ?_
              intro _
              refine Wk.on ?_
              refine Again.mk ((i + 1, s', w')) (Sub.nil ⟨rfl, rfl, (by simp [tab64_LL, gC, wB, giC, noneB, tvC_LL]), rfl, (by simp [tupA, hpLt, tmLt, AV.lt, AE.lt, AC.lt, LL_cons, LL_nil, idOk, ABlk.lt, ints_LL, GB, tab64_LL, gC, wB, giC, noneB, tvC_LL]), (by simp [tupA, hpLt, tmLt, AV.lt, AE.lt, AC.lt, LL_cons, LL_nil, idOk, ABlk.lt, ints_LL, GB, tab64_LL, gC, wB, giC, noneB, tvC_LL])⟩ (by (repeat (first | exact trivial | refine ⟨trivial, ?_⟩ | refine ⟨rfl, ?_⟩))) (by (repeat (first | exact trivial | refine ⟨trivial, ?_⟩ | refine ⟨rfl, ?_⟩)))) (⟨by show i + 1 ≤ V.length; omega, g2, fun _ => (by show V.getD (i + 1 - 1) [] ≠ []; rw [Nat.add_sub_cancel, ← hp]; exact hp0), hst.symm⟩) (by omega)
    · have hie : i = V.length := by omega
      subst hie
      rw [List.drop_length, runP] at h3
      refine Wk.on ?_
      rw [decide_eq_false (show ¬ ((V.length : Nat) : Int) < ((V.length : Nat) : Int) by omega)]
      refine Wk.on ?_
      intro _
      have hb : isBar g V = (decide (s = 2 ^ g.n - 1) && decide (2 ≤ V.length) && decide ((crN w g.ws : Int) < 2 * ((V.length : Int) - 1))) := by unfold isBar; rw [← h3]
      have hN8 : 2 ^ g.n ≤ 256 := Nat.pow_le_pow_right (j := 8) (by omega) (by omega)
      have hN0 := pow_pos2 g.n
      obtain ⟨N, hN⟩ : ∃ N, N = 2 ^ g.n := ⟨_, rfl⟩
      rw [← hN] at hN8 hN0 hb
      have hcr : crN w g.ws ≤ 10 := Nat.le_trans List.countP_le_length hg.ok.len
      refine Wk.on ?_
      rw [wrapU (by omega)]
      refine ⟨⟨by omega, by omega, by rw [shl1 hN]; unfold I64; omega⟩, ?_⟩
      rw [shl1 hN]
      refine Wk.on ?_
      by_cases c1 : s = N - 1
      · rw [decide_eq_true c1, Bool.true_and] at hb
        rw [decide_eq_true (show ((s : Nat) : Int) = ((N : Nat) : Int) - 1 by omega)]
        refine Wk.on ?_
        by_cases c2 : 2 ≤ V.length
        · rw [decide_eq_true c2, Bool.true_and] at hb
          rw [decide_eq_true (show (2 : Int) ≤ ((V.length : Nat) : Int) by omega)]
          refine Wk.on ?_
          refine CallA.ro [0] (.c (.int .i64 (crN w g.ws : Nat))) (between_spec hg.ok w) (by first | rfl | exact congrArg AV.g (ints_ren _ _) | (simp [ints_ren, AV.ren, ABlk.ren, AC.ren, AE.ren, tvC_ren, qq]; done)) rfl (by (repeat (first | exact trivial | refine ⟨⟨(by first | exact .inl (by decide) | exact .inr (by decide)), (by first | (refine Or.inl ?_; first | rfl | exact congrArg some (ints_ren _ _).symm | exact congrArg ABlk.own (ints_ren _ _).symm | exact congrArg some (tab64_ren _).symm) | rfl | exact congrArg some (ints_ren _ _).symm | exact congrArg ABlk.own (ints_ren _ _).symm | exact congrArg some (tab64_ren _).symm | exact Or.inr ⟨rfl, rfl⟩)⟩, ?_⟩))) (by first | rfl | exact congrArg AV.g (ints_ren _ _) | (simp [ints_ren, AV.ren, ABlk.ren, AC.ren, AE.ren, tvC_ren, qq]; done)) ?_
          refine Wk.on ?_
          exact AH.Fin.nil [] ⟨by rw [hb]; rfl, rfl, rfl⟩ (by first | exact trivial | (simp [tupA, hpLt, tmLt, AV.lt, AE.lt, AC.lt, LL_cons, LL_nil, idOk, ABlk.lt, ints_LL, GB, tab64_LL, gC, wB, giC, noneB, tvC_LL]; done) | (simp [tupA, hpLt, tmLt, AV.lt, AE.lt, AC.lt, LL_cons, LL_nil, idOk, ABlk.lt, ints_LL, GB, tab64_LL, gC, wB, giC, noneB, tvC_LL, rdn, wrn]; done)) trivial trivial rfl (by simp [GB])
        · rw [decide_eq_false c2, Bool.false_and] at hb
          rw [decide_eq_false (show ¬ (2 : Int) ≤ ((V.length : Nat) : Int) by omega)]
          refine Wk.on ?_
          exact AH.Fin.nil [] ⟨by rw [hb]; rfl, rfl, rfl⟩ (by first | exact trivial | (simp [tupA, hpLt, tmLt, AV.lt, AE.lt, AC.lt, LL_cons, LL_nil, idOk, ABlk.lt, ints_LL, GB, tab64_LL, gC, wB, giC, noneB, tvC_LL]; done) | (simp [tupA, hpLt, tmLt, AV.lt, AE.lt, AC.lt, LL_cons, LL_nil, idOk, ABlk.lt, ints_LL, GB, tab64_LL, gC, wB, giC, noneB, tvC_LL, rdn, wrn]; done)) trivial trivial rfl (by simp [GB])
      · rw [decide_eq_false c1, Bool.false_and, Bool.false_and] at hb
        rw [decide_eq_false (show ¬ ((s : Nat) : Int) = ((N : Nat) : Int) - 1 by omega)]
        refine Wk.on ?_
        exact AH.Fin.nil [] ⟨by rw [hb]; rfl, rfl, rfl⟩ (by first | exact trivial | (simp [tupA, hpLt, tmLt, AV.lt, AE.lt, AC.lt, LL_cons, LL_nil, idOk, ABlk.lt, ints_LL, GB, tab64_LL, gC, wB, giC, noneB, tvC_LL]; done) | (simp [tupA, hpLt, tmLt, AV.lt, AE.lt, AC.lt, LL_cons, LL_nil, idOk, ABlk.lt, ints_LL, GB, tab64_LL, gC, wB, giC, noneB, tvC_LL, rdn, wrn]; done)) trivial trivial rfl (by simp [GB])
end Go.Proofs.YtfphkpdobbffeaaDoor

/-
  Contract: the reference's HasBarrier.
-/
namespace Go.Proofs.YtfphkpdobbffeaaDoor
open Go Go.AH
set_option maxRecDepth 100000
set_option maxHeartbeats 4000000

def nL (w : Nat → Nat) (n : Nat) : List Int := (List.range n).map fun i => (w i : Int)
def hasB (g : Gm) : Nat → Nat → (Nat → Nat) → Nat → Bool
  | 0, _, w, m => decide (2 ≤ m) && decide ((crN w g.ws : Int) < 2 * ((m : Int) - 1))
  | d + 1, i, w, m => (List.range (m + 1)).any fun k => hasB g d (i + 1) (updW w i k) (max m (k + 1))
def DvSp (g : Gm) (d i : Nat) (w : Nat → Nat) (m : Nat) : Prop := FDet Tryd.prog 70 [.g (gC g 0), .c (.rs 1 0 g.n), .c (.int .i64 i), .c (.int .i64 m)] [(0, wB g), (1, .ro (ints (nL w g.n)))] 2 (.c (.bool (hasB g d i w m))) [] 2
end Go.Proofs.YtfphkpdobbffeaaDoor

/-
  Contract: the reference's IsBarrier.
-/
namespace Go.Proofs.YtfphkpdobbffeaaDoor
open Go Go.AH
set_option maxRecDepth 100000
set_option maxHeartbeats 4000000

def runRE (n i : Nat) : List Int → Option Int → Nat → (Nat → Nat) → Option (Nat × (Nat → Nat))
  | [], _, c, u => some (c, u)
  | x :: r, q, c, u => if (x < 0 ∨ (n : Int) ≤ x ∨ 0 < u x.toNat) ∨ ∃ y, q = some y ∧ x ≤ y then none else runRE n i r (some x) (c + 1) (updW u x.toNat (i + 1))
def runRP (n : Nat) : List (List Int) → Nat → Option (List Int) → Nat → (Nat → Nat) → Option (Nat × (Nat → Nat))
  | [], _, _, c, u => some (c, u)
  | p :: r, i, q, c, u => if p = [] then none else match runRE n i p none c u with
    | none => none
    | some (c, u) => if ∃ x, q = some x ∧ p.getD 0 0 < x.getD 0 0 then none else runRP n r (i + 1) (some p) c u
def isBarR (g : Gm) (V : List (List Int)) : Bool := match runRP g.n V 0 none 0 w0 with
  | none => false
  | some (c, u) => decide (c = g.n) && decide (2 ≤ V.length) && decide ((crN u g.ws : Int) < 2 * ((V.length : Int) - 1))
def prevE (p : List Int) (j : Nat) : Option Int := if j = 0 then none else some (p.getD (j - 1) 0)
end Go.Proofs.YtfphkpdobbffeaaDoor

/-
  Plain: two trees on all places, or a barrier: never both, and always one.
-/
namespace Go.Proofs.YtfphkpdobbffeaaDoor
open Go Go.AH Go.Wire
set_option maxRecDepth 100000
set_option maxHeartbeats 1000000

theorem crs_crN (g : Gm) (q : Nat → Nat) : Wire.crs (eg g) g.ws.length q = crN q g.ws := by
  unfold crN
  rw [← eg_map g, List.countP_map, eg_map g]
  rfl
/-! Two trees on all places. -/
theorem span_of {g : Gm} (hg : g.ok) {P : Bool → List Nat} (hP : Pk (eg g) g.n g.ws.length P) (hc : ∀ b, cp (eg g) g.n (P b) = 1) : treesF g (alS g) ≠ none := by
  have hp := ws1024 hg
  have h10 := hg.len
  have h2 := hg.n2
  have hlt : ∀ b, bm (P b) < 2 ^ g.ws.length := fun b => bm_lt (hP.lt b)
  have hpm : ∀ b, (memN (bm (P b))).Perm (P b) := fun b => bm_perm (hP.fo b).nodup (fun i hi => by have := hP.lt b i hi; omega)
  have ht : ∀ b, isTreeB g (bm (P b)) (2 ^ g.n - 1) = true := fun b => by
    rw [tree_full hg (hlt b)]
    refine ⟨(hP.fo b).perm (hpm b).symm, ?_⟩
    rw [(hpm b).length_eq]
    have := (hP.fo b).2
    rw [hc b] at this; omega
  have hpl : ∀ b, placesN g (bm (P b)) = 2 ^ g.n - 1 := fun b => by
    have := ht b
    rw [isTreeB, Bool.and_eq_true, Bool.and_eq_true, decide_eq_true_eq] at this
    exact this.1.1
  have hdj : ∀ b, bm (P b) &&& bm (P (!b)) = 0 := fun b => Nat.eq_of_testBit_eq fun i => by
    rw [Nat.testBit_and, Nat.zero_testBit, bm_bit, bm_bit]
    by_cases h : i ∈ P b
    · rw [decide_eq_false (hP.dj b i h), Bool.and_false]
    · rw [decide_eq_false h, Bool.false_and]
  have hne : ∀ b, bm (P b) ≠ 0 := fun b k => by
    have h1 := (hpm b).length_eq
    rw [k, memN_zero] at h1
    have := (hP.fo b).2
    rw [hc b, ← h1] at this
    simp at this; omega
  have go : ∀ b, bm (P b) < bm (P (!b)) → treesF g (alS g) ≠ none := fun b hlt2 hn => by
    have h1 := firstFrom_none hn (bm (P b)) (Nat.zero_le _) (by have := hlt b; omega)
    rw [okA, if_neg (by rw [hpl b, ht b, alS]; simp [hne b])] at h1
    have h3 := firstFrom_none h1 (bm (P (!b))) hlt2 (by have := hlt (!b); omega)
    rw [okB, if_pos ⟨hdj b, by rw [hpl b]; exact ht (!b)⟩] at h3
    cases h3
  rcases Nat.lt_trichotomy (bm (P true)) (bm (P false)) with k | k | k
  · exact go true k
  · have := hdj true
    rw [show (!true) = false from rfl, ← k, Nat.and_self] at this
    exact absurd this (hne true)
  · exact go false k
theorem of_span {g : Gm} (hg : g.ok) {a b : Nat} (h : treesF g (alS g) = some (a, b)) : ∃ P, Pk (eg g) g.n g.ws.length P ∧ ∀ b, cp (eg g) g.n (P b) = 1 := by
  have hp := ws1024 hg
  obtain ⟨h1, h2, h3, h4, h5, h6, h7⟩ := treesF_lt hg.len h
  have ha : a < 2 ^ g.ws.length := by omega
  rw [alS, decide_eq_true_eq] at h4
  rw [h4] at h5 h7
  rw [tree_full hg ha] at h5
  rw [tree_full hg h3] at h7
  refine ⟨fun c => if c then memN a else memN b, ⟨fun c => by cases c; exact h7.1; exact h5.1, fun c i hi => ?_, fun c i hi => ?_⟩, fun c => ?_⟩
  · cases c
    · exact memN_lt hg.len h3 hi
    · exact memN_lt hg.len ha hi
  · have hno : ¬ (a.testBit i = true ∧ b.testBit i = true) := fun ⟨x, y⟩ => by
      have := congrArg (fun z => z.testBit i) h6
      simp [x, y] at this
    cases c
    · intro h8
      exact hno ⟨(memN_mem (by omega)).1 h8, (memN_mem (by omega)).1 hi⟩
    · intro h8
      exact hno ⟨(memN_mem (by omega)).1 hi, (memN_mem (by omega)).1 h8⟩
  · cases c
    · have := h7.1.2; show cp (eg g) g.n (memN b) = 1; omega
    · have := h5.1.2; show cp (eg g) g.n (memN a) = 1; omega
/-! A division that groups make, told by restricted growth. -/
def rk (e : Nat → Nat × Nat) (K : List Nat) (r : Nat) : Nat := (List.range r).countP fun x => decide (Wire.lb e K x = x)
theorem rk_succ (e : Nat → Nat × Nat) (K : List Nat) (r : Nat) : rk e K (r + 1) = rk e K r + if Wire.lb e K r = r then 1 else 0 := by
  unfold rk
  rw [List.range_succ, List.countP_append, List.countP_singleton]
  congr 1
  simp
theorem rk_mono (e : Nat → Nat × Nat) (K : List Nat) {r : Nat} : ∀ s, r ≤ s → rk e K r ≤ rk e K s
  | 0, h => by rw [show r = 0 by omega]; exact Nat.le_refl _
  | s + 1, h => by
    rcases Nat.lt_or_ge r (s + 1) with h2 | h2
    · have := rk_mono e K (r := r) s (by omega)
      rw [rk_succ]; omega
    · rw [show r = s + 1 by omega]; exact Nat.le_refl _
def uKl (e : Nat → Nat × Nat) (K : List Nat) (a : Nat) : Nat := rk e K (Wire.lb e K a)
theorem uKl_mx (e : Nat → Nat × Nat) (K : List Nat) : ∀ j, mx (uKl e K) j = rk e K j
  | 0 => rfl
  | j + 1 => by
    simp only [mx]
    rw [uKl_mx e K j, rk_succ]
    by_cases h : Wire.lb e K j = j
    · rw [if_pos h, uKl, h]; omega
    · rw [if_neg h, uKl]
      have h1 := lb_le (e := e) K j
      have h2 := rk_mono e K (r := Wire.lb e K j + 1) j (by omega)
      rw [rk_succ, if_pos (lb_lb K j)] at h2
      omega
theorem uKl_rg (e : Nat → Nat × Nat) (K : List Nat) (n : Nat) : RG (uKl e K) n := fun j _ => by
  rw [uKl_mx, uKl]
  exact rk_mono e K j (lb_le K j)
theorem uKl_iff (e : Nat → Nat × Nat) (K : List Nat) (a b : Nat) : uKl e K a = uKl e K b ↔ Wire.lb e K a = Wire.lb e K b := by
  refine ⟨fun h => ?_, fun h => by rw [uKl, uKl, h]⟩
  unfold uKl at h
  have key : ∀ x y, rk e K (Wire.lb e K x) = rk e K (Wire.lb e K y) → ¬ Wire.lb e K x < Wire.lb e K y := fun x y h k => by
    have h2 := rk_mono e K (r := Wire.lb e K x + 1) (Wire.lb e K y) (by omega)
    rw [rk_succ, if_pos (lb_lb K x)] at h2
    omega
  have k1 := key a b h
  have k2 := key b a h.symm
  omega
theorem bar_or {g : Gm} (hg : g.ok) : treesF g (alS g) ≠ none ∨ ∃ u, RG u g.n ∧ Bar g u := by
  have h2 := hg.n2
  rcases trees_or (eg_ends hg) (show 0 < g.n by omega) with ⟨P, hP, hc⟩ | ⟨K, _, hK⟩
  · exact .inl (span_of hg hP hc)
  · refine .inr ⟨uKl (eg g) K, uKl_rg _ _ _, ?_⟩
    have e1 : mx (uKl (eg g) K) g.n = cp (eg g) g.n K := uKl_mx _ _ _
    have e2 : crN (uKl (eg g) K) g.ws = Wire.crs (eg g) g.ws.length (Wire.lb (eg g) K) := by
      rw [crs_crN]
      refine List.countP_congr fun p _ => ?_
      have := uKl_iff (eg g) K p.1 p.2
      simp only [ne_eq, decide_not, Bool.not_eq_true', decide_eq_false_iff_not]
      rw [this]
    have := cp_pos (e := eg g) (show 0 < g.n by omega) K
    unfold Bar
    rw [e1, e2]
    omega
theorem bar_not {g : Gm} (hg : g.ok) {u : Nat → Nat} (hu : RG u g.n) (hb : Bar g u) : treesF g (alS g) = none := by
  apply Classical.byContradiction
  intro h
  obtain ⟨p, hp⟩ := Option.ne_none_iff_exists'.1 h
  obtain ⟨a, b⟩ := p
  obtain ⟨P, hP, hc⟩ := of_span hg hp
  have := no_barrier hP hc (q := u) (k := mx u g.n) fun x hx => mx_hit hu hx
  rw [crs_crN] at this
  obtain ⟨b1, b2⟩ := hb
  omega
/-! The reference's search. -/
end Go.Proofs.YtfphkpdobbffeaaDoor

/-
  Plain: what is a barrier, by the program and by the reference; what the search finds is one.
-/
namespace Go.Proofs.YtfphkpdobbffeaaDoor
open Go Go.AH Go.Wire
set_option maxRecDepth 100000
set_option maxHeartbeats 1000000

theorem or_tb (s a b : Nat) : (s ||| 2 ^ a).testBit b = (s.testBit b || decide (a = b)) := by
  rw [Nat.testBit_or, Nat.testBit_two_pow]
/-! The program's and the reference's answers are the same. -/
structure Rl (n s c : Nat) (u w : Nat → Nat) : Prop where
  b : ∀ a, a < n → (s.testBit a = true ↔ 0 < u a)
  l : s < 2 ^ n
  c : c = (List.range n).countP fun a => decide (0 < u a)
  w : ∀ a, a < n → 0 < u a → u a = w a + 1
theorem Rl.put {n s c i a : Nat} {u w : Nat → Nat} (h : Rl n s c u w) (ha : a < n) (h0 : ¬ 0 < u a) : Rl n (s ||| 2 ^ a) (c + 1) (updW u a (i + 1)) (updW w a i) where
  b := fun b hb => by
    rw [or_tb, Bool.or_eq_true, decide_eq_true_eq, h.b b hb, updW]
    by_cases e : b = a
    · subst e; simp
    · rw [if_neg e]
      exact ⟨fun k => k.resolve_right fun k => e k.symm, .inl⟩
  l := or_lt h.l ((Nat.pow_lt_pow_iff_right (by omega)).2 ha)
  c := by
    have h1 := cnt_rm (fun b => decide (0 < updW u a (i + 1) b)) a (by simp [updW]) n
    rw [if_pos ha] at h1
    rw [← h1, h.c]
    congr 1
    refine List.countP_congr fun b _ => ?_
    rw [Bool.and_eq_true, decide_eq_true_eq, decide_eq_true_eq, decide_eq_true_eq, updW]
    by_cases e : b = a
    · subst e; simp; omega
    · rw [if_neg e]; exact ⟨fun k => ⟨k, e⟩, fun k => k.1⟩
  w := fun b hb h1 => by
    rw [updW] at h1 ⊢
    rw [updW]
    by_cases e : b = a
    · rw [if_pos e, if_pos e]
    · rw [if_neg e] at h1 ⊢; rw [if_neg e]; exact h.w b hb h1
theorem cmpL_cons {a b : Int} {x y : List Int} (h : a < b) : cmpL (a :: x) (b :: y) < 0 := by
  have e : cmpI a b = -1 := by rw [cmpI, if_pos h]
  rw [cmpL, e, if_neg (by decide)]; decide
/-! What the search finds is a barrier. -/
theorem runE_inc {n i : Nat} : ∀ (r : List Int) (s : Nat) (w : Nat → Nat) (l : Int), -1 ≤ l → List.Pairwise (· < ·) (l :: r) → (∀ v ∈ r, v < (n : Int) ∧ s.testBit v.toNat = false) →
    ∃ s' w', runE n i r s w l = some (s', w') ∧ (∀ a : Nat, s'.testBit a = (s.testBit a || decide ((a : Int) ∈ r))) ∧ ∀ a : Nat, w' a = if (a : Int) ∈ r then i else w a
  | [], s, w, l, _, _, _ => ⟨s, w, rfl, fun a => by simp, fun a => by simp⟩
  | v :: r, s, w, l, hl, hp, hv => by
    obtain ⟨p1, p2⟩ := List.pairwise_cons.1 hp
    have hlv := p1 v (List.mem_cons_self ..)
    obtain ⟨q1, q2⟩ := List.pairwise_cons.1 p2
    obtain ⟨v1, v2⟩ := hv v (List.mem_cons_self ..)
    have hv0 : 0 ≤ v := by omega
    rw [runE, if_neg (by rintro (k | k | k); omega; omega; rw [v2] at k; cases k)]
    obtain ⟨s', w', e1, e2, e3⟩ := runE_inc (n := n) (i := i) r (s ||| 2 ^ v.toNat) (updW w v.toNat i) v (by omega) p2 fun x hx => ⟨(hv x (List.mem_cons_of_mem _ hx)).1, by
      have h1 := (hv x (List.mem_cons_of_mem _ hx)).2
      have h2 := q1 x hx
      rw [or_tb, h1, Bool.false_or]
      exact decide_eq_false (by omega)⟩
    refine ⟨s', w', e1, fun a => ?_, fun a => ?_⟩
    · rw [e2, or_tb]
      have : (v.toNat = a) ↔ ((a : Int) = v) := by omega
      simp only [List.mem_cons, this]
      by_cases k : (a : Int) = v
      · simp [k]
      · simp [k]
    · rw [e3]
      by_cases k : (a : Int) ∈ r
      · rw [if_pos k, if_pos (List.mem_cons_of_mem _ k)]
      · rw [if_neg k, updW]
        by_cases k2 : a = v.toNat
        · rw [if_pos k2, if_pos (by rw [show (a : Int) = v by omega]; exact List.mem_cons_self ..)]
        · rw [if_neg k2, if_neg]
          intro k3
          rcases List.mem_cons.1 k3 with k4 | k4
          · omega
          · exact k k4
theorem lsW_mem {w : Nat → Nat} {p j a : Nat} : (a : Int) ∈ lsW w p j ↔ a < p ∧ w a = j := by
  unfold lsW
  rw [List.mem_map]
  constructor
  · rintro ⟨b, hb, e⟩
    obtain rfl : b = a := by have : (b : Int) = a := e; omega
    rw [List.mem_filter, List.mem_range, decide_eq_true_eq] at hb
    exact hb
  · intro h
    exact ⟨a, List.mem_filter.2 ⟨List.mem_range.2 h.1, decide_eq_true h.2⟩, rfl⟩
theorem lsW_nat {w : Nat → Nat} {p j : Nat} {v : Int} (h : v ∈ lsW w p j) : ∃ a : Nat, v = a := by
  unfold lsW at h
  obtain ⟨b, _, e⟩ := List.mem_map.1 h
  exact ⟨b, e.symm⟩
theorem lsW_inc (w : Nat → Nat) (p j : Nat) : List.Pairwise (· < ·) (lsW w p j) := by
  unfold lsW
  rw [List.pairwise_map]
  refine List.Pairwise.imp ?_ (List.Pairwise.filter _ List.pairwise_lt_range)
  intro a b h
  show (a : Int) < b
  omega
theorem LV_run {w : Nat → Nat} {n : Nat} (hr : RG w n) : ∀ (k j : Nat) (q : Option (List Int)) (s : Nat) (w' : Nat → Nat), j + k = mx w n → (q = none ∧ j = 0 ∨ 0 < j ∧ q = some (lsW w n (j - 1))) →
    (∀ a : Nat, s.testBit a = decide (a < n ∧ w a < j)) → (∀ a, a < n → w a < j → w' a = w a) →
    ∃ s' w'', runP n ((List.range' j k).map (lsW w n)) j q s w' = some (s', w'') ∧ (∀ a : Nat, s'.testBit a = decide (a < n ∧ w a < j + k)) ∧ ∀ a, a < n → w a < j + k → w'' a = w a
  | 0, j, q, s, w', hk, hq, hs, hw => ⟨s, w', rfl, hs, hw⟩
  | k + 1, j, q, s, w', hk, hq, hs, hw => by
    rw [List.range'_succ, List.map_cons, runP]
    obtain ⟨f, f1, f2⟩ := mx_hit (x := j) hr (by omega)
    have hne : lsW w n j ≠ [] := fun h => by
      have : (f : Int) ∈ lsW w n j := lsW_mem.2 ⟨f1, f2⟩
      rw [h] at this; cases this
    have hcmp : ¬ ∃ x, q = some x ∧ 0 ≤ cmpL x (lsW w n j) := by
      rintro ⟨x, hx, h0⟩
      rcases hq with ⟨rfl, _⟩ | ⟨hj, rfl⟩
      · cases hx
      · injection hx with hx; subst hx
        obtain ⟨b, y, hb⟩ : ∃ b y, lsW w n j = b :: y := by
          cases h : lsW w n j with
          | nil => exact absurd h hne
          | cons b y => exact ⟨b, y, rfl⟩
        have hbm : b ∈ lsW w n j := by rw [hb]; exact List.mem_cons_self ..
        obtain ⟨b', rfl⟩ := lsW_nat hbm
        obtain ⟨b1, b2⟩ := lsW_mem.1 hbm
        have h1 := hr b' b1
        obtain ⟨u, u1, u2⟩ := mx_hit (x := j - 1) (n := b') (fun x hx => hr x (by omega)) (by omega)
        have hum : (u : Int) ∈ lsW w n (j - 1) := lsW_mem.2 ⟨by omega, u2⟩
        obtain ⟨a, x, ha⟩ : ∃ a x, lsW w n (j - 1) = a :: x := by
          cases h : lsW w n (j - 1) with
          | nil => rw [h] at hum; cases hum
          | cons a x => exact ⟨a, x, rfl⟩
        have hau : a ≤ (u : Int) := by
          have h3 := lsW_inc w n (j - 1)
          rw [ha] at h3 hum
          rcases List.mem_cons.1 hum with h4 | h4
          · omega
          · have := (List.pairwise_cons.1 h3).1 _ h4; omega
        rw [ha, hb] at h0
        have := cmpL_cons (x := x) (y := y) (show a < (b' : Int) by omega)
        omega
    rw [if_neg (by rintro (h | h); exact hne h; exact hcmp h)]
    obtain ⟨s', w1, e1, e2, e3⟩ := runE_inc (n := n) (i := j) (lsW w n j) s w' (-1) (by omega) (by
      refine List.pairwise_cons.2 ⟨fun v hv => ?_, lsW_inc w n j⟩
      obtain ⟨a, rfl⟩ := lsW_nat hv
      omega) (fun v hv => by
      obtain ⟨a, rfl⟩ := lsW_nat hv
      obtain ⟨h1, h2⟩ := lsW_mem.1 hv
      refine ⟨by omega, ?_⟩
      rw [Int.toNat_natCast, hs]
      exact decide_eq_false (by omega))
    rw [e1]
    dsimp only
    obtain ⟨s2, w2, g1, g2, g3⟩ := LV_run hr k (j + 1) (some (lsW w n j)) s' w1 (by omega) (.inr ⟨by omega, by rw [Nat.add_sub_cancel]⟩) (fun a => by
      rw [e2, hs]
      rw [Bool.eq_iff_iff, Bool.or_eq_true, decide_eq_true_eq, decide_eq_true_eq, decide_eq_true_eq, lsW_mem]
      omega) (fun a ha hwa => by
      rw [e3]
      by_cases k2 : (a : Int) ∈ lsW w n j
      · rw [if_pos k2]; exact (lsW_mem.1 k2).2.symm
      · rw [if_neg k2]
        refine hw a ha ?_
        have : ¬ w a = j := fun k3 => k2 (lsW_mem.2 ⟨ha, k3⟩)
        omega)
    refine ⟨s2, w2, g1, fun a => ?_, fun a ha hwa => g3 a ha (by omega)⟩
    rw [g2, show j + 1 + k = j + (k + 1) by omega]
theorem isBar_LV {g : Gm} (hg : g.ok) {w : Nat → Nat} (hr : RG w g.n) (hb : Bar g w) : isBar g (LV w g.n) = true := by
  obtain ⟨s, w', e1, e2, e3⟩ := LV_run hr (mx w g.n) 0 none 0 w0 (by omega) (.inl ⟨rfl, rfl⟩) (fun a => by simp) (fun a _ h => absurd h (by omega))
  rw [← List.range_eq_range'] at e1
  unfold isBar
  rw [show runP g.n (LV w g.n) 0 none 0 w0 = some (s, w') from e1]
  dsimp only
  have h1 : s = 2 ^ g.n - 1 := by
    apply Nat.eq_of_testBit_eq
    intro a
    rw [Nat.testBit_two_pow_sub_one, e2]
    have := @mx_lt w a g.n
    by_cases ha : a < g.n
    · rw [decide_eq_true ha]; exact decide_eq_true ⟨ha, by have := this ha; omega⟩
    · rw [decide_eq_false ha]; exact decide_eq_false (fun k => ha k.1)
  have h2 : crN w' g.ws = crN w g.ws := crN_congr (n := g.n) (fun a ha => e3 a ha (by have := mx_lt (w := w) ha; omega)) (ws_ends hg)
  obtain ⟨b1, b2⟩ := hb
  rw [h2, LV_len, decide_eq_true h1, decide_eq_true b1, decide_eq_true (by omega)]
  rfl
end Go.Proofs.YtfphkpdobbffeaaDoor

/-
  The law SwitchPositions, as a contract.
-/
namespace Go.Proofs.YtfphkpdobbffeaaDoor
open Go Go.AH
set_option maxRecDepth 100000
set_option maxHeartbeats 1000000

end Go.Proofs.YtfphkpdobbffeaaDoor

/-
  Contracts: who wins by the reference, with what is known as a law.
-/
namespace Go.Proofs.YtfphkpdobbffeaaDoor
open Go Go.AH
set_option maxRecDepth 100000
set_option maxHeartbeats 1000000

/-- Cells of what is known. -/
def KIc (g : Gm) (cs : List AC) : Prop := ∃ L, KI g L ∧ cs = ints L
end Go.Proofs.YtfphkpdobbffeaaDoor

/-
  Contracts: a list of wires as a set, by the program and by the reference.
-/
namespace Go.Proofs.YtfphkpdobbffeaaDoor
open Go Go.AH
set_option maxRecDepth 100000
set_option maxHeartbeats 1000000

/-- The first elements rise, and are wires. -/
def risTo (n : Nat) (L : List Int) : Nat → Bool
  | 0 => true
  | i + 1 => risTo n L i && (decide (0 ≤ L.getD i 0) && (decide (L.getD i 0 < n) && (decide (i = 0) || decide (L.getD (i - 1) 0 < L.getD i 0))))
theorem risTo_succ (n : Nat) (L : List Int) (i : Nat) : risTo n L (i + 1) = true ↔ risTo n L i = true ∧ 0 ≤ L.getD i 0 ∧ L.getD i 0 < n ∧ (i = 0 ∨ L.getD (i - 1) 0 < L.getD i 0) := by
  simp [risTo]
theorem risTo_up {n : Nat} {L : List Int} {i : Nat} (h : risTo n L i = false) : ∀ j, i ≤ j → risTo n L j = false := by
  intro j hj
  induction j with
  | zero => obtain rfl : i = 0 := by omega
            exact h
  | succ j ih =>
    by_cases e : i = j + 1
    · exact e ▸ h
    · rw [risTo, ih (by omega)]; rfl
def setToL (L : List Int) : Nat → Nat
  | 0 => 0
  | i + 1 => setToL L i ||| 2 ^ (L.getD i 0).toNat
theorem setToL_lt {n : Nat} {L : List Int} : ∀ i, risTo n L i = true → setToL L i < 2 ^ n
  | 0, _ => Nat.pow_pos (by omega)
  | i + 1, h => by
    obtain ⟨h1, h2, h3, _⟩ := (risTo_succ n L i).1 h
    exact or_lt (setToL_lt i h1) ((Nat.pow_lt_pow_iff_right (by omega)).2 (by omega))
def lastOf (L : List Int) (i : Nat) : Int := if i = 0 then -1 else L.getD (i - 1) 0
theorem set_spec {g : Gm} (hg : g.ok) (L : List Int) (hL : L.length ≤ 1000) : FDet Tryd.prog 97 [.g (gC g 0), .c (.rs 1 0 L.length)] [(0, wB g), (1, .ro (ints L))] 2
    (.t [.c (.int .i64 (cond (risTo g.ws.length L L.length) (setToL L L.length) 0 : Nat)), .c (.bool (risTo g.ws.length L L.length))]) [] 2 := by
  have hgl := hg.len
  refine FSpec.of_body tok true Tryd.func97 rfl (by kernel_rfl) (by decide) (by simp [tupA, hpLt, tmLt, AV.lt, AE.lt, AC.lt, LL_cons, LL_nil, idOk, ABlk.lt, ints_LL, GB, tab64_LL, gC, wB, giC, noneB, gst, tC, pC]) (by simp [tupA, hpLt, tmLt, AV.lt, AE.lt, AC.lt, LL_cons, LL_nil, idOk, ABlk.lt, ints_LL, GB, tab64_LL, gC, wB, giC, noneB, gst, tC, pC]) (by show 2 ≤ _; decide) ?_
  refine Wk.on ?_
  refine Tr.loop (md := true) (X := Nat) (st := fun i => ⟨[(2, .c (.ptr 2 0)), (10, .c (.rs 1 0 L.length)), (11, .c (.int .i64 L.length)), (12, .c (.int .i64 i)), (6, .c (.int .i64 (setToL L i))), (7, .c (.int .i64 (lastOf L i)))], [(2, .own (gC g 0)), (0, wB g), (1, .ro (ints L))], 3, 34, 2⟩) (inv := fun i => i ≤ L.length ∧ risTo g.ws.length L i = true) (μ := fun i => L.length - i) (x0 := 0) (l := []) tok ⟨Nat.zero_le _, rfl⟩ ?_ ?_
  · exact Sub.nil ⟨rfl, rfl, (by simp [tab64_LL, gC, wB, giC, noneB, gst, tC, pC]), rfl, (by simp [tupA, hpLt, tmLt, AV.lt, AE.lt, AC.lt, LL_cons, LL_nil, idOk, ABlk.lt, ints_LL, GB, tab64_LL, gC, wB, giC, noneB, gst, tC, pC]), (by simp [tupA, hpLt, tmLt, AV.lt, AE.lt, AC.lt, LL_cons, LL_nil, idOk, ABlk.lt, ints_LL, GB, tab64_LL, gC, wB, giC, noneB, gst, tC, pC])⟩ (by (repeat (first | exact trivial | refine ⟨trivial, ?_⟩ | refine ⟨rfl, ?_⟩))) (by (repeat (first | exact trivial | refine ⟨trivial, ?_⟩ | refine ⟨rfl, ?_⟩)))
  · rintro i ⟨hi, hr⟩
    have hsl := setToL_lt i hr
    have hlow : -1 ≤ lastOf L i := by
      unfold lastOf
      split
      · omega
      · obtain ⟨j, rfl⟩ : ∃ j, i = j + 1 := ⟨i - 1, by omega⟩
        have := ((risTo_succ _ L j).1 hr).2.1
        rw [Nat.add_sub_cancel]; omega
    by_cases hil : i < L.length
    · have hnx := risTo_succ g.ws.length L i
      have hla : lastOf L (i + 1) = L.getD i 0 := by simp [lastOf]
      have hss : setToL L (i + 1) = setToL L i ||| 2 ^ (L.getD i 0).toNat := rfl
      have hat : (ints L).getD (0 + (i : Int).toNat * 1) (.int .i64 0) = .int .i64 (L.getD i 0) := by rw [ints_getD, Int.toNat_natCast, Nat.mul_one, Nat.zero_add]
      have hfail : ¬ (lastOf L i < L.getD i 0 ∧ L.getD i 0 < g.ws.length) → risTo g.ws.length L L.length = false := fun h => by
        refine risTo_up (i := i + 1) ?_ _ (by omega)
        cases hq : risTo g.ws.length L (i + 1) with
        | false => rfl
        | true =>
          obtain ⟨_, h2, h3, h4⟩ := hnx.1 hq
          refine absurd ⟨?_, h3⟩ h
          unfold lastOf
          split
          · omega
          · rcases h4 with h4 | h4
            · omega
            · exact h4
      have hgo : lastOf L i < L.getD i 0 → L.getD i 0 < g.ws.length → risTo g.ws.length L (i + 1) = true := fun h1 h2 => by
        refine hnx.2 ⟨hr, by omega, h2, ?_⟩
        unfold lastOf at h1
        split at h1
        · exact .inl (by assumption)
        · exact .inr h1
      refine Wk.on ?_
      rw [decide_eq_true (show ((i : Nat) : Int) < ((L.length : Nat) : Int) by omega)]
      refine Wk.on ?_
      refine ⟨by rw [ints_len, Int.toNat_natCast]; omega, ?_⟩
      rw [hat]
      generalize hc : L.getD i 0 = c at *
      refine Wk.on ?_
      by_cases c1 : c ≤ lastOf L i
      · have hf := hfail (by omega)
        rw [hf, decide_eq_true c1]
        refine Wk.on ?_
        exact AH.Fin.nil [] ⟨rfl, rfl, rfl⟩ (by first | exact trivial | (simp [tupA, hpLt, tmLt, AV.lt, AE.lt, AC.lt, LL_cons, LL_nil, idOk, ABlk.lt, ints_LL, GB, tab64_LL, gC, wB, giC, noneB, gst, tC, pC]; done) | (simp [tupA, hpLt, tmLt, AV.lt, AE.lt, AC.lt, LL_cons, LL_nil, idOk, ABlk.lt, ints_LL, GB, tab64_LL, gC, wB, giC, noneB, gst, tC, pC, rdn, wrn]; done)) trivial trivial rfl (by simp [GB])
      rw [decide_eq_false c1]
      refine Wk.on ?_
      by_cases c2 : (g.ws.length : Int) ≤ c
      · have hf := hfail (by omega)
        rw [hf, decide_eq_true c2]
        refine Wk.on ?_
        exact AH.Fin.nil [] ⟨rfl, rfl, rfl⟩ (by first | exact trivial | (simp [tupA, hpLt, tmLt, AV.lt, AE.lt, AC.lt, LL_cons, LL_nil, idOk, ABlk.lt, ints_LL, GB, tab64_LL, gC, wB, giC, noneB, gst, tC, pC]; done) | (simp [tupA, hpLt, tmLt, AV.lt, AE.lt, AC.lt, LL_cons, LL_nil, idOk, ABlk.lt, ints_LL, GB, tab64_LL, gC, wB, giC, noneB, gst, tC, pC, rdn, wrn]; done)) trivial trivial rfl (by simp [GB])
      rw [decide_eq_false c2]
      have hgo2 := hgo (by omega) (by omega)
      obtain ⟨w, rfl⟩ : ∃ w : Nat, c = w := ⟨c.toNat, by omega⟩
      obtain ⟨q, hq⟩ : ∃ q, q = 2 ^ w := ⟨_, rfl⟩
      have hpi : q < 2048 := hq ▸ pow_small (by omega)
      have hp2 : 2 ^ g.ws.length ≤ 1024 := Nat.pow_le_pow_right (by omega) hgl
      rw [Int.toNat_natCast, ← hq] at hss
      refine Wk.on ?_
      rw [wrapU (by omega)]
      refine ⟨⟨by omega, by omega, by rw [shl1 hq]; unfold I64; omega⟩, ?_⟩
      rw [shl1 hq]
      refine Wk.on ?_
      refine Again.mk (i + 1) (Sub.nil ⟨rfl, rfl, (by simp [tab64_LL, gC, wB, giC, noneB, gst, tC, pC]), rfl, (by simp [tupA, hpLt, tmLt, AV.lt, AE.lt, AC.lt, LL_cons, LL_nil, idOk, ABlk.lt, ints_LL, GB, tab64_LL, gC, wB, giC, noneB, gst, tC, pC]), (by simp [tupA, hpLt, tmLt, AV.lt, AE.lt, AC.lt, LL_cons, LL_nil, idOk, ABlk.lt, ints_LL, GB, tab64_LL, gC, wB, giC, noneB, gst, tC, pC])⟩ ⟨rfl, rfl, rfl, rfl, by rw [hss]; rfl, by rw [hla]; rfl, trivial⟩ (by (repeat (first | exact trivial | refine ⟨trivial, ?_⟩ | refine ⟨rfl, ?_⟩)))) ⟨by omega, hgo2⟩ (by omega)
    · obtain rfl : i = L.length := by omega
      rw [hr]
      refine Wk.on ?_
      rw [decide_eq_false (show ¬ ((L.length : Nat) : Int) < ((L.length : Nat) : Int) by omega)]
      intro _
      refine Wk.on ?_
      exact AH.Fin.nil [] ⟨rfl, rfl, rfl⟩ (by first | exact trivial | (simp [tupA, hpLt, tmLt, AV.lt, AE.lt, AC.lt, LL_cons, LL_nil, idOk, ABlk.lt, ints_LL, GB, tab64_LL, gC, wB, giC, noneB, gst, tC, pC]; done) | (simp [tupA, hpLt, tmLt, AV.lt, AE.lt, AC.lt, LL_cons, LL_nil, idOk, ABlk.lt, ints_LL, GB, tab64_LL, gC, wB, giC, noneB, gst, tC, pC, rdn, wrn]; done)) trivial trivial rfl (by simp [GB])
end Go.Proofs.YtfphkpdobbffeaaDoor

/-
  Contracts: the places of a set, by the reference.
-/
namespace Go.Proofs.YtfphkpdobbffeaaDoor
open Go Go.AH
set_option maxRecDepth 100000
set_option maxHeartbeats 1000000

def placesTo (g : Gm) (a : Nat) (i : Nat) : Nat := (((List.range i).filter a.testBit).map Int.ofNat).foldl (placesF g) 0
end Go.Proofs.YtfphkpdobbffeaaDoor

/-
  Contracts: two lists as two trees, by the reference.
-/
namespace Go.Proofs.YtfphkpdobbffeaaDoor
open Go Go.AH
set_option maxRecDepth 100000
set_option maxHeartbeats 1000000

def setV (n : Nat) (L : List Int) : Nat := cond (risTo n L L.length) (setToL L L.length) 0
def setOk (n : Nat) (L : List Int) : Bool := risTo n L L.length
theorem setV_lt (n : Nat) (L : List Int) : setV n L < 2 ^ n := by
  unfold setV
  cases h : risTo n L L.length with
  | true => exact setToL_lt _ h
  | false => exact Nat.pow_pos (by omega)
/-- Two sets are two trees, for the reference. -/
def areR (g : Gm) (x y : Bool) (a b : Nat) : Bool := x && (y && (decide (a &&& b = 0) && (decide (bit (placesN g a) g.s = 1) && (decide (bit (placesN g a) g.t = 1) && (treeR g a (placesN g a) && treeR g b (placesN g a))))))
end Go.Proofs.YtfphkpdobbffeaaDoor

/-
  Contracts: two lists as two trees, and the reply, by the program.
-/
namespace Go.Proofs.YtfphkpdobbffeaaDoor
open Go Go.AH
set_option maxRecDepth 100000
set_option maxHeartbeats 1000000

def areB (g : Gm) (x y : Bool) (a b : Nat) : Bool := x && (y && (decide (a &&& b = 0) && (decide (placesN g a &&& endsN g = endsN g) && (isTreeB g a (placesN g a) && isTreeB g b (placesN g a)))))
theorem areTrees_spec {g : Gm} (hg : g.ok) (L0 L1 : List Int) (h0 : L0.length ≤ 1000) (h1 : L1.length ≤ 1000) : FDet Tryd.prog 73 [.g (gC g 0), .g [.rs 1 0 L0.length, .rs 2 0 L1.length]] [(0, wB g), (1, .ro (ints L0)), (2, .ro (ints L1)), (100002, .ro tab64)] 3
    (.t [.g [.int .i64 (setV g.ws.length L0), .int .i64 (setV g.ws.length L1)], .c (.bool (areB g (setOk g.ws.length L0) (setOk g.ws.length L1) (setV g.ws.length L0) (setV g.ws.length L1)))]) [] 3 := by
  have hgl := hg.len
  have s0 := set_spec hg L0 h0
  have s1 := set_spec hg L1 h1
  have ha := setV_lt g.ws.length L0
  have hb := setV_lt g.ws.length L1
  change FDet _ _ _ _ _ (.t [.c (.int .i64 (setV g.ws.length L0 : Nat)), .c (.bool (setOk g.ws.length L0))]) _ _ at s0
  change FDet _ _ _ _ _ (.t [.c (.int .i64 (setV g.ws.length L1 : Nat)), .c (.bool (setOk g.ws.length L1))]) _ _ at s1
  generalize setV g.ws.length L0 = a at *
  generalize setV g.ws.length L1 = b at *
  generalize setOk g.ws.length L0 = x at *
  generalize setOk g.ws.length L1 = y at *
  have hp2 : 2 ^ g.ws.length ≤ 1024 := Nat.pow_le_pow_right (by omega) hgl
  have hpl : placesN g a < 2 ^ 8 := placesN_lt hg _ fun y hy => (mem_lt hgl ha hy).2
  have hen := endsN_lt hg
  refine FSpec.of_body tok true Tryd.func73 rfl (by kernel_rfl) (by decide) (by simp [tupA, hpLt, tmLt, AV.lt, AE.lt, AC.lt, LL_cons, LL_nil, idOk, ABlk.lt, ints_LL, GB, tab64_LL, gC, wB, giC, noneB, gst, tC, pC]) (by simp [tupA, hpLt, tmLt, AV.lt, AE.lt, AC.lt, LL_cons, LL_nil, idOk, ABlk.lt, ints_LL, GB, tab64_LL, gC, wB, giC, noneB, gst, tC, pC]) (by show 2 ≤ _; decide) ?_
  (conv => whnf); (repeat ((first | (refine ⟨rfl, ?_⟩) | (refine ⟨trivial, ?_⟩) | (refine Wk.yes ?_) | (refine Wk.no ?_) | (refine Wk.and ?_) | (refine ⟨by exact ⟨shr_nonneg _ _, by decide⟩, ?_⟩) | (refine ⟨by exact ⟨shr_nonneg' _ _, by decide⟩, ?_⟩)); (conv => whnf)))
  refine CallA.ro [0, 1] (.t [.c (.int .i64 a), .c (.bool x)]) (s0) (by first | rfl | exact congrArg AV.g (ints_ren _ _) | (simp [ints_ren, AV.ren, ABlk.ren, AC.ren, AE.ren, qq]; done)) rfl (by (repeat (first | exact trivial | refine ⟨⟨(by first | exact .inl (by decide) | exact .inr (by decide)), (by first | (refine Or.inl ?_; first | rfl | exact congrArg some (ints_ren _ _).symm | exact congrArg ABlk.own (ints_ren _ _).symm | exact congrArg some (tab64_ren _).symm) | rfl | exact congrArg some (ints_ren _ _).symm | exact congrArg ABlk.own (ints_ren _ _).symm | exact congrArg some (tab64_ren _).symm | exact Or.inr ⟨rfl, rfl⟩)⟩, ?_⟩))) (by first | rfl | exact congrArg AV.g (ints_ren _ _) | (simp [ints_ren, AV.ren, ABlk.ren, AC.ren, AE.ren, qq]; done)) ?_
  (conv => whnf); (repeat ((first | (refine ⟨rfl, ?_⟩) | (refine ⟨trivial, ?_⟩) | (refine Wk.yes ?_) | (refine Wk.no ?_) | (refine Wk.and ?_) | (refine ⟨by exact ⟨shr_nonneg _ _, by decide⟩, ?_⟩) | (refine ⟨by exact ⟨shr_nonneg' _ _, by decide⟩, ?_⟩)); (conv => whnf)))
  refine CallA.ro [0, 2] (.t [.c (.int .i64 b), .c (.bool y)]) (s1) (by first | rfl | exact congrArg AV.g (ints_ren _ _) | (simp [ints_ren, AV.ren, ABlk.ren, AC.ren, AE.ren, qq]; done)) rfl (by (repeat (first | exact trivial | refine ⟨⟨(by first | exact .inl (by decide) | exact .inr (by decide)), (by first | (refine Or.inl ?_; first | rfl | exact congrArg some (ints_ren _ _).symm | exact congrArg ABlk.own (ints_ren _ _).symm | exact congrArg some (tab64_ren _).symm) | rfl | exact congrArg some (ints_ren _ _).symm | exact congrArg ABlk.own (ints_ren _ _).symm | exact congrArg some (tab64_ren _).symm | exact Or.inr ⟨rfl, rfl⟩)⟩, ?_⟩))) (by first | rfl | exact congrArg AV.g (ints_ren _ _) | (simp [ints_ren, AV.ren, ABlk.ren, AC.ren, AE.ren, qq]; done)) ?_
  (conv => whnf); (repeat ((first | (refine ⟨rfl, ?_⟩) | (refine ⟨trivial, ?_⟩) | (refine Wk.yes ?_) | (refine Wk.no ?_) | (refine Wk.and ?_) | (refine ⟨by exact ⟨shr_nonneg _ _, by decide⟩, ?_⟩) | (refine ⟨by exact ⟨shr_nonneg' _ _, by decide⟩, ?_⟩)); (conv => whnf)))
  refine CallA.ro [0] (.c (.int .i64 (placesN g a))) (places_spec hg ha) (by first | rfl | exact congrArg AV.g (ints_ren _ _) | (simp [ints_ren, AV.ren, ABlk.ren, AC.ren, AE.ren, qq]; done)) rfl (by (repeat (first | exact trivial | refine ⟨⟨(by first | exact .inl (by decide) | exact .inr (by decide)), (by first | (refine Or.inl ?_; first | rfl | exact congrArg some (ints_ren _ _).symm | exact congrArg ABlk.own (ints_ren _ _).symm | exact congrArg some (tab64_ren _).symm) | rfl | exact congrArg some (ints_ren _ _).symm | exact congrArg ABlk.own (ints_ren _ _).symm | exact congrArg some (tab64_ren _).symm | exact Or.inr ⟨rfl, rfl⟩)⟩, ?_⟩))) (by first | rfl | exact congrArg AV.g (ints_ren _ _) | (simp [ints_ren, AV.ren, ABlk.ren, AC.ren, AE.ren, qq]; done)) ?_
  (conv => whnf); (repeat ((first | (refine ⟨rfl, ?_⟩) | (refine ⟨trivial, ?_⟩) | (refine Wk.yes ?_) | (refine Wk.no ?_) | (refine Wk.and ?_) | (refine ⟨by exact ⟨shr_nonneg _ _, by decide⟩, ?_⟩) | (refine ⟨by exact ⟨shr_nonneg' _ _, by decide⟩, ?_⟩)); (conv => whnf)))
  refine Tr.draw (md := true) [⟨[], [29, 31, 32, 33, 34, 35, 36, 37, 38, 39, 40, 41, 42, 43, 44, 45, 46, 47, 48, 49, 50, 51, 52, 53, 54, 55, 56, 57, 58, 59, 60, 61], [], [], []⟩, ⟨[], [28, 31, 32, 33, 34, 35, 36, 37, 38, 39, 40, 41, 42, 43, 44, 45, 46, 47, 48, 49, 50, 51, 52, 53, 54, 55, 56, 57, 58, 59, 60, 61], [0], [], []⟩, ⟨[0, 1], [31, 32, 33, 34, 35, 36, 37, 38, 39, 40, 41, 42, 43, 44, 45, 46, 47, 48, 49, 50, 51, 52, 53, 54, 55, 56, 57, 58, 59, 60, 61], [], [], []⟩, ⟨[], [28, 29, 30], [0, 1, 2], [], []⟩, ⟨[3], [28, 29, 30], [0, 1, 2], [], []⟩, ⟨[3, 4], [28, 29, 30], [0, 1, 2], [], []⟩, ⟨[3, 4, 5], [28, 29, 30], [0, 1, 2], [], []⟩, ⟨[3, 4, 5, 6], [28, 29, 30], [0, 1, 2], [], []⟩, ⟨[3, 4, 5, 6, 7], [28, 29, 30, 37], [0, 1, 2], [], []⟩, ⟨[3, 4, 5, 6, 7], [28, 29, 30, 36], [0, 1, 2, 8], [], []⟩, ⟨[3, 4, 5, 6, 7, 8, 9], [28, 29, 30], [0, 1, 2], [], []⟩, ⟨[3, 4, 5, 6, 7, 8, 9, 10], [28, 29, 30], [0, 1, 2], [], []⟩, ⟨[3, 4, 5, 6, 7, 8, 9, 10, 11], [28, 29, 30], [0, 1, 2], [], []⟩, ⟨[3, 4, 5, 6, 7, 8, 9, 10, 11, 12], [28, 29, 30], [0, 1, 2], [], []⟩, ⟨[3, 4, 5, 6, 7, 8, 9, 10, 11, 12, 13], [28, 29, 30, 43, 44, 46, 47], [0, 1, 2], [], []⟩, ⟨[3, 4, 5, 6, 7, 8, 9, 10, 11, 12, 13], [28, 29, 30, 42, 46], [0, 1, 2, 14], [], []⟩, ⟨[3, 4, 5, 6, 7, 8, 9, 10, 11, 12, 13, 15], [28, 29, 30, 42, 46], [0, 1, 2, 14], [], []⟩, ⟨[3, 4, 5, 6, 7, 8, 9, 10, 11, 12, 13, 14, 15, 16], [28, 29, 30, 46, 47], [0, 1, 2], [], []⟩, ⟨[3, 4, 5, 6, 7, 8, 9, 10, 11, 12, 13], [28, 29, 30, 42, 43, 44, 45], [0, 1, 2, 14, 15, 16, 17], [], []⟩, ⟨[3, 4, 5, 6, 7, 8, 9, 10, 11, 12, 13, 15, 16, 18], [28, 29, 30, 42, 45], [0, 1, 2, 14, 17], [], []⟩, ⟨[3, 4, 5, 6, 7, 8, 9, 10, 11, 12, 13, 14, 15, 16, 17, 18, 19], [28, 29, 30], [0, 1, 2], [], []⟩, ⟨[3, 4, 5, 6, 7, 8, 9, 10, 11, 12, 13, 14, 15, 16, 17, 18, 19, 20], [28, 29, 30], [0, 1, 2], [], []⟩, ⟨[3, 4, 5, 6, 7, 8, 9, 10, 11, 12, 13, 14, 15, 16, 17, 18, 19, 20, 21], [28, 29, 30], [0, 1, 2], [], []⟩, ⟨[3, 4, 5, 6, 7, 8, 9, 10, 11, 12, 13, 14, 15, 16, 17, 18, 19, 20, 21, 22], [28, 29, 30, 52, 53], [0, 1, 2], [], []⟩, ⟨[3, 4, 5, 6, 7, 8, 9, 10, 11, 12, 13, 14, 15, 16, 17, 18, 19, 20, 21, 22], [28, 29, 30, 51, 53], [0, 1, 2, 23], [], []⟩, ⟨[3, 4, 5, 6, 7, 8, 9, 10, 11, 12, 13, 14, 15, 16, 17, 18, 19, 20, 21, 22], [28, 29, 30, 51, 52], [0, 1, 2, 23, 24], [], []⟩, ⟨[3, 4, 5, 6, 7, 8, 9, 10, 11, 12, 13, 14, 15, 16, 17, 18, 19, 20, 21, 22, 23, 24, 25], [28, 29, 30], [0, 1, 2], [], []⟩, ⟨[3, 4, 5, 6, 7, 8, 9, 10, 11, 12, 13, 14, 15, 16, 17, 18, 19, 20, 21, 22, 23, 24, 25, 26], [28, 29, 30], [0, 1, 2], [], []⟩, ⟨[3, 4, 5, 6, 7, 8, 9, 10, 11, 12, 13, 14, 15, 16, 17, 18, 19, 20, 21, 22, 23, 24, 25, 26, 27], [28, 29, 30], [0, 1, 2], [], []⟩, ⟨[3, 4, 5, 6, 7, 8, 9, 10, 11, 12, 13, 14, 15, 16, 17, 18, 19, 20, 21, 22, 23, 24, 25, 26, 27, 28], [28, 29, 30, 58, 59], [0, 1, 2], [], []⟩, ⟨[3, 4, 5, 6, 7, 8, 9, 10, 11, 12, 13, 14, 15, 16, 17, 18, 19, 20, 21, 22, 23, 24, 25, 26, 27, 28], [28, 29, 30, 57, 59], [0, 1, 2, 29], [], []⟩, ⟨[3, 4, 5, 6, 7, 8, 9, 10, 11, 12, 13, 14, 15, 16, 17, 18, 19, 20, 21, 22, 23, 24, 25, 26, 27, 28], [28, 29, 30, 57, 58], [0, 1, 2, 29, 30], [], []⟩, ⟨[3, 4, 5, 6, 7, 8, 9, 10, 11, 12, 13, 14, 15, 16, 17, 18, 19, 20, 21, 22, 23, 24, 25, 26, 27, 28, 29, 30, 31], [28, 29, 30], [0, 1, 2], [], []⟩, ⟨[3, 4, 5, 6, 7, 8, 9, 10, 11, 12, 13, 14, 15, 16, 17, 18, 19, 20, 21, 22, 23, 24, 25, 26, 27, 28, 29, 30, 31, 32], [28, 29, 30], [0, 1, 2], [], [5]⟩, ⟨[0, 1, 2, 3, 4, 5, 6, 7, 8, 9, 10, 11, 12, 13, 14, 15, 16, 17, 18, 19, 20, 21, 22, 23, 24, 25, 26, 27, 28, 29, 30, 31, 32], [61], [33], [5], []⟩] tok (by kernel_rfl) (by kernel_rfl) ?_
  (conv => whnf); (repeat ((first | (refine ⟨rfl, ?_⟩) | (refine ⟨trivial, ?_⟩) | (refine Wk.yes ?_) | (refine Wk.no ?_) | (refine Wk.and ?_) | (refine ⟨by exact ⟨shr_nonneg _ _, by decide⟩, ?_⟩) | (refine ⟨by exact ⟨shr_nonneg' _ _, by decide⟩, ?_⟩)); (conv => whnf)))
  have hare : areB g x y a b = (x && (y && (decide (a &&& b = 0) && (decide (placesN g a &&& endsN g = endsN g) && (isTreeB g a (placesN g a) && isTreeB g b (placesN g a)))))) := rfl
  rw [hare]
  have hta := isTree_spec hg (n := a) (pl := placesN g a) ha (by omega)
  have htb := isTree_spec hg (n := b) (pl := placesN g a) hb (by omega)
  generalize isTreeB g a (placesN g a) = ta at *
  generalize isTreeB g b (placesN g a) = tb at *
  generalize placesN g a = pl at *
  cases x with
  | false =>
    (conv => whnf); (repeat ((first | (refine ⟨rfl, ?_⟩) | (refine ⟨trivial, ?_⟩) | (refine Wk.yes ?_) | (refine Wk.no ?_) | (refine Wk.and ?_) | (refine ⟨by exact ⟨shr_nonneg _ _, by decide⟩, ?_⟩) | (refine ⟨by exact ⟨shr_nonneg' _ _, by decide⟩, ?_⟩)); (conv => whnf)))
    exact AH.Fin.nil [] ⟨rfl, rfl, rfl⟩ (by first | exact trivial | (simp [tupA, hpLt, tmLt, AV.lt, AE.lt, AC.lt, LL_cons, LL_nil, idOk, ABlk.lt, ints_LL, GB, tab64_LL, gC, wB, giC, noneB, gst, tC, pC]; done) | (simp [tupA, hpLt, tmLt, AV.lt, AE.lt, AC.lt, LL_cons, LL_nil, idOk, ABlk.lt, ints_LL, GB, tab64_LL, gC, wB, giC, noneB, gst, tC, pC, rdn, wrn]; done)) trivial trivial rfl (by simp [GB])
  | true =>
  (conv => whnf); (repeat ((first | (refine ⟨rfl, ?_⟩) | (refine ⟨trivial, ?_⟩) | (refine Wk.yes ?_) | (refine Wk.no ?_) | (refine Wk.and ?_) | (refine ⟨by exact ⟨shr_nonneg _ _, by decide⟩, ?_⟩) | (refine ⟨by exact ⟨shr_nonneg' _ _, by decide⟩, ?_⟩)); (conv => whnf)))
  cases y with
  | false =>
    (conv => whnf); (repeat ((first | (refine ⟨rfl, ?_⟩) | (refine ⟨trivial, ?_⟩) | (refine Wk.yes ?_) | (refine Wk.no ?_) | (refine Wk.and ?_) | (refine ⟨by exact ⟨shr_nonneg _ _, by decide⟩, ?_⟩) | (refine ⟨by exact ⟨shr_nonneg' _ _, by decide⟩, ?_⟩)); (conv => whnf)))
    exact AH.Fin.nil [] ⟨rfl, rfl, rfl⟩ (by first | exact trivial | (simp [tupA, hpLt, tmLt, AV.lt, AE.lt, AC.lt, LL_cons, LL_nil, idOk, ABlk.lt, ints_LL, GB, tab64_LL, gC, wB, giC, noneB, gst, tC, pC]; done) | (simp [tupA, hpLt, tmLt, AV.lt, AE.lt, AC.lt, LL_cons, LL_nil, idOk, ABlk.lt, ints_LL, GB, tab64_LL, gC, wB, giC, noneB, gst, tC, pC, rdn, wrn]; done)) trivial trivial rfl (by simp [GB])
  | true =>
  (conv => whnf); (repeat ((first | (refine ⟨rfl, ?_⟩) | (refine ⟨trivial, ?_⟩) | (refine Wk.yes ?_) | (refine Wk.no ?_) | (refine Wk.and ?_) | (refine ⟨by exact ⟨shr_nonneg _ _, by decide⟩, ?_⟩) | (refine ⟨by exact ⟨shr_nonneg' _ _, by decide⟩, ?_⟩)); (conv => whnf)))
  simp only [Int.toNat_natCast]
  by_cases d0 : a &&& b = 0
  rotate_left
  · rw [decide_eq_false d0, decide_eq_false (show ¬ ((a &&& b : Nat) : Int) = 0 by omega)]
    (conv => whnf); (repeat ((first | (refine ⟨rfl, ?_⟩) | (refine ⟨trivial, ?_⟩) | (refine Wk.yes ?_) | (refine Wk.no ?_) | (refine Wk.and ?_) | (refine ⟨by exact ⟨shr_nonneg _ _, by decide⟩, ?_⟩) | (refine ⟨by exact ⟨shr_nonneg' _ _, by decide⟩, ?_⟩)); (conv => whnf)))
    exact AH.Fin.nil [] ⟨rfl, rfl, rfl⟩ (by first | exact trivial | (simp [tupA, hpLt, tmLt, AV.lt, AE.lt, AC.lt, LL_cons, LL_nil, idOk, ABlk.lt, ints_LL, GB, tab64_LL, gC, wB, giC, noneB, gst, tC, pC]; done) | (simp [tupA, hpLt, tmLt, AV.lt, AE.lt, AC.lt, LL_cons, LL_nil, idOk, ABlk.lt, ints_LL, GB, tab64_LL, gC, wB, giC, noneB, gst, tC, pC, rdn, wrn]; done)) trivial trivial rfl (by simp [GB])
  rw [decide_eq_true d0, decide_eq_true (show ((a &&& b : Nat) : Int) = 0 by omega)]
  (conv => whnf); (repeat ((first | (refine ⟨rfl, ?_⟩) | (refine ⟨trivial, ?_⟩) | (refine Wk.yes ?_) | (refine Wk.no ?_) | (refine Wk.and ?_) | (refine ⟨by exact ⟨shr_nonneg _ _, by decide⟩, ?_⟩) | (refine ⟨by exact ⟨shr_nonneg' _ _, by decide⟩, ?_⟩)); (conv => whnf)))
  refine CallQ.ro [0] (.c (.int .i64 (endsN g))) (ends_spec hg) (by first | rfl | exact congrArg AV.g (ints_ren _ _) | (simp [ints_ren, AV.ren, ABlk.ren, AC.ren, AE.ren, qq]; done)) rfl (by (repeat (first | exact trivial | refine ⟨⟨(by first | exact .inl (by decide) | exact .inr (by decide)), (by first | (refine Or.inl ?_; first | rfl | exact congrArg some (ints_ren _ _).symm | exact congrArg ABlk.own (ints_ren _ _).symm | exact congrArg some (tab64_ren _).symm) | rfl | exact congrArg some (ints_ren _ _).symm | exact congrArg ABlk.own (ints_ren _ _).symm | exact congrArg some (tab64_ren _).symm | exact Or.inr ⟨rfl, rfl⟩)⟩, ?_⟩))) (by first | rfl | exact congrArg AV.g (ints_ren _ _) | (simp [ints_ren, AV.ren, ABlk.ren, AC.ren, AE.ren, qq]; done)) ?_
  (conv => whnf); (repeat ((first | (refine ⟨rfl, ?_⟩) | (refine ⟨trivial, ?_⟩) | (refine Wk.yes ?_) | (refine Wk.no ?_) | (refine Wk.and ?_) | (refine ⟨by exact ⟨shr_nonneg _ _, by decide⟩, ?_⟩) | (refine ⟨by exact ⟨shr_nonneg' _ _, by decide⟩, ?_⟩)); (conv => whnf)))
  refine CallQ.ro [0] (.c (.int .i64 (endsN g))) (ends_spec hg) (by first | rfl | exact congrArg AV.g (ints_ren _ _) | (simp [ints_ren, AV.ren, ABlk.ren, AC.ren, AE.ren, qq]; done)) rfl (by (repeat (first | exact trivial | refine ⟨⟨(by first | exact .inl (by decide) | exact .inr (by decide)), (by first | (refine Or.inl ?_; first | rfl | exact congrArg some (ints_ren _ _).symm | exact congrArg ABlk.own (ints_ren _ _).symm | exact congrArg some (tab64_ren _).symm) | rfl | exact congrArg some (ints_ren _ _).symm | exact congrArg ABlk.own (ints_ren _ _).symm | exact congrArg some (tab64_ren _).symm | exact Or.inr ⟨rfl, rfl⟩)⟩, ?_⟩))) (by first | rfl | exact congrArg AV.g (ints_ren _ _) | (simp [ints_ren, AV.ren, ABlk.ren, AC.ren, AE.ren, qq]; done)) ?_
  (conv => whnf); (repeat ((first | (refine ⟨rfl, ?_⟩) | (refine ⟨trivial, ?_⟩) | (refine Wk.yes ?_) | (refine Wk.no ?_) | (refine Wk.and ?_) | (refine ⟨by exact ⟨shr_nonneg _ _, by decide⟩, ?_⟩) | (refine ⟨by exact ⟨shr_nonneg' _ _, by decide⟩, ?_⟩)); (conv => whnf)))
  simp only [Int.toNat_natCast]
  by_cases d1 : pl &&& endsN g = endsN g
  rotate_left
  · rw [decide_eq_false d1, decide_eq_false (show ¬ ((pl &&& endsN g : Nat) : Int) = ((endsN g : Nat) : Int) by omega)]
    (conv => whnf); (repeat ((first | (refine ⟨rfl, ?_⟩) | (refine ⟨trivial, ?_⟩) | (refine Wk.yes ?_) | (refine Wk.no ?_) | (refine Wk.and ?_) | (refine ⟨by exact ⟨shr_nonneg _ _, by decide⟩, ?_⟩) | (refine ⟨by exact ⟨shr_nonneg' _ _, by decide⟩, ?_⟩)); (conv => whnf)))
    exact AH.Fin.nil [] ⟨rfl, rfl, rfl⟩ (by first | exact trivial | (simp [tupA, hpLt, tmLt, AV.lt, AE.lt, AC.lt, LL_cons, LL_nil, idOk, ABlk.lt, ints_LL, GB, tab64_LL, gC, wB, giC, noneB, gst, tC, pC]; done) | (simp [tupA, hpLt, tmLt, AV.lt, AE.lt, AC.lt, LL_cons, LL_nil, idOk, ABlk.lt, ints_LL, GB, tab64_LL, gC, wB, giC, noneB, gst, tC, pC, rdn, wrn]; done)) trivial trivial rfl (by simp [GB])
  rw [decide_eq_true d1, decide_eq_true (show ((pl &&& endsN g : Nat) : Int) = ((endsN g : Nat) : Int) by omega)]
  (conv => whnf); (repeat ((first | (refine ⟨rfl, ?_⟩) | (refine ⟨trivial, ?_⟩) | (refine Wk.yes ?_) | (refine Wk.no ?_) | (refine Wk.and ?_) | (refine ⟨by exact ⟨shr_nonneg _ _, by decide⟩, ?_⟩) | (refine ⟨by exact ⟨shr_nonneg' _ _, by decide⟩, ?_⟩)); (conv => whnf)))
  refine CallQ.ro [0] (.c (.bool ta)) (hta) (by first | rfl | exact congrArg AV.g (ints_ren _ _) | (simp [ints_ren, AV.ren, ABlk.ren, AC.ren, AE.ren, qq]; done)) rfl (by (repeat (first | exact trivial | refine ⟨⟨(by first | exact .inl (by decide) | exact .inr (by decide)), (by first | (refine Or.inl ?_; first | rfl | exact congrArg some (ints_ren _ _).symm | exact congrArg ABlk.own (ints_ren _ _).symm | exact congrArg some (tab64_ren _).symm) | rfl | exact congrArg some (ints_ren _ _).symm | exact congrArg ABlk.own (ints_ren _ _).symm | exact congrArg some (tab64_ren _).symm | exact Or.inr ⟨rfl, rfl⟩)⟩, ?_⟩))) (by first | rfl | exact congrArg AV.g (ints_ren _ _) | (simp [ints_ren, AV.ren, ABlk.ren, AC.ren, AE.ren, qq]; done)) ?_
  (conv => whnf); (repeat ((first | (refine ⟨rfl, ?_⟩) | (refine ⟨trivial, ?_⟩) | (refine Wk.yes ?_) | (refine Wk.no ?_) | (refine Wk.and ?_) | (refine ⟨by exact ⟨shr_nonneg _ _, by decide⟩, ?_⟩) | (refine ⟨by exact ⟨shr_nonneg' _ _, by decide⟩, ?_⟩)); (conv => whnf)))
  cases ta with
  | false =>
    (conv => whnf); (repeat ((first | (refine ⟨rfl, ?_⟩) | (refine ⟨trivial, ?_⟩) | (refine Wk.yes ?_) | (refine Wk.no ?_) | (refine Wk.and ?_) | (refine ⟨by exact ⟨shr_nonneg _ _, by decide⟩, ?_⟩) | (refine ⟨by exact ⟨shr_nonneg' _ _, by decide⟩, ?_⟩)); (conv => whnf)))
    exact AH.Fin.nil [] ⟨rfl, rfl, rfl⟩ (by first | exact trivial | (simp [tupA, hpLt, tmLt, AV.lt, AE.lt, AC.lt, LL_cons, LL_nil, idOk, ABlk.lt, ints_LL, GB, tab64_LL, gC, wB, giC, noneB, gst, tC, pC]; done) | (simp [tupA, hpLt, tmLt, AV.lt, AE.lt, AC.lt, LL_cons, LL_nil, idOk, ABlk.lt, ints_LL, GB, tab64_LL, gC, wB, giC, noneB, gst, tC, pC, rdn, wrn]; done)) trivial trivial rfl (by simp [GB])
  | true =>
    (conv => whnf); (repeat ((first | (refine ⟨rfl, ?_⟩) | (refine ⟨trivial, ?_⟩) | (refine Wk.yes ?_) | (refine Wk.no ?_) | (refine Wk.and ?_) | (refine ⟨by exact ⟨shr_nonneg _ _, by decide⟩, ?_⟩) | (refine ⟨by exact ⟨shr_nonneg' _ _, by decide⟩, ?_⟩)); (conv => whnf)))
    refine CallQ.ro [0] (.c (.bool tb)) (htb) (by first | rfl | exact congrArg AV.g (ints_ren _ _) | (simp [ints_ren, AV.ren, ABlk.ren, AC.ren, AE.ren, qq]; done)) rfl (by (repeat (first | exact trivial | refine ⟨⟨(by first | exact .inl (by decide) | exact .inr (by decide)), (by first | (refine Or.inl ?_; first | rfl | exact congrArg some (ints_ren _ _).symm | exact congrArg ABlk.own (ints_ren _ _).symm | exact congrArg some (tab64_ren _).symm) | rfl | exact congrArg some (ints_ren _ _).symm | exact congrArg ABlk.own (ints_ren _ _).symm | exact congrArg some (tab64_ren _).symm | exact Or.inr ⟨rfl, rfl⟩)⟩, ?_⟩))) (by first | rfl | exact congrArg AV.g (ints_ren _ _) | (simp [ints_ren, AV.ren, ABlk.ren, AC.ren, AE.ren, qq]; done)) ?_
    (conv => whnf); (repeat ((first | (refine ⟨rfl, ?_⟩) | (refine ⟨trivial, ?_⟩) | (refine Wk.yes ?_) | (refine Wk.no ?_) | (refine Wk.and ?_) | (refine ⟨by exact ⟨shr_nonneg _ _, by decide⟩, ?_⟩) | (refine ⟨by exact ⟨shr_nonneg' _ _, by decide⟩, ?_⟩)); (conv => whnf)))
    cases tb with
    | false =>
      (conv => whnf); (repeat ((first | (refine ⟨rfl, ?_⟩) | (refine ⟨trivial, ?_⟩) | (refine Wk.yes ?_) | (refine Wk.no ?_) | (refine Wk.and ?_) | (refine ⟨by exact ⟨shr_nonneg _ _, by decide⟩, ?_⟩) | (refine ⟨by exact ⟨shr_nonneg' _ _, by decide⟩, ?_⟩)); (conv => whnf)))
      exact AH.Fin.nil [] ⟨rfl, rfl, rfl⟩ (by first | exact trivial | (simp [tupA, hpLt, tmLt, AV.lt, AE.lt, AC.lt, LL_cons, LL_nil, idOk, ABlk.lt, ints_LL, GB, tab64_LL, gC, wB, giC, noneB, gst, tC, pC]; done) | (simp [tupA, hpLt, tmLt, AV.lt, AE.lt, AC.lt, LL_cons, LL_nil, idOk, ABlk.lt, ints_LL, GB, tab64_LL, gC, wB, giC, noneB, gst, tC, pC, rdn, wrn]; done)) trivial trivial rfl (by simp [GB])
    | true =>
      (conv => whnf); (repeat ((first | (refine ⟨rfl, ?_⟩) | (refine ⟨trivial, ?_⟩) | (refine Wk.yes ?_) | (refine Wk.no ?_) | (refine Wk.and ?_) | (refine ⟨by exact ⟨shr_nonneg _ _, by decide⟩, ?_⟩) | (refine ⟨by exact ⟨shr_nonneg' _ _, by decide⟩, ?_⟩)); (conv => whnf)))
      exact AH.Fin.nil [] ⟨rfl, rfl, rfl⟩ (by first | exact trivial | (simp [tupA, hpLt, tmLt, AV.lt, AE.lt, AC.lt, LL_cons, LL_nil, idOk, ABlk.lt, ints_LL, GB, tab64_LL, gC, wB, giC, noneB, gst, tC, pC]; done) | (simp [tupA, hpLt, tmLt, AV.lt, AE.lt, AC.lt, LL_cons, LL_nil, idOk, ABlk.lt, ints_LL, GB, tab64_LL, gC, wB, giC, noneB, gst, tC, pC, rdn, wrn]; done)) trivial trivial rfl (by simp [GB])
end Go.Proofs.YtfphkpdobbffeaaDoor

/-
  Contract: the reply to a cut wire, by the program.
-/
namespace Go.Proofs.YtfphkpdobbffeaaDoor
open Go Go.AH
set_option maxRecDepth 100000
set_option maxHeartbeats 1000000

def mends (g : Gm) (own cut : Nat) (i : Int) : Bool := isTreeB g (offN own cut ||| 2 ^ i.toNat) (placesN g own)
def replyO (g : Gm) (own oth cut : Nat) : Option Int := (mem oth).find? (mends g own cut)
def replyV (g : Gm) (x y : Bool) (a b : Nat) (cut : Int) : Int × Bool × Int :=
  if cut < 0 ∨ (g.ws.length : Int) ≤ cut then (0, false, 1) else if areB g x y a b = false then (0, false, 1) else if b.testBit cut.toNat = true then ((replyO g b a cut.toNat).getD 0, true, 0) else if a.testBit cut.toNat = true then ((replyO g a b cut.toNat).getD 0, true, 0) else (0, false, 0)
def replyT (q : Int × Bool × Int) : AV := .t [.c (.int .i64 q.1), .c (.bool q.2.1), .c (.int .i64 q.2.2)]
end Go.Proofs.YtfphkpdobbffeaaDoor

/-
  Plain law: the reply mends; two trees as lists.
-/
namespace Go.Proofs.YtfphkpdobbffeaaDoor
open Go Go.AH
set_option maxRecDepth 100000
set_option maxHeartbeats 1000000

theorem risTo_mono {n : Nat} {L : List Int} (hl : ∀ y ∈ L, y < n) : ∀ i, i ≤ L.length → risTo 10 L i = true → risTo n L i = true
  | 0, _, _ => rfl
  | i + 1, hi, h => by
    obtain ⟨h1, h2, _, h4⟩ := (risTo_succ 10 L i).1 h
    refine (risTo_succ n L i).2 ⟨risTo_mono hl i (by omega) h1, h2, hl _ ?_, h4⟩
    rw [List.getD_eq_getElem?_getD, List.getElem?_eq_getElem (show i < L.length by omega)]
    exact List.getElem_mem _
theorem mem_set10 : ∀ a, a < 1024 → risTo 10 (mem a) (mem a).length = true ∧ setToL (mem a) (mem a).length = a := by decide +kernel
theorem mem_set {n a : Nat} (hn : n ≤ 10) (ha : a < 2 ^ n) : setOk n (mem a) = true ∧ setV n (mem a) = a := by
  have hp : 2 ^ n ≤ 1024 := Nat.pow_le_pow_right (by omega) hn
  obtain ⟨h1, h2⟩ := mem_set10 a (by omega)
  have h3 : risTo n (mem a) (mem a).length = true := risTo_mono (fun y hy => by have := mem_lt hn ha hy; omega) _ (Nat.le_refl _) h1
  exact ⟨h3, by rw [setV, h3]; exact h2⟩
end Go.Proofs.YtfphkpdobbffeaaDoor

/-
  The law SwitchLehman, as a contract.
-/
namespace Go.Proofs.YtfphkpdobbffeaaDoor
open Go Go.AH
set_option maxRecDepth 100000
set_option maxHeartbeats 1000000

theorem Gm.game.ends {g : Gm} (h : g.game) : g.s ≠ g.t := by
  have h1 := h.1
  unfold bad0 at h1
  omega
theorem TreesL_none {g : Gm} (hg : g.game) (h : treesF g (alT g) = none) : FDet Tryd.prog 25 [.g (gC g 0)] [(0, wB g), (100002, .ro tab64), (100000, noneB)] 1 (.t [.g [.nils, .nils], .c (.bool false), .c (.int .i64 0)]) [] 1 := by
  have := Trees_spec hg
  rw [h] at this
  exact this
theorem TreesL_some {g : Gm} (hg : g.game) {a b : Nat} (h : treesF g (alT g) = some (a, b)) : FDet Tryd.prog 25 [.g (gC g 0)] [(0, wB g), (100002, .ro tab64), (100000, noneB)] 1 (.t [.g [.rs 1 0 (mem a).length, .rs 2 0 (mem b).length], .c (.bool true), .c (.int .i64 0)]) [(1, .row 3 1 (ints (mem a))), (2, .row 3 1 (ints (mem b)))] 3 := by
  have := Trees_spec hg
  rw [h] at this
  exact FDet.post this _ _ ⟨.inr ⟨⟨⟨rfl, rfl, rfl⟩, trivial⟩, ⟨⟨rfl, rfl, rfl⟩, trivial⟩, trivial⟩, rfl, rfl, trivial⟩ ⟨⟨⟨rfl, rfl⟩, .inl rfl⟩, ⟨⟨rfl, rfl⟩, .inl rfl⟩, trivial⟩ (by simp [tupA, hpLt, tmLt, AV.lt, AE.lt, AC.lt, LL_cons, LL_nil, idOk, ABlk.lt, ints_LL, GB, tab64_LL, gC, wB, giC, noneB, gst, tC, pC, gN, gR, rC, rB, treesK, treesH, treesR]) (by simp [tupA, hpLt, tmLt, AV.lt, AE.lt, AC.lt, LL_cons, LL_nil, idOk, ABlk.lt, ints_LL, GB, tab64_LL, gC, wB, giC, noneB, gst, tC, pC, gN, gR, rC, rB, treesK, treesH, treesR]) rfl
theorem nilW3 {g : Gm} (h : g.ws = []) {fn : FuncId} {args : List AV} {r : AV} {k' : Nat} (h1 : FDet Tryd.prog fn (.g (gC g 0) :: args) [(0, wB g), (100002, .ro tab64), (100000, noneB)] 1 r [] k')
    (hw : wkVs [(0, .ro []), (100002, .ro tab64), (100000, noneB)] args args) (ha : ∀ v ∈ args, v.all (· ≠ 0)) (hr : r.all (· ≠ 0)) : FDet Tryd.prog fn (.g (gN g) :: args) [(100002, .ro tab64), (100000, noneB)] 1 r [] k' := by
  rw [show wB g = .ro [] by rw [wB, h]; rfl] at h1
  refine FDet.nil0 h1 _ 100002 tab64 rfl ⟨.inr ⟨rfl, rfl, rfl, by show g.ws.length = 0; rw [h]; rfl, trivial⟩, hw⟩ ?_ ?_ hr
  · intro v hv
    rcases List.mem_cons.1 hv with rfl | hv
    · exact gN_all g _ _ (by simp)
    · exact ha v hv
  · intro p hp
    simp only [List.mem_cons, List.not_mem_nil, or_false] at hp
    rcases hp with rfl | rfl
    · exact ⟨by decide, tab_all _⟩
    · refine ⟨by decide, fun x hx => ?_⟩
      simp only [List.mem_cons, List.not_mem_nil, or_false] at hx
      rcases hx with rfl | rfl <;> trivial
theorem trees_nil {g : Gm} (hg : g.game) (h : g.ws = []) (hT : treesF g (alT g) = none) : FDet Tryd.prog 25 [.g (gN g)] [(100002, .ro tab64), (100000, noneB)] 1 (.t [.g [.nils, .nils], .c (.bool false), .c (.int .i64 0)]) [] 1 :=
  nilW3 h (TreesL_none hg hT) trivial (fun v hv => by cases hv) (by intro e he; simp at he; rcases he with rfl | rfl | rfl <;> first | trivial | (intro x hx; simp at hx; subst hx; trivial))
theorem nil_trees {g : Gm} (hg : g.ok) (h : g.ws = []) : treesF g (alT g) = none := by
  cases hT : treesF g (alT g) with
  | none => rfl
  | some p =>
    obtain ⟨a, b⟩ := p
    obtain ⟨h1, h2, h3, _⟩ := treesF_lt hg.len hT
    rw [h] at h3
    have h3 : b < 1 := h3
    omega
end Go.Proofs.YtfphkpdobbffeaaDoor

/-
  Contracts: Spanning, Barrier, IsTrees, as the laws want them.
-/
namespace Go.Proofs.YtfphkpdobbffeaaDoor
open Go Go.AH Go.Wire
set_option maxRecDepth 100000
set_option maxHeartbeats 1000000

theorem SpanL_none {g : Gm} (hg : g.game) (h : treesF g (alS g) = none) : FDet Tryd.prog 26 [.g (gC g 0)] [(0, wB g), (100002, .ro tab64), (100000, noneB)] 1 (.t [.g [.nils, .nils], .c (.bool false), .c (.int .i64 0)]) [] 1 := by
  have := Spanning_spec hg
  rw [h] at this
  exact this
theorem SpanL_some {g : Gm} (hg : g.game) {a b : Nat} (h : treesF g (alS g) = some (a, b)) : FDet Tryd.prog 26 [.g (gC g 0)] [(0, wB g), (100002, .ro tab64), (100000, noneB)] 1 (.t [.g [.rs 1 0 (mem a).length, .rs 2 0 (mem b).length], .c (.bool true), .c (.int .i64 0)]) [(1, .row 3 1 (ints (mem a))), (2, .row 3 1 (ints (mem b)))] 3 := by
  have := Spanning_spec hg
  rw [h] at this
  exact FDet.post this _ _ ⟨.inr ⟨⟨⟨rfl, rfl, rfl⟩, trivial⟩, ⟨⟨rfl, rfl, rfl⟩, trivial⟩, trivial⟩, rfl, rfl, trivial⟩ ⟨⟨⟨rfl, rfl⟩, .inl rfl⟩, ⟨⟨rfl, rfl⟩, .inl rfl⟩, trivial⟩ (by simp [tupA, hpLt, tmLt, AV.lt, AE.lt, AC.lt, LL_cons, LL_nil, idOk, ABlk.lt, ints_LL, GB, tab64_LL, gC, wB, giC, noneB, gst, tC, pC, gN, gR, rC, rB, treesK, treesH, treesR, tvC_LL]) (by simp [tupA, hpLt, tmLt, AV.lt, AE.lt, AC.lt, LL_cons, LL_nil, idOk, ABlk.lt, ints_LL, GB, tab64_LL, gC, wB, giC, noneB, gst, tC, pC, gN, gR, rC, rB, treesK, treesH, treesR, tvC_LL]) rfl
theorem IsTrees_spec {g : Gm} (hg : g.game) (L0 L1 : List Int) (h0 : L0.length ≤ 1000) (h1 : L1.length ≤ 1000) : FDet Tryd.prog 35 [.g (gC g 0), .g [.rs 1 0 L0.length, .rs 2 0 L1.length]] [(0, wB g), (1, .ro (ints L0)), (2, .ro (ints L1)), (100002, .ro tab64)] 3
    (.t [.c (.bool (areB g (setOk g.ws.length L0) (setOk g.ws.length L1) (setV g.ws.length L0) (setV g.ws.length L1))), .c (.int .i64 0)]) [] 3 := by
  have ha := areTrees_spec hg.ok L0 L1 h0 h1
  generalize areB g (setOk g.ws.length L0) (setOk g.ws.length L1) (setV g.ws.length L0) (setV g.ws.length L1) = B at *
  generalize setV g.ws.length L0 = v0 at *
  generalize setV g.ws.length L1 = v1 at *
  refine FSpec.of_body tok true Tryd.func35 rfl (by kernel_rfl) (by decide) (by simp [tupA, hpLt, tmLt, AV.lt, AE.lt, AC.lt, LL_cons, LL_nil, idOk, ABlk.lt, ints_LL, GB, tab64_LL, gC, wB, giC, noneB, gst, tC, pC, gN, gR, rC, rB, treesK, treesH, treesR, tvC_LL]) (by simp [tupA, hpLt, tmLt, AV.lt, AE.lt, AC.lt, LL_cons, LL_nil, idOk, ABlk.lt, ints_LL, GB, tab64_LL, gC, wB, giC, noneB, gst, tC, pC, gN, gR, rC, rB, treesK, treesH, treesR, tvC_LL]) (by show 2 ≤ _; decide) ?_
  refine Wk.on ?_
  refine CallA.ro [0] (.c (.int .i64 0)) (check_ok hg) (by first | rfl | exact congrArg AV.g (ints_ren _ _) | (simp [ints_ren, AV.ren, ABlk.ren, AC.ren, AE.ren, tvC_ren, qq]; done)) rfl (by (repeat (first | exact trivial | refine ⟨⟨(by first | exact .inl (by decide) | exact .inr (by decide)), (by first | (refine Or.inl ?_; first | rfl | exact congrArg some (ints_ren _ _).symm | exact congrArg ABlk.own (ints_ren _ _).symm | exact congrArg some (tab64_ren _).symm) | rfl | exact congrArg some (ints_ren _ _).symm | exact congrArg ABlk.own (ints_ren _ _).symm | exact congrArg some (tab64_ren _).symm | exact Or.inr ⟨rfl, rfl⟩)⟩, ?_⟩))) (by first | rfl | exact congrArg AV.g (ints_ren _ _) | (simp [ints_ren, AV.ren, ABlk.ren, AC.ren, AE.ren, tvC_ren, qq]; done)) ?_
  refine Wk.on ?_
  refine CallA.ro [0, 1, 2] (.t [.g [.int .i64 v0, .int .i64 v1], .c (.bool B)]) (ha) (by first | rfl | exact congrArg AV.g (ints_ren _ _) | (simp [ints_ren, AV.ren, ABlk.ren, AC.ren, AE.ren, tvC_ren, qq]; done)) rfl (by (repeat (first | exact trivial | refine ⟨⟨(by first | exact .inl (by decide) | exact .inr (by decide)), (by first | (refine Or.inl ?_; first | rfl | exact congrArg some (ints_ren _ _).symm | exact congrArg ABlk.own (ints_ren _ _).symm | exact congrArg some (tab64_ren _).symm) | rfl | exact congrArg some (ints_ren _ _).symm | exact congrArg ABlk.own (ints_ren _ _).symm | exact congrArg some (tab64_ren _).symm | exact Or.inr ⟨rfl, rfl⟩)⟩, ?_⟩))) (by first | rfl | exact congrArg AV.g (ints_ren _ _) | (simp [ints_ren, AV.ren, ABlk.ren, AC.ren, AE.ren, tvC_ren, qq]; done)) ?_
  refine Wk.on ?_
  exact AH.Fin.nil [] ⟨rfl, rfl, rfl⟩ (by first | exact trivial | (simp [tupA, hpLt, tmLt, AV.lt, AE.lt, AC.lt, LL_cons, LL_nil, idOk, ABlk.lt, ints_LL, GB, tab64_LL, gC, wB, giC, noneB, gst, tC, pC, gN, gR, rC, rB, treesK, treesH, treesR, tvC_LL]; done) | (simp [tupA, hpLt, tmLt, AV.lt, AE.lt, AC.lt, LL_cons, LL_nil, idOk, ABlk.lt, ints_LL, GB, tab64_LL, gC, wB, giC, noneB, gst, tC, pC, gN, gR, rC, rB, treesK, treesH, treesR, tvC_LL, rdn, wrn]; done)) trivial trivial rfl (by simp [GB])
theorem Barrier_yes {g : Gm} (hg : g.game) (h : treesF g (alS g) = none) : FSpec Tryd.prog 27 [.g (gC g 0)] [(0, wB g)] 1 fun r hq k' => ∃ v : Nat → Nat, (RG v g.n ∧ Bar g v) ∧ r = .t [.c (.rs 1 0 (LV v g.n).length), .c (.bool true), .c (.int .i64 0)] ∧ hq = [(1, .own (tvC (LV v g.n)))] ∧ k' = 2 := by
  refine FSpec.post (Barrier_any hg) ?_
  rintro r hq k' ⟨⟨b, v⟩, hI, rfl, rfl, rfl⟩
  cases b
  · exfalso
    rcases bar_or hg.ok with h1 | ⟨u, h1, h2⟩
    · exact h1 h
    · exact hI.2 rfl u h1 h2
  · obtain ⟨h1, h2⟩ := hI.1 rfl
    exact ⟨.t [.c (.rs 1 0 (LV v g.n).length), .c (.bool true), .c (.int .i64 0)], [(1, .own (tvC (LV v g.n)))], ⟨v, ⟨h1, h2⟩, rfl, rfl, rfl⟩, ⟨⟨rfl, rfl, (LV_len v g.n).symm⟩, rfl, rfl, trivial⟩, ⟨.inl rfl, trivial⟩, (by simp [tupA, hpLt, tmLt, AV.lt, AE.lt, AC.lt, LL_cons, LL_nil, idOk, ABlk.lt, ints_LL, GB, tab64_LL, gC, wB, giC, noneB, gst, tC, pC, gN, gR, rC, rB, treesK, treesH, treesR, tvC_LL]), (by simp [tupA, hpLt, tmLt, AV.lt, AE.lt, AC.lt, LL_cons, LL_nil, idOk, ABlk.lt, ints_LL, GB, tab64_LL, gC, wB, giC, noneB, gst, tC, pC, gN, gR, rC, rB, treesK, treesH, treesR, tvC_LL]), by simp⟩
theorem Barrier_no {g : Gm} (hg : g.game) (h : treesF g (alS g) ≠ none) : FDet Tryd.prog 27 [.g (gC g 0)] [(0, wB g)] 1 (.t [.c .nils, .c (.bool false), .c (.int .i64 0)]) [] 2 := by
  refine FSpec.imp (Barrier_any hg) ?_
  rintro r hq k' ⟨⟨b, v⟩, hI, rfl, rfl, rfl⟩
  cases b
  · exact ⟨rfl, rfl, rfl⟩
  · obtain ⟨h1, h2⟩ := hI.1 rfl
    exact absurd (bar_not hg.ok h1 h2) h
/-! What two trees on all places are. -/
structure Spn (g : Gm) (a b : Nat) : Prop where
  la : a < 2 ^ g.ws.length
  lb : b < 2 ^ g.ws.length
  ne : a ≠ b
  ta : isTreeB g a (2 ^ g.n - 1) = true
  tb : isTreeB g b (2 ^ g.n - 1) = true
  pa : placesN g a = 2 ^ g.n - 1
  dj : a &&& b = 0
  a0 : a ≠ 0
  lt : a < b
theorem spn {g : Gm} (hg : g.ok) {a b : Nat} (h : treesF g (alS g) = some (a, b)) : Spn g a b := by
  obtain ⟨h1, h2, h3, h4, h5, h6, h7⟩ := treesF_lt hg.len h
  rw [alS, decide_eq_true_eq] at h4
  rw [h4] at h5 h7
  exact ⟨by omega, h3, by omega, h5, h7, h4, h6, by omega, h2⟩
theorem Spn.ends {g : Gm} (hg : g.ok) {a b : Nat} (h : Spn g a b) : alT g (placesN g a) = true := by
  rw [alT, decide_eq_true_eq, endsN, ends_iff, h.pa, Nat.testBit_two_pow_sub_one, Nat.testBit_two_pow_sub_one]
  exact ⟨decide_eq_true hg.s, decide_eq_true hg.t⟩
theorem Spn.trees {g : Gm} (hg : g.ok) {a b : Nat} (h : Spn g a b) : treesF g (alT g) ≠ none := fun hn => by
  have h1 := firstFrom_none hn a (Nat.zero_le _) (by have := h.la; omega)
  rw [okA, if_neg (by rw [h.ends hg, h.pa, h.ta]; simp [h.a0])] at h1
  have h3 := firstFrom_none h1 b h.lt (by have := h.lb; omega)
  rw [okB, if_pos ⟨h.dj, by rw [h.pa]; exact h.tb⟩] at h3
  cases h3
theorem Spn.are {g : Gm} (hg : g.ok) {a b : Nat} (h : Spn g a b) : areB g (setOk g.ws.length (mem a)) (setOk g.ws.length (mem b)) (setV g.ws.length (mem a)) (setV g.ws.length (mem b)) = true := by
  obtain ⟨a1, a2⟩ := mem_set hg.len h.la
  obtain ⟨b1, b2⟩ := mem_set hg.len h.lb
  have he := h.ends hg
  rw [alT, decide_eq_true_eq] at he
  rw [a1, a2, b1, b2, areB, decide_eq_true h.dj, decide_eq_true he, h.pa, h.ta, h.tb]
  rfl
theorem Spn.len {g : Gm} (hg : g.ok) {a b : Nat} (h : Spn g a b) : (mem a).length + 1 = g.n := by
  have := ((tree_full hg h.la).1 h.ta).2
  rw [← this]
  simp [mem]
theorem Spn.count {g : Gm} (hg : g.ok) {a b : Nat} (h : Spn g a b) : 2 ≤ cntT g (2 ^ g.ws.length) := by
  unfold cntT
  have h1 := cnt_rm (fun c => isTreeB g c (2 ^ g.n - 1)) a h.ta (2 ^ g.ws.length)
  rw [if_pos h.la] at h1
  have h2 : 0 < (List.range (2 ^ g.ws.length)).countP fun u => isTreeB g u (2 ^ g.n - 1) && decide (u ≠ a) := List.countP_pos_iff.2 ⟨b, List.mem_range.2 h.lb, by rw [h.tb]; simp; exact fun k => h.ne k.symm⟩
  omega
theorem nil_spans {g : Gm} (hg : g.ok) (h : g.ws = []) : treesF g (alS g) = none := by
  cases hT : treesF g (alS g) with
  | none => rfl
  | some p =>
    obtain ⟨a, b⟩ := p
    have h1 := spn hg hT
    have h3 := h1.lb
    have h4 := h1.lt
    rw [h] at h3
    have h3 : b < 1 := h3
    omega
end Go.Proofs.YtfphkpdobbffeaaDoor
