/-
  Contract: the wires between the parts of a division.
-/
import Derived.Test.YtfphkpdobbffeaaDoorSw2
import Derived.Test.YtfphkpdobbffeaaDoorAh6
import Derived.Test.YtfphkpdobbffeaaDoorSw5
set_option linter.unusedSimpArgs false
set_option linter.unusedVariables false
namespace Go.Proofs.YtfphkpdobbffeaaDoor
open Go Go.AH
set_option maxRecDepth 100000
set_option maxHeartbeats 1000000

def wL (w : Nat → Nat) : List Int := (List.range 8).map fun i => (w i : Int)
theorem wL_len (w : Nat → Nat) : (wL w).length = 8 := by simp [wL]
theorem wL_get (w : Nat → Nat) {i : Nat} (h : i < 8) : (ints (wL w)).getD i (.int .i64 0) = .int .i64 (w i : Nat) := by
  rw [ints_getD]; simp [wL, h, List.getElem?_range]
theorem wL_get2 (w : Nat → Nat) {i : Nat} (h : i < 8) : (ints (wL w)).getD (0 + i * 1) (.int .i64 0) = .int .i64 (w i : Nat) := by
  rw [Nat.zero_add, Nat.mul_one, wL_get w h]
def updW (w : Nat → Nat) (i k : Nat) : Nat → Nat := fun j => if j = i then k else w j
theorem wL_set (w : Nat → Nat) {i : Nat} (k : Nat) (h : i < 8) : (ints (wL w)).set i (.int .i64 (k : Nat)) = ints (wL (updW w i k)) := by
  apply List.ext_getElem?
  intro j
  rw [List.getElem?_set]
  by_cases hj : j < 8
  · by_cases e : i = j
    · subst e; simp [ints, wL, updW, h]
    · have e2 : ¬ j = i := fun x => e x.symm
      simp [ints, wL, updW, hj, e, e2]
  · simp [ints, wL, hj]; omega
def crN (w : Nat → Nat) (ws : List (Nat × Nat)) : Nat := ws.countP fun p => decide (w p.1 ≠ w p.2)
theorem crN_succ (w : Nat → Nat) (ws : List (Nat × Nat)) {i : Nat} (h : i < ws.length) : crN w (ws.take (i + 1)) = crN w (ws.take i) + if w (ws.getD i (0, 0)).1 ≠ w (ws.getD i (0, 0)).2 then 1 else 0 := by
  unfold crN
  rw [List.take_add_one, List.getElem?_eq_getElem h, Option.toList_some, List.countP_append, List.countP_singleton]
  simp [h]
theorem between_spec {g : Gm} (hg : g.ok) (w : Nat → Nat) : FDet Tryd.prog 67 [.g (gC g 0), .g (ints (wL w))] [(0, wB g)] 1 (.c (.int .i64 (crN w g.ws : Nat))) [] 1 := by
  have h8 := hg.n8
  have hl := hg.len
  have hW8 := wL_len w
  refine FSpec.of_body tok true Tryd.func67 rfl (by kernel_rfl) (by decide) (by simp [tupA, hpLt, tmLt, AV.lt, AE.lt, AC.lt, LL_cons, LL_nil, idOk, ABlk.lt, ints_LL, GB, tab64_LL, gC, wB, giC, noneB]) (by simp [tupA, hpLt, tmLt, AV.lt, AE.lt, AC.lt, LL_cons, LL_nil, idOk, ABlk.lt, ints_LL, GB, tab64_LL, gC, wB, giC, noneB]) (by show 2 ≤ _; decide) ?_
  refine Wk.on ?_
  refine Tr.loop (md := true) (X := Nat) (st := fun i => ⟨[(2, .c (.ptr 1 0)), (3, .c (.ptr 2 0)), (4, .c (.int .i64 0)), (5, .c (.int .i64 (crN w (g.ws.take i) : Nat))), (9, .c (.rs 0 0 g.ws.length)), (10, .c (.int .i64 g.ws.length)), (11, .c (.int .i64 i))], [(2, .own (ints (wL w))), (1, .own (gC g 0)), (0, wB g)], 3, 28, 1⟩) (inv := fun i => i ≤ g.ws.length) (μ := fun i => g.ws.length - i) (x0 := 0) (l := []) tok (by omega) ?_ ?_
  · exact Sub.nil ⟨rfl, rfl, (by simp [tab64_LL, gC, wB, giC, noneB]), rfl, (by simp [tupA, hpLt, tmLt, AV.lt, AE.lt, AC.lt, LL_cons, LL_nil, idOk, ABlk.lt, ints_LL, GB, tab64_LL, gC, wB, giC, noneB]), (by simp [tupA, hpLt, tmLt, AV.lt, AE.lt, AC.lt, LL_cons, LL_nil, idOk, ABlk.lt, ints_LL, GB, tab64_LL, gC, wB, giC, noneB])⟩ ⟨rfl, rfl, rfl, rfl, rfl, rfl, rfl, trivial⟩ (by (repeat (first | exact trivial | refine ⟨trivial, ?_⟩ | refine ⟨rfl, ?_⟩)))
  · intro i hi
    have hcl : crN w (g.ws.take i) ≤ 10 := Nat.le_trans List.countP_le_length (by rw [List.length_take]; omega)
    by_cases hlt : i < g.ws.length
    · have hs := crN_succ w g.ws hlt
      have he := hg.ends i hlt
      have hW8i : (ints (wL w)).length = 8 := by rw [ints_len, hW8]
      obtain ⟨a, ha⟩ : ∃ a, a = (g.ws.getD i (0, 0)).1 := ⟨_, rfl⟩
      obtain ⟨b, hb⟩ : ∃ b, b = (g.ws.getD i (0, 0)).2 := ⟨_, rfl⟩
      rw [← ha, ← hb] at he hs
      have hlen : 0 + i * 2 + 2 ≤ (ints (fl g.ws)).length := by
        rw [ints_len, fl_len]; omega
      refine Wk.on ?_
      rw [decide_eq_true (show ((i : Nat) : Int) < ((g.ws.length : Nat) : Int) by omega)]
      refine Wk.on ?_
      refine ⟨⟨by rw [Int.toNat_natCast]; exact hlen, rfl⟩, ?_⟩
      refine Wk.on ?_
      simp only [Int.toNat_natCast]
      rw [wgetW g.ws i, ← ha, ← hb]
      refine Tr.draw (md := true) [⟨[], [19, 20, 21, 22], [], [], []⟩, ⟨[0], [19, 20, 21, 22], [], [], []⟩, ⟨[0, 1], [19, 20, 21, 22], [], [], []⟩, ⟨[0, 1, 2], [19, 20, 21, 22], [], [], []⟩, ⟨[], [15, 16, 17, 18], [0, 1, 2, 3], [], []⟩, ⟨[4], [15, 16, 17, 18], [0, 1, 2, 3], [], []⟩, ⟨[4, 5], [15, 16, 17, 18], [0, 1, 2, 3], [], []⟩, ⟨[4, 5, 6], [15, 16, 17, 18], [0, 1, 2, 3], [], []⟩] tok (by kernel_rfl) (by kernel_rfl) ?_
      refine Wk.on ?_
      rw [Int.toNat_natCast, Int.toNat_natCast, wL_get2 w (show a < 8 by omega), wL_get2 w (show b < 8 by omega)]
      refine Wk.on ?_
      refine ⟨fun hc => ?_, fun hc => ?_⟩ <;> (try simp only [decide_eq_true_eq, decide_eq_false_iff_not, Decidable.not_not, Bool.not_true, Bool.not_false, ne_eq, cond_true, cond_false, Bool.not_eq_true', Bool.not_eq_false'] at hc)
      · rw [if_pos (show w a ≠ w b by omega)] at hs
        refine Wk.on ?_
        refine Again.mk (i + 1) (Sub.nil ⟨rfl, rfl, (by simp [tab64_LL, gC, wB, giC, noneB]), rfl, (by simp [tupA, hpLt, tmLt, AV.lt, AE.lt, AC.lt, LL_cons, LL_nil, idOk, ABlk.lt, ints_LL, GB, tab64_LL, gC, wB, giC, noneB]), (by simp [tupA, hpLt, tmLt, AV.lt, AE.lt, AC.lt, LL_cons, LL_nil, idOk, ABlk.lt, ints_LL, GB, tab64_LL, gC, wB, giC, noneB])⟩ ⟨rfl, rfl, rfl, by rw [hs]; rfl, rfl, rfl, rfl, trivial⟩ (by (repeat (first | exact trivial | refine ⟨trivial, ?_⟩ | refine ⟨rfl, ?_⟩)))) (by omega) (by omega)
      · rw [if_neg (show ¬ (w a ≠ w b) by omega)] at hs
        refine Wk.on ?_
        refine Again.mk (i + 1) (Sub.nil ⟨rfl, rfl, (by simp [tab64_LL, gC, wB, giC, noneB]), rfl, (by simp [tupA, hpLt, tmLt, AV.lt, AE.lt, AC.lt, LL_cons, LL_nil, idOk, ABlk.lt, ints_LL, GB, tab64_LL, gC, wB, giC, noneB]), (by simp [tupA, hpLt, tmLt, AV.lt, AE.lt, AC.lt, LL_cons, LL_nil, idOk, ABlk.lt, ints_LL, GB, tab64_LL, gC, wB, giC, noneB])⟩ ⟨rfl, rfl, rfl, by rw [hs]; rfl, rfl, rfl, rfl, trivial⟩ (by (repeat (first | exact trivial | refine ⟨trivial, ?_⟩ | refine ⟨rfl, ?_⟩)))) (by omega) (by omega)
    · have e : i = g.ws.length := by omega
      subst e
      refine Wk.on ?_
      rw [decide_eq_false (show ¬ (((g.ws.length : Nat) : Int) < ((g.ws.length : Nat) : Int)) by omega)]
      refine Wk.on ?_
      intro _
      refine Wk.on ?_
      rw [List.take_length]
      exact AH.Fin.nil [] ⟨rfl, rfl, rfl⟩ (by first | exact trivial | (simp [tupA, hpLt, tmLt, AV.lt, AE.lt, AC.lt, LL_cons, LL_nil, idOk, ABlk.lt, ints_LL, GB, tab64_LL, gC, wB, giC, noneB]; done) | (simp [tupA, hpLt, tmLt, AV.lt, AE.lt, AC.lt, LL_cons, LL_nil, idOk, ABlk.lt, ints_LL, GB, tab64_LL, gC, wB, giC, noneB, rdn, wrn]; done)) trivial trivial rfl (by simp [GB])
end Go.Proofs.YtfphkpdobbffeaaDoor

/-
  Plain: divisions of places, and the lists of their parts.
-/
namespace Go.Proofs.YtfphkpdobbffeaaDoor
open Go Go.AH

def mx (w : Nat → Nat) : Nat → Nat
  | 0 => 0
  | i + 1 => max (mx w i) (w i + 1)
def RG (w : Nat → Nat) (n : Nat) : Prop := ∀ j, j < n → w j ≤ mx w j
theorem mx_le {w : Nat → Nat} {n : Nat} (h : RG w n) : ∀ i, i ≤ n → mx w i ≤ i
  | 0, _ => Nat.le_refl 0
  | i + 1, hi => by
    have h1 := mx_le h i (by omega)
    have h2 := h i (by omega)
    simp only [mx]; omega
theorem mx_mono {w : Nat → Nat} {i : Nat} : ∀ j, i ≤ j → mx w i ≤ mx w j
  | 0, h => by rw [show i = 0 by omega]; exact Nat.le_refl _
  | j + 1, h => by
    rcases Nat.lt_or_ge i (j + 1) with h2 | h2
    · have := mx_mono (w := w) (i := i) j (by omega)
      simp only [mx]; omega
    · rw [show i = j + 1 by omega]; exact Nat.le_refl _
theorem mx_lt {w : Nat → Nat} {i n : Nat} (h : i < n) : w i < mx w n := by
  have h1 : w i < mx w (i + 1) := by simp only [mx]; omega
  exact Nat.lt_of_lt_of_le h1 (mx_mono n h)
theorem mx_congr {w v : Nat → Nat} : ∀ {n : Nat}, (∀ j, j < n → w j = v j) → mx w n = mx v n
  | 0, _ => rfl
  | n + 1, h => by simp only [mx]; rw [mx_congr fun j hj => h j (by omega), h n (by omega)]
theorem mx_hit {w : Nat → Nat} {x : Nat} : ∀ {n : Nat}, RG w n → x < mx w n → ∃ u, u < n ∧ w u = x
  | 0, _, h => by simp [mx] at h
  | n + 1, h, hx => by
    by_cases hn : x < mx w n
    · obtain ⟨u, h1, h2⟩ := mx_hit (n := n) (fun j hj => h j (by omega)) hn
      exact ⟨u, by omega, h2⟩
    · have := h n (by omega)
      simp only [mx] at hx
      exact ⟨n, by omega, by omega⟩
def lsW (w : Nat → Nat) (p j : Nat) : List Int := ((List.range p).filter fun i => decide (w i = j)).map Int.ofNat
theorem lsW_succ (w : Nat → Nat) (p j : Nat) : lsW w (p + 1) j = lsW w p j ++ if w p = j then [(p : Int)] else [] := by
  unfold lsW
  rw [List.range_succ, List.filter_append, List.map_append]
  congr 1
  by_cases h : w p = j <;> simp [h]
theorem lsW_len (w : Nat → Nat) (p j : Nat) : (lsW w p j).length ≤ p := by
  unfold lsW
  rw [List.length_map]
  exact Nat.le_trans (List.length_filter_le _ _) (by rw [List.length_range]; exact Nat.le_refl _)
theorem lsW_none (w : Nat → Nat) {p j : Nat} (h : mx w p ≤ j) : lsW w p j = [] := by
  unfold lsW
  rw [List.map_eq_nil_iff, List.filter_eq_nil_iff]
  intro i hi
  have := mx_lt (w := w) (List.mem_range.1 hi)
  simp; omega
def LV (w : Nat → Nat) (p : Nat) : List (List Int) := (List.range (mx w p)).map (lsW w p)
theorem LV_len (w : Nat → Nat) (p : Nat) : (LV w p).length = mx w p := by simp [LV]
theorem LV_mem {w : Nat → Nat} {p : Nat} {a : List Int} (h : a ∈ LV w p) : a.length ≤ p := by
  obtain ⟨j, _, rfl⟩ := List.mem_map.1 h
  exact lsW_len w p j
def putV : List (List Int) → Nat → Int → List (List Int)
  | [], _, x => [[x]]
  | a :: V, 0, x => (a ++ [x]) :: V
  | a :: V, l + 1, x => a :: putV V l x
theorem putV_len : ∀ (V : List (List Int)) (l : Nat) (x : Int), l ≤ V.length → (putV V l x).length = max V.length (l + 1)
  | [], l, x, h => by simp at h; simp [putV, h]
  | a :: V, 0, x, h => by simp [putV]
  | a :: V, l + 1, x, h => by
    simp only [putV, List.length_cons]
    rw [putV_len V l x (by simpa using h)]; omega
theorem putV_get : ∀ (V : List (List Int)) (l : Nat) (x : Int) (j : Nat), l ≤ V.length → j < max V.length (l + 1) → (putV V l x).getD j [] = V.getD j [] ++ if l = j then [x] else []
  | [], l, x, j, h, hj => by
    simp at h; subst h
    simp at hj; subst hj
    simp [putV]
  | a :: V, 0, x, j, h, hj => by
    cases j with
    | zero => simp [putV]
    | succ j => simp [putV]
  | a :: V, l + 1, x, j, h, hj => by
    cases j with
    | zero => simp [putV]
    | succ j =>
      have := putV_get V l x j (by simpa using h) (by simp at hj ⊢; omega)
      simpa [putV] using this
theorem LV_get {w : Nat → Nat} {p : Nat} (j : Nat) : (LV w p).getD j [] = lsW w p j := by
  by_cases h : j < mx w p
  · simp [LV, h]
  · rw [lsW_none w (by omega)]
    simp [LV, h]
theorem LV_succ {w : Nat → Nat} {p : Nat} (h : w p ≤ mx w p) : LV w (p + 1) = putV (LV w p) (w p) p := by
  have hl : w p ≤ (LV w p).length := by rw [LV_len]; exact h
  apply List.ext_getElem?
  intro j
  by_cases hj : j < mx w (p + 1)
  · have h1 := putV_get (LV w p) (w p) p j hl (by rw [LV_len]; exact hj)
    have h2 := LV_get (w := w) (p := p + 1) j
    rw [LV_get, ← lsW_succ] at h1
    have e1 : j < (LV w (p + 1)).length := by rw [LV_len]; exact hj
    have e2 : j < (putV (LV w p) (w p) p).length := by rw [putV_len _ _ _ hl, LV_len]; exact hj
    rw [List.getElem?_eq_getElem e1, List.getElem?_eq_getElem e2]
    rw [List.getD_eq_getElem?_getD, List.getElem?_eq_getElem e1] at h2
    rw [List.getD_eq_getElem?_getD, List.getElem?_eq_getElem e2] at h1
    simp only [Option.getD_some] at h1 h2
    rw [h1, h2]
  · have e1 : (LV w (p + 1)).length ≤ j := by rw [LV_len]; omega
    have e2 : (putV (LV w p) (w p) p).length ≤ j := by rw [putV_len _ _ _ hl, LV_len]; simp only [mx] at hj; omega
    rw [List.getElem?_eq_none e1, List.getElem?_eq_none e2]
def Bar (g : Gm) (w : Nat → Nat) : Prop := 2 ≤ mx w g.n ∧ crN w g.ws < 2 * (mx w g.n - 1)
instance (g : Gm) (w : Nat → Nat) : Decidable (Bar g w) := by unfold Bar; exact inferInstance
end Go.Proofs.YtfphkpdobbffeaaDoor

/-
  Contract: the lists of a division, made.
-/
namespace Go.Proofs.YtfphkpdobbffeaaDoor
open Go Go.AH
set_option maxRecDepth 100000
set_option maxHeartbeats 4000000

def rwC : Nat → List (List Int) → List AC
  | _, [] => []
  | j, a :: V => .row (6 + j) a.length :: rwC (j + 1) V
def rwH : Nat → List (List Int) → List (Nat × ABlk)
  | _, [] => []
  | j, a :: V => (6 + j, .row 3 1 (ints a)) :: rwH (j + 1) V
def dpl (ws hd : List Nat) : List PE := [⟨[], [39, 40, 41, 42, 43, 44, 45, 46], [], [], hd⟩, ⟨[], [38, 40, 41, 42, 43, 44, 45, 46], [0], [], hd⟩, ⟨[], [38, 39, 41, 44, 45], [0, 1], [], []⟩, ⟨[], [38, 39, 40, 44, 45], [0, 1, 2], [], []⟩, ⟨[2, 3], [38, 39, 44, 45], [0, 1], [], []⟩, ⟨[2, 3, 4], [38, 39, 44, 45], [0, 1], [], []⟩, ⟨[], [38, 39, 40, 41, 42, 43], [0, 1, 2, 3, 4, 5], [], []⟩, ⟨[6], [38, 39, 40, 41, 42, 43], [0, 1, 2, 3, 4, 5], [], []⟩, ⟨[2, 3, 4, 5, 6, 7], [38, 39], [0, 1], ws, []⟩]
theorem rep_nils : ∀ M : Nat, rep M [AC.nils] = List.replicate M .nils
  | 0 => rfl
  | M + 1 => by rw [List.replicate_succ, ← rep_nils M]; rfl
theorem wk_tail (hp : List (Nat × ABlk)) (f : Nat → Nat) : ∀ q : Nat, wkL hp (List.replicate q .nils) ((List.replicate q .nils).map (AC.ren f))
  | 0 => trivial
  | q + 1 => ⟨rfl, wk_tail hp f q⟩
theorem app_in (a : List Int) (p : Int) : (ints a).take (0 * 1 + a.length * 1) ++ [.int .i64 p] ++ (ints a).drop (0 * 1 + a.length * 1 + 1 * 1) = ints (a ++ [p]) := by
  have h : (ints a).length = a.length := ints_len a
  rw [Nat.zero_mul, Nat.zero_add, Nat.mul_one, List.take_of_length_le (by omega), List.drop_of_length_le (by omega), List.append_nil]
  simp [ints]
theorem app_new (a : List Int) (p : Int) : ((ints a).drop (0 * 1)).take (a.length * 1) ++ [.int .i64 p] = ints (a ++ [p]) := by
  have h : (ints a).length = a.length := ints_len a
  rw [Nat.zero_mul, Nat.mul_one, List.drop_zero, List.take_of_length_le (by omega)]
  simp [ints]
theorem row_len (i : Nat) (a : List Int) (p : Int) : AC.row i (a.length + 1) = .row i (a ++ [p]).length := by rw [List.length_append]; rfl
theorem nils_LL (n : Nat) : ∀ q : Nat, LL n (List.replicate q .nils) ↔ True
  | 0 => by simp [LL_nil]
  | q + 1 => by rw [List.replicate_succ, LL_cons, nils_LL n q]; exact ⟨fun _ => trivial, fun _ => ⟨trivial, trivial⟩⟩
def putB (g : Gm) (w : Nat → Nat) : List (Nat × ABlk) := [(0, wB g), (1, .ro (gC g 0)), (2, .own (ints (wL w))), (3, .own [.nils]), (4, .ro [.fn 66 [] [1, 2, 3, 4]])]
def putS (g : Gm) (w : Nat → Nat) (M : Nat) (x : Nat × Nat × List (List Int)) : AS :=
  ⟨[(2, .c (.ptr 1 0)), (3, .c (.ptr 2 0)), (4, .c (.ptr 3 0)), (31, .c (.sl 2 0 g.n (some 8))), (32, .c (.int .i64 g.n)), (33, .c (.int .i64 x.1))], (5, .own (rwC 0 x.2.2 ++ List.replicate x.2.1 .nils)) :: (3, .own [.sl 5 0 M (some M)]) :: (2, .own (ints (wL w))) :: (1, .ro (gC g 0)) :: (0, wB g) :: (4, .ro [.fn 66 [] [1, 2, 3, 4]]) :: rwH 0 x.2.2, 6 + x.2.2.length, 66, 5⟩
theorem rwH_lt (n : Nat) : ∀ (V : List (List Int)) (j : Nat), 6 + j + V.length ≤ n → hpLt n (rwH j V)
  | [], _, _ => trivial
  | a :: V, j, h => ⟨.inl (by simp only [List.length_cons] at h; omega), ints_LL _ _, rwH_lt n V (j + 1) (by simp only [List.length_cons] at h; omega)⟩
theorem rwC_LL (n q : Nat) : ∀ (V : List (List Int)) (j : Nat), 6 + j + V.length ≤ n → LL n (rwC j V ++ List.replicate q .nils)
  | [], _, _ => (nils_LL n q).2 trivial
  | a :: V, j, h => by
    rw [rwC, List.cons_append, LL_cons]
    exact ⟨.inl (by simp only [List.length_cons] at h; omega), rwC_LL n q V (j + 1) (by simp only [List.length_cons] at h; omega)⟩
theorem rwH_key (l : List (Nat × Nat)) : ∀ (V : List (List Int)) (j : Nat), (rwH j V).map (fun p => rn l p.1) = (List.range' (6 + j) V.length).map (rn l)
  | [], _ => rfl
  | a :: V, j => by rw [rwH, List.map_cons, List.length_cons, List.range'_succ, List.map_cons, rwH_key l V (j + 1)]; rfl
theorem pag {g : Gm} {w : Nat → Nat} {M pos q : Nat} {V : List (List Int)} {s : AS} {inv : Nat × Nat × List (List Int) → Prop} (l : List (Nat × Nat)) (hi : inv (pos + 1, q, V)) (hp : pos < g.n)
    (h5 : wkHA s.hp (rn l) [(5, .own (rwC 0 V ++ List.replicate q .nils))]) (hr : wkHA s.hp (rn l) (rwH 0 V)) (hk : 6 + V.length ≤ 14)
    (hn : nodB ([5, 3, 2, 1, 0, 4].map (rn l) ++ (List.range' 6 V.length).map (rn l)) = true := by rfl)
    (hs : s.nt = 66 ∧ s.k0 = 5 := by exact ⟨rfl, rfl⟩) (hf : (l.all fun p => Nat.ble s.k0 p.1 && Nat.blt p.1 GB) = true := by rfl)
    (ht : wkTA s.hp s.tm (rn l) (putS g w M (pos + 1, q, V)).tm := by exact ⟨Or.inl rfl, Or.inl rfl, Or.inl rfl, Or.inl rfl, Or.inl rfl, Or.inl rfl, trivial⟩)
    (hc : wkHA s.hp (rn l) [(3, .own [.sl 5 0 M (some M)]), (2, .own (ints (wL w))), (1, .ro (gC g 0)), (0, wB g), (4, .ro [.fn 66 [] [1, 2, 3, 4]])] := by exact ⟨Or.inl rfl, Or.inl (congrArg ABlk.own (ints_ren _ _).symm), Or.inl rfl, Or.inl (congrArg ABlk.ro (ints_ren _ _).symm), Or.inl rfl, trivial⟩) :
    Again (putS g w M) inv (fun x => g.n - x.1) (g.n - pos) s := by
  refine Again.under (pos + 1, q, V) (Under.wk l ⟨hs.1.symm, hs.2.symm, by show 5 ≤ 6 + V.length; omega, by show 6 + V.length ≤ 100000; omega⟩ hf ht ⟨h5.1, hc.1, hc.2.1, hc.2.2.1, hc.2.2.2.1, hc.2.2.2.2.1, hr⟩ ?_ ?_ ?_) hi (by show g.n - (pos + 1) < g.n - pos; omega)
  · have := rwH_key l V 0
    show nodB (_ :: _ :: _ :: _ :: _ :: _ :: (rwH 0 V).map (fun p => rn l p.1)) = true
    rw [this]; exact hn
  · exact ⟨.inl (by show 1 < 6 + V.length; omega), .inl (by show 2 < 6 + V.length; omega), .inl (by show 3 < 6 + V.length; omega), .inl (by show 2 < 6 + V.length; omega), trivial, trivial, trivial⟩
  · exact ⟨.inl (by show 5 < 6 + V.length; omega), rwC_LL _ q V 0 (by show 6 + 0 + V.length ≤ 6 + V.length; omega), .inl (by show 3 < 6 + V.length; omega), by simp [ABlk.lt, LL_cons, LL_nil, AC.lt, idOk, putS]; omega, .inl (by show 2 < 6 + V.length; omega), ints_LL _ _, .inl (by show 1 < 6 + V.length; omega), by simp [ABlk.lt, gC, LL_cons, LL_nil, AC.lt, idOk, putS]; exact .inl (by omega), .inl (by show 0 < 6 + V.length; omega), ints_LL _ _, .inl (by show 4 < 6 + V.length; omega), by simp [ABlk.lt, LL_cons, LL_nil, AC.lt, idOk, putS]; omega, rwH_lt _ V 0 (by show 6 + 0 + V.length ≤ 6 + V.length; omega)⟩
theorem ru {hp : List (Nat × ABlk)} {q : Nat → Nat} {a : List Int} : wkB2 hp (.row 3 1 (ints a)) ((ABlk.row 3 1 (ints a)).ren q) := Or.inl (congrArg (ABlk.row 3 1) (ints_ren _ _).symm)
theorem ri {hp : List (Nat × ABlk)} {q : Nat → Nat} (a : List Int) (p : Int) : wkB2 hp (.row 3 1 ((ints a).take (0 * 1 + a.length * 1) ++ [.int .i64 p] ++ (ints a).drop (0 * 1 + a.length * 1 + 1 * 1))) ((ABlk.row 3 1 (ints (a ++ [p]))).ren q) := by rw [app_in]; exact ru
theorem rw_ {hp : List (Nat × ABlk)} {q : Nat → Nat} (a : List Int) (p : Int) : wkB2 hp (.row 3 1 (((ints a).drop (0 * 1)).take (a.length * 1) ++ [.int .i64 p])) ((ABlk.row 3 1 (ints (a ++ [p]))).ren q) := by rw [app_new]; exact ru
theorem leaf_no {g : Gm} (hg : g.ok) (w : Nat → Nat) (hb : ¬ Bar g w) : FDet Tryd.prog 66 [.c (.int .i64 g.n), .c (.int .i64 (mx w g.n : Nat)), .c (.ptr 1 0), .c (.ptr 2 0), .c (.ptr 3 0), .c (.ptr 4 0)] (putB g w) 5 (.c (.bool false)) [(2, .own (ints (wL w))), (3, .own [.nils])] 14 := by
  have h8 := hg.n8
  have hl := hg.len
  have hc10 : crN w g.ws ≤ 10 := Nat.le_trans List.countP_le_length hl
  have hW8 : (ints (wL w)).length = 8 := by rw [ints_len, wL_len]
  unfold Bar at hb
  refine FSpec.of_body tok true Tryd.func66 rfl (by kernel_rfl) (by decide) (by simp [tupA, hpLt, tmLt, AV.lt, AE.lt, AC.lt, LL_cons, LL_nil, idOk, ABlk.lt, ints_LL, GB, tab64_LL, gC, wB, giC, noneB, putB, putS, nils_LL, rwC, rwH, List.replicate]) (by simp [tupA, hpLt, tmLt, AV.lt, AE.lt, AC.lt, LL_cons, LL_nil, idOk, ABlk.lt, ints_LL, GB, tab64_LL, gC, wB, giC, noneB, putB, putS, nils_LL, rwC, rwH, List.replicate]) (by show 6 ≤ _; decide) ?_
  refine Wk.on ?_
  rw [decide_eq_true (show ((g.n : Nat) : Int) = ((g.n : Nat) : Int) from rfl)]
  refine Wk.on ?_
  by_cases h2 : mx w g.n < 2
  · rw [decide_eq_true (show ((mx w g.n : Nat) : Int) < 2 by omega)]
    refine Wk.on ?_
    exact AH.Fin.new [5, 6, 7, 8, 9, 10, 11, 12, 13] _ _ ⟨rfl, rfl, rfl⟩ rfl ⟨by show some (ABlk.own _) = some (ABlk.own ((ints _).map _)); rw [ints_ren], rfl, trivial⟩ rfl (by simp [tupA, hpLt, tmLt, AV.lt, AE.lt, AC.lt, LL_cons, LL_nil, idOk, ABlk.lt, ints_LL, GB, tab64_LL, gC, wB, giC, noneB, putB, putS, nils_LL, rwC, rwH, List.replicate]) (by simp [tupA, hpLt, tmLt, AV.lt, AE.lt, AC.lt, LL_cons, LL_nil, idOk, ABlk.lt, ints_LL, GB, tab64_LL, gC, wB, giC, noneB, putB, putS, nils_LL, rwC, rwH, List.replicate])
  · rw [decide_eq_false (show ¬ ((mx w g.n : Nat) : Int) < 2 by omega)]
    refine Wk.on ?_
    refine CallA.ro [0] (.c (.int .i64 (crN w g.ws : Nat))) (between_spec hg w) (by first | rfl | exact congrArg AV.g (ints_ren _ _) | (simp [ints_ren, AV.ren, ABlk.ren, AC.ren, AE.ren, qq]; done)) rfl (by (repeat (first | exact trivial | refine ⟨⟨(by first | exact .inl (by decide) | exact .inr (by decide)), (by first | (refine Or.inl ?_; first | rfl | exact congrArg some (ints_ren _ _).symm | exact congrArg ABlk.own (ints_ren _ _).symm | exact congrArg some (tab64_ren _).symm) | rfl | exact congrArg some (ints_ren _ _).symm | exact congrArg ABlk.own (ints_ren _ _).symm | exact congrArg some (tab64_ren _).symm | exact Or.inr ⟨rfl, rfl⟩)⟩, ?_⟩))) (by first | rfl | exact congrArg AV.g (ints_ren _ _) | (simp [ints_ren, AV.ren, ABlk.ren, AC.ren, AE.ren, qq]; done)) ?_
    refine Wk.on ?_
    rw [decide_eq_true (show 2 * (((mx w g.n : Nat) : Int) - 1) ≤ ((crN w g.ws : Nat) : Int) by omega)]
    refine Wk.on ?_
    exact AH.Fin.new [5, 6, 7, 8, 9, 10, 11, 12, 13] _ _ ⟨rfl, rfl, rfl⟩ rfl ⟨by show some (ABlk.own _) = some (ABlk.own ((ints _).map _)); rw [ints_ren], rfl, trivial⟩ rfl (by simp [tupA, hpLt, tmLt, AV.lt, AE.lt, AC.lt, LL_cons, LL_nil, idOk, ABlk.lt, ints_LL, GB, tab64_LL, gC, wB, giC, noneB, putB, putS, nils_LL, rwC, rwH, List.replicate]) (by simp [tupA, hpLt, tmLt, AV.lt, AE.lt, AC.lt, LL_cons, LL_nil, idOk, ABlk.lt, ints_LL, GB, tab64_LL, gC, wB, giC, noneB, putB, putS, nils_LL, rwC, rwH, List.replicate])
theorem leaf_yes {g : Gm} (hg : g.ok) (w : Nat → Nat) (hr : RG w g.n) (hb : Bar g w) : FDet Tryd.prog 66 [.c (.int .i64 g.n), .c (.int .i64 (mx w g.n : Nat)), .c (.ptr 1 0), .c (.ptr 2 0), .c (.ptr 3 0), .c (.ptr 4 0)] (putB g w) 5 (.c (.bool true)) ((2, .own (ints (wL w))) :: (3, .own [.sl 5 0 (mx w g.n) (some (mx w g.n))]) :: (5, .own (rwC 0 (LV w g.n))) :: rwH 0 (LV w g.n)) 14 := by
  have h8 := hg.n8
  have hl := hg.len
  have hc10 : crN w g.ws ≤ 10 := Nat.le_trans List.countP_le_length hl
  have hW8 : (ints (wL w)).length = 8 := by rw [ints_len, wL_len]
  have hM8 := mx_le hr g.n (by omega)
  obtain ⟨hb1, hb2⟩ := hb
  have hfin : LV w g.n = LV w g.n := rfl
  have hsucc : ∀ p, p < g.n → mx w (p + 1) ≤ mx w g.n := fun p hp => mx_mono _ hp
  obtain ⟨M, hM⟩ : ∃ M, M = mx w g.n := ⟨_, rfl⟩
  rw [← hM] at hb1 hb2 hM8 hsucc ⊢
  refine FSpec.of_body tok true Tryd.func66 rfl (by kernel_rfl) (by decide) (by simp [tupA, hpLt, tmLt, AV.lt, AE.lt, AC.lt, LL_cons, LL_nil, idOk, ABlk.lt, ints_LL, GB, tab64_LL, gC, wB, giC, noneB, putB, putS, nils_LL, rwC, rwH, List.replicate]) (by simp [tupA, hpLt, tmLt, AV.lt, AE.lt, AC.lt, LL_cons, LL_nil, idOk, ABlk.lt, ints_LL, GB, tab64_LL, gC, wB, giC, noneB, putB, putS, nils_LL, rwC, rwH, List.replicate]) (by show 6 ≤ _; decide) ?_
  refine Wk.on ?_
  rw [decide_eq_true (show ((g.n : Nat) : Int) = ((g.n : Nat) : Int) from rfl)]
  refine Wk.on ?_
  rw [decide_eq_false (show ¬ ((M : Nat) : Int) < 2 by omega)]
  refine Wk.on ?_
  refine CallA.ro [0] (.c (.int .i64 (crN w g.ws : Nat))) (between_spec hg w) (by first | rfl | exact congrArg AV.g (ints_ren _ _) | (simp [ints_ren, AV.ren, ABlk.ren, AC.ren, AE.ren, qq]; done)) rfl (by (repeat (first | exact trivial | refine ⟨⟨(by first | exact .inl (by decide) | exact .inr (by decide)), (by first | (refine Or.inl ?_; first | rfl | exact congrArg some (ints_ren _ _).symm | exact congrArg ABlk.own (ints_ren _ _).symm | exact congrArg some (tab64_ren _).symm) | rfl | exact congrArg some (ints_ren _ _).symm | exact congrArg ABlk.own (ints_ren _ _).symm | exact congrArg some (tab64_ren _).symm | exact Or.inr ⟨rfl, rfl⟩)⟩, ?_⟩))) (by first | rfl | exact congrArg AV.g (ints_ren _ _) | (simp [ints_ren, AV.ren, ABlk.ren, AC.ren, AE.ren, qq]; done)) ?_
  refine Wk.on ?_
  rw [decide_eq_false (show ¬ 2 * (((M : Nat) : Int) - 1) ≤ ((crN w g.ws : Nat) : Int) by omega)]
  refine Wk.on ?_
  refine ⟨⟨Nat.le_of_ble_eq_true rfl, Nat.le_of_ble_eq_true rfl, rfl, by omega, rfl, by show (24 : Int) * (M : Int) ≤ _; omega, by omega⟩, ?_⟩
  refine Wk.on ?_
  refine ⟨⟨by decide, by show (0 : Int) ≤ (g.n : Int); omega, .inl (by show (g.n : Int) ≤ 8; omega)⟩, ?_⟩
  refine Wk.on ?_
  refine Tr.loop (md := true) (X := Nat × Nat × List (List Int)) (st := putS g w M) (inv := fun x => x.1 ≤ g.n ∧ x.2.2 = LV w x.1 ∧ x.2.2.length + x.2.1 = M) (μ := fun x => g.n - x.1) (x0 := (0, M, [])) (l := []) tok ⟨by omega, rfl, by simp⟩ ?_ ?_
  · exact Sub.nil ⟨rfl, rfl, ⟨Nat.le_of_ble_eq_true rfl, Nat.le_of_ble_eq_true rfl⟩, rfl, (by simp [tupA, hpLt, tmLt, AV.lt, AE.lt, AC.lt, LL_cons, LL_nil, idOk, ABlk.lt, ints_LL, GB, tab64_LL, gC, wB, giC, noneB, putB, putS, nils_LL, rwC, rwH, List.replicate]), (by simp [tupA, hpLt, tmLt, AV.lt, AE.lt, AC.lt, LL_cons, LL_nil, idOk, ABlk.lt, ints_LL, GB, tab64_LL, gC, wB, giC, noneB, putB, putS, nils_LL, rwC, rwH, List.replicate])⟩ (by (repeat (first | exact trivial | refine ⟨trivial, ?_⟩ | refine ⟨rfl, ?_⟩))) ⟨congrArg ABlk.own (rep_nils M), rfl, rfl, rfl, rfl, rfl, trivial⟩
  · rintro ⟨pos, q, V⟩ ⟨h1, h2, h3⟩
    dsimp only at h1 h2 h3
    by_cases hp : pos < g.n
    · have hrp := hr pos hp
      have hput := LV_succ hrp
      have hVm : ∀ a ∈ V, a.length ≤ 8 := fun a ha => by have := LV_mem (h2 ▸ ha); omega
      have hVl : V.length = mx w pos := by rw [h2, LV_len]
      have hVp : mx w pos ≤ pos := mx_le hr pos (by omega)
      have hs1 := hsucc pos hp
      have hget := wL_get2 w (i := pos) (by omega)
      rw [← h2] at hput
      have hmx : mx w (pos + 1) = max (mx w pos) (w pos + 1) := rfl
      generalize w pos = l at hput hget hrp hmx
      rw [hmx, ← hVl] at hs1
      rw [← hVl] at hrp hVp
      clear h2 hmx hVl hfin hb2 hc10
      rcases V with _ | ⟨a0, V⟩
      · rcases l with _ | l
        · simp only [List.length_cons, List.length_nil] at hrp hs1 hVp h3
          rcases q with _ | q
          · omega
          simp only [putS, rwC, rwH, List.cons_append, List.nil_append, List.length_cons, List.length_nil, Nat.reduceAdd]
          have hg2 : (ints (wL w)).getD (0 + pos * 1) (.int .i64 0) = .int .i64 (0 : Int) := hget
          refine Wk.on ?_
          rw [decide_eq_true (show ((pos : Nat) : Int) < ((g.n : Nat) : Int) by omega)]
          refine Wk.on ?_
          rw [Int.toNat_natCast, hg2]
          refine Wk.on ?_
          refine Tr.draw (md := true) (dpl [] []) tok (by kernel_rfl) (by kernel_rfl) ?_
          refine Wk.on ?_
          exact pag (V := [[(pos : Int)]]) [(6, 7)] ⟨by show pos + 1 ≤ g.n; omega, hput.symm, by simp only [List.length_cons, List.length_nil]; omega⟩ hp ⟨Or.inr (Or.inl (Or.inr ⟨rfl, wk_tail _ _ q⟩)), trivial⟩ ⟨Or.inl rfl, trivial⟩ (by simp)
        simp only [List.length_cons, List.length_nil] at hrp
        omega
      rcases V with _ | ⟨a1, V⟩
      · rcases l with _ | l
        · simp only [List.length_cons, List.length_nil] at hrp hs1 hVp h3
          have hal : a0.length ≤ 8 := hVm _ (by simp)
          simp only [putS, rwC, rwH, List.cons_append, List.nil_append, List.length_cons, List.length_nil, Nat.reduceAdd]
          have hg2 : (ints (wL w)).getD (0 + pos * 1) (.int .i64 0) = .int .i64 (0 : Int) := hget
          refine Wk.on ?_
          rw [decide_eq_true (show ((pos : Nat) : Int) < ((g.n : Nat) : Int) by omega)]
          refine Wk.on ?_
          rw [Int.toNat_natCast, hg2]
          refine Wk.on ?_
          refine Tr.cap 5 0 1 rfl rfl fun c hc => ?_
          refine Tr.draw (md := true) (dpl [6] [6]) tok (by kernel_rfl) (by kernel_rfl) ?_
          refine Wk.on ?_
          refine ⟨⟨rfl, rfl, rfl, by rw [ints_len]; omega⟩, fun hin => ?_, fun hnew => ?_⟩
          · refine Wk.on ?_
            exact pag (V := [a0 ++ [(pos : Int)]]) [] ⟨by show pos + 1 ≤ g.n; omega, hput.symm, by simp only [List.length_cons, List.length_nil]; omega⟩ hp ⟨Or.inr (Or.inl (Or.inr ⟨⟨rfl, rfl, by simp⟩, wk_tail _ _ q⟩)), trivial⟩ ⟨ri a0 pos, trivial⟩ (by simp)
          · refine ⟨⟨Nat.le_of_ble_eq_true rfl, by show ((a0.length + 1 : Nat) : Int) * 8 ≤ _; omega, by omega⟩, ?_⟩
            refine Wk.on ?_
            exact pag (V := [a0 ++ [(pos : Int)]]) [(6, 8)] ⟨by show pos + 1 ≤ g.n; omega, hput.symm, by simp only [List.length_cons, List.length_nil]; omega⟩ hp ⟨Or.inr (Or.inl (Or.inr ⟨row_len _ _ _, wk_tail _ _ q⟩)), trivial⟩ ⟨rw_ a0 pos, trivial⟩ (by simp)
        rcases l with _ | l
        · simp only [List.length_cons, List.length_nil] at hrp hs1 hVp h3
          rcases q with _ | q
          · omega
          simp only [putS, rwC, rwH, List.cons_append, List.nil_append, List.length_cons, List.length_nil, Nat.reduceAdd]
          have hg2 : (ints (wL w)).getD (0 + pos * 1) (.int .i64 0) = .int .i64 (1 : Int) := hget
          refine Wk.on ?_
          rw [decide_eq_true (show ((pos : Nat) : Int) < ((g.n : Nat) : Int) by omega)]
          refine Wk.on ?_
          rw [Int.toNat_natCast, hg2]
          refine Wk.on ?_
          refine Tr.draw (md := true) (dpl [] []) tok (by kernel_rfl) (by kernel_rfl) ?_
          refine Wk.on ?_
          exact pag (V := [a0, [(pos : Int)]]) [(7, 8)] ⟨by show pos + 1 ≤ g.n; omega, hput.symm, by simp only [List.length_cons, List.length_nil]; omega⟩ hp ⟨Or.inr (Or.inl (Or.inr ⟨rfl, rfl, wk_tail _ _ q⟩)), trivial⟩ ⟨ru, Or.inl rfl, trivial⟩ (by simp)
        simp only [List.length_cons, List.length_nil] at hrp
        omega
      rcases V with _ | ⟨a2, V⟩
      · rcases l with _ | l
        · simp only [List.length_cons, List.length_nil] at hrp hs1 hVp h3
          have hal : a0.length ≤ 8 := hVm _ (by simp)
          simp only [putS, rwC, rwH, List.cons_append, List.nil_append, List.length_cons, List.length_nil, Nat.reduceAdd]
          have hg2 : (ints (wL w)).getD (0 + pos * 1) (.int .i64 0) = .int .i64 (0 : Int) := hget
          refine Wk.on ?_
          rw [decide_eq_true (show ((pos : Nat) : Int) < ((g.n : Nat) : Int) by omega)]
          refine Wk.on ?_
          rw [Int.toNat_natCast, hg2]
          refine Wk.on ?_
          refine Tr.cap 5 0 1 rfl rfl fun c hc => ?_
          refine Tr.draw (md := true) (dpl [6] [6]) tok (by kernel_rfl) (by kernel_rfl) ?_
          refine Wk.on ?_
          refine ⟨⟨rfl, rfl, rfl, by rw [ints_len]; omega⟩, fun hin => ?_, fun hnew => ?_⟩
          · refine Wk.on ?_
            exact pag (V := [a0 ++ [(pos : Int)], a1]) [] ⟨by show pos + 1 ≤ g.n; omega, hput.symm, by simp only [List.length_cons, List.length_nil]; omega⟩ hp ⟨Or.inr (Or.inl (Or.inr ⟨⟨rfl, rfl, by simp⟩, rfl, wk_tail _ _ q⟩)), trivial⟩ ⟨ri a0 pos, ru, trivial⟩ (by simp)
          · refine ⟨⟨Nat.le_of_ble_eq_true rfl, by show ((a0.length + 1 : Nat) : Int) * 8 ≤ _; omega, by omega⟩, ?_⟩
            refine Wk.on ?_
            exact pag (V := [a0 ++ [(pos : Int)], a1]) [(6, 9)] ⟨by show pos + 1 ≤ g.n; omega, hput.symm, by simp only [List.length_cons, List.length_nil]; omega⟩ hp ⟨Or.inr (Or.inl (Or.inr ⟨row_len _ _ _, rfl, wk_tail _ _ q⟩)), trivial⟩ ⟨rw_ a0 pos, ru, trivial⟩ (by simp)
        rcases l with _ | l
        · simp only [List.length_cons, List.length_nil] at hrp hs1 hVp h3
          have hal : a1.length ≤ 8 := hVm _ (by simp)
          simp only [putS, rwC, rwH, List.cons_append, List.nil_append, List.length_cons, List.length_nil, Nat.reduceAdd]
          have hg2 : (ints (wL w)).getD (0 + pos * 1) (.int .i64 0) = .int .i64 (1 : Int) := hget
          refine Wk.on ?_
          rw [decide_eq_true (show ((pos : Nat) : Int) < ((g.n : Nat) : Int) by omega)]
          refine Wk.on ?_
          rw [Int.toNat_natCast, hg2]
          refine Wk.on ?_
          refine Tr.cap 5 1 1 rfl rfl fun c hc => ?_
          refine Tr.draw (md := true) (dpl [7] [7]) tok (by kernel_rfl) (by kernel_rfl) ?_
          refine Wk.on ?_
          refine ⟨⟨rfl, rfl, rfl, by rw [ints_len]; omega⟩, fun hin => ?_, fun hnew => ?_⟩
          · refine Wk.on ?_
            exact pag (V := [a0, a1 ++ [(pos : Int)]]) [] ⟨by show pos + 1 ≤ g.n; omega, hput.symm, by simp only [List.length_cons, List.length_nil]; omega⟩ hp ⟨Or.inr (Or.inl (Or.inr ⟨rfl, ⟨rfl, rfl, by simp⟩, wk_tail _ _ q⟩)), trivial⟩ ⟨ru, ri a1 pos, trivial⟩ (by simp)
          · refine ⟨⟨Nat.le_of_ble_eq_true rfl, by show ((a1.length + 1 : Nat) : Int) * 8 ≤ _; omega, by omega⟩, ?_⟩
            refine Wk.on ?_
            exact pag (V := [a0, a1 ++ [(pos : Int)]]) [(7, 9)] ⟨by show pos + 1 ≤ g.n; omega, hput.symm, by simp only [List.length_cons, List.length_nil]; omega⟩ hp ⟨Or.inr (Or.inl (Or.inr ⟨rfl, row_len _ _ _, wk_tail _ _ q⟩)), trivial⟩ ⟨ru, rw_ a1 pos, trivial⟩ (by simp)
        rcases l with _ | l
        · simp only [List.length_cons, List.length_nil] at hrp hs1 hVp h3
          rcases q with _ | q
          · omega
          simp only [putS, rwC, rwH, List.cons_append, List.nil_append, List.length_cons, List.length_nil, Nat.reduceAdd]
          have hg2 : (ints (wL w)).getD (0 + pos * 1) (.int .i64 0) = .int .i64 (2 : Int) := hget
          refine Wk.on ?_
          rw [decide_eq_true (show ((pos : Nat) : Int) < ((g.n : Nat) : Int) by omega)]
          refine Wk.on ?_
          rw [Int.toNat_natCast, hg2]
          refine Wk.on ?_
          refine Tr.draw (md := true) (dpl [] []) tok (by kernel_rfl) (by kernel_rfl) ?_
          refine Wk.on ?_
          exact pag (V := [a0, a1, [(pos : Int)]]) [(8, 9)] ⟨by show pos + 1 ≤ g.n; omega, hput.symm, by simp only [List.length_cons, List.length_nil]; omega⟩ hp ⟨Or.inr (Or.inl (Or.inr ⟨rfl, rfl, rfl, wk_tail _ _ q⟩)), trivial⟩ ⟨ru, ru, Or.inl rfl, trivial⟩ (by simp)
        simp only [List.length_cons, List.length_nil] at hrp
        omega
      rcases V with _ | ⟨a3, V⟩
      · rcases l with _ | l
        · simp only [List.length_cons, List.length_nil] at hrp hs1 hVp h3
          have hal : a0.length ≤ 8 := hVm _ (by simp)
          simp only [putS, rwC, rwH, List.cons_append, List.nil_append, List.length_cons, List.length_nil, Nat.reduceAdd]
          have hg2 : (ints (wL w)).getD (0 + pos * 1) (.int .i64 0) = .int .i64 (0 : Int) := hget
          refine Wk.on ?_
          rw [decide_eq_true (show ((pos : Nat) : Int) < ((g.n : Nat) : Int) by omega)]
          refine Wk.on ?_
          rw [Int.toNat_natCast, hg2]
          refine Wk.on ?_
          refine Tr.cap 5 0 1 rfl rfl fun c hc => ?_
          refine Tr.draw (md := true) (dpl [6] [6]) tok (by kernel_rfl) (by kernel_rfl) ?_
          refine Wk.on ?_
          refine ⟨⟨rfl, rfl, rfl, by rw [ints_len]; omega⟩, fun hin => ?_, fun hnew => ?_⟩
          · refine Wk.on ?_
            exact pag (V := [a0 ++ [(pos : Int)], a1, a2]) [] ⟨by show pos + 1 ≤ g.n; omega, hput.symm, by simp only [List.length_cons, List.length_nil]; omega⟩ hp ⟨Or.inr (Or.inl (Or.inr ⟨⟨rfl, rfl, by simp⟩, rfl, rfl, wk_tail _ _ q⟩)), trivial⟩ ⟨ri a0 pos, ru, ru, trivial⟩ (by simp)
          · refine ⟨⟨Nat.le_of_ble_eq_true rfl, by show ((a0.length + 1 : Nat) : Int) * 8 ≤ _; omega, by omega⟩, ?_⟩
            refine Wk.on ?_
            exact pag (V := [a0 ++ [(pos : Int)], a1, a2]) [(6, 10)] ⟨by show pos + 1 ≤ g.n; omega, hput.symm, by simp only [List.length_cons, List.length_nil]; omega⟩ hp ⟨Or.inr (Or.inl (Or.inr ⟨row_len _ _ _, rfl, rfl, wk_tail _ _ q⟩)), trivial⟩ ⟨rw_ a0 pos, ru, ru, trivial⟩ (by simp)
        rcases l with _ | l
        · simp only [List.length_cons, List.length_nil] at hrp hs1 hVp h3
          have hal : a1.length ≤ 8 := hVm _ (by simp)
          simp only [putS, rwC, rwH, List.cons_append, List.nil_append, List.length_cons, List.length_nil, Nat.reduceAdd]
          have hg2 : (ints (wL w)).getD (0 + pos * 1) (.int .i64 0) = .int .i64 (1 : Int) := hget
          refine Wk.on ?_
          rw [decide_eq_true (show ((pos : Nat) : Int) < ((g.n : Nat) : Int) by omega)]
          refine Wk.on ?_
          rw [Int.toNat_natCast, hg2]
          refine Wk.on ?_
          refine Tr.cap 5 1 1 rfl rfl fun c hc => ?_
          refine Tr.draw (md := true) (dpl [7] [7]) tok (by kernel_rfl) (by kernel_rfl) ?_
          refine Wk.on ?_
          refine ⟨⟨rfl, rfl, rfl, by rw [ints_len]; omega⟩, fun hin => ?_, fun hnew => ?_⟩
          · refine Wk.on ?_
            exact pag (V := [a0, a1 ++ [(pos : Int)], a2]) [] ⟨by show pos + 1 ≤ g.n; omega, hput.symm, by simp only [List.length_cons, List.length_nil]; omega⟩ hp ⟨Or.inr (Or.inl (Or.inr ⟨rfl, ⟨rfl, rfl, by simp⟩, rfl, wk_tail _ _ q⟩)), trivial⟩ ⟨ru, ri a1 pos, ru, trivial⟩ (by simp)
          · refine ⟨⟨Nat.le_of_ble_eq_true rfl, by show ((a1.length + 1 : Nat) : Int) * 8 ≤ _; omega, by omega⟩, ?_⟩
            refine Wk.on ?_
            exact pag (V := [a0, a1 ++ [(pos : Int)], a2]) [(7, 10)] ⟨by show pos + 1 ≤ g.n; omega, hput.symm, by simp only [List.length_cons, List.length_nil]; omega⟩ hp ⟨Or.inr (Or.inl (Or.inr ⟨rfl, row_len _ _ _, rfl, wk_tail _ _ q⟩)), trivial⟩ ⟨ru, rw_ a1 pos, ru, trivial⟩ (by simp)
        rcases l with _ | l
        · simp only [List.length_cons, List.length_nil] at hrp hs1 hVp h3
          have hal : a2.length ≤ 8 := hVm _ (by simp)
          simp only [putS, rwC, rwH, List.cons_append, List.nil_append, List.length_cons, List.length_nil, Nat.reduceAdd]
          have hg2 : (ints (wL w)).getD (0 + pos * 1) (.int .i64 0) = .int .i64 (2 : Int) := hget
          refine Wk.on ?_
          rw [decide_eq_true (show ((pos : Nat) : Int) < ((g.n : Nat) : Int) by omega)]
          refine Wk.on ?_
          rw [Int.toNat_natCast, hg2]
          refine Wk.on ?_
          refine Tr.cap 5 2 1 rfl rfl fun c hc => ?_
          refine Tr.draw (md := true) (dpl [8] [8]) tok (by kernel_rfl) (by kernel_rfl) ?_
          refine Wk.on ?_
          refine ⟨⟨rfl, rfl, rfl, by rw [ints_len]; omega⟩, fun hin => ?_, fun hnew => ?_⟩
          · refine Wk.on ?_
            exact pag (V := [a0, a1, a2 ++ [(pos : Int)]]) [] ⟨by show pos + 1 ≤ g.n; omega, hput.symm, by simp only [List.length_cons, List.length_nil]; omega⟩ hp ⟨Or.inr (Or.inl (Or.inr ⟨rfl, rfl, ⟨rfl, rfl, by simp⟩, wk_tail _ _ q⟩)), trivial⟩ ⟨ru, ru, ri a2 pos, trivial⟩ (by simp)
          · refine ⟨⟨Nat.le_of_ble_eq_true rfl, by show ((a2.length + 1 : Nat) : Int) * 8 ≤ _; omega, by omega⟩, ?_⟩
            refine Wk.on ?_
            exact pag (V := [a0, a1, a2 ++ [(pos : Int)]]) [(8, 10)] ⟨by show pos + 1 ≤ g.n; omega, hput.symm, by simp only [List.length_cons, List.length_nil]; omega⟩ hp ⟨Or.inr (Or.inl (Or.inr ⟨rfl, rfl, row_len _ _ _, wk_tail _ _ q⟩)), trivial⟩ ⟨ru, ru, rw_ a2 pos, trivial⟩ (by simp)
        rcases l with _ | l
        · simp only [List.length_cons, List.length_nil] at hrp hs1 hVp h3
          rcases q with _ | q
          · omega
          simp only [putS, rwC, rwH, List.cons_append, List.nil_append, List.length_cons, List.length_nil, Nat.reduceAdd]
          have hg2 : (ints (wL w)).getD (0 + pos * 1) (.int .i64 0) = .int .i64 (3 : Int) := hget
          refine Wk.on ?_
          rw [decide_eq_true (show ((pos : Nat) : Int) < ((g.n : Nat) : Int) by omega)]
          refine Wk.on ?_
          rw [Int.toNat_natCast, hg2]
          refine Wk.on ?_
          refine Tr.draw (md := true) (dpl [] []) tok (by kernel_rfl) (by kernel_rfl) ?_
          refine Wk.on ?_
          exact pag (V := [a0, a1, a2, [(pos : Int)]]) [(9, 10)] ⟨by show pos + 1 ≤ g.n; omega, hput.symm, by simp only [List.length_cons, List.length_nil]; omega⟩ hp ⟨Or.inr (Or.inl (Or.inr ⟨rfl, rfl, rfl, rfl, wk_tail _ _ q⟩)), trivial⟩ ⟨ru, ru, ru, Or.inl rfl, trivial⟩ (by simp)
        simp only [List.length_cons, List.length_nil] at hrp
        omega
      rcases V with _ | ⟨a4, V⟩
      · rcases l with _ | l
        · simp only [List.length_cons, List.length_nil] at hrp hs1 hVp h3
          have hal : a0.length ≤ 8 := hVm _ (by simp)
          simp only [putS, rwC, rwH, List.cons_append, List.nil_append, List.length_cons, List.length_nil, Nat.reduceAdd]
          have hg2 : (ints (wL w)).getD (0 + pos * 1) (.int .i64 0) = .int .i64 (0 : Int) := hget
          refine Wk.on ?_
          rw [decide_eq_true (show ((pos : Nat) : Int) < ((g.n : Nat) : Int) by omega)]
          refine Wk.on ?_
          rw [Int.toNat_natCast, hg2]
          refine Wk.on ?_
          refine Tr.cap 5 0 1 rfl rfl fun c hc => ?_
          refine Tr.draw (md := true) (dpl [6] [6]) tok (by kernel_rfl) (by kernel_rfl) ?_
          refine Wk.on ?_
          refine ⟨⟨rfl, rfl, rfl, by rw [ints_len]; omega⟩, fun hin => ?_, fun hnew => ?_⟩
          · refine Wk.on ?_
            exact pag (V := [a0 ++ [(pos : Int)], a1, a2, a3]) [] ⟨by show pos + 1 ≤ g.n; omega, hput.symm, by simp only [List.length_cons, List.length_nil]; omega⟩ hp ⟨Or.inr (Or.inl (Or.inr ⟨⟨rfl, rfl, by simp⟩, rfl, rfl, rfl, wk_tail _ _ q⟩)), trivial⟩ ⟨ri a0 pos, ru, ru, ru, trivial⟩ (by simp)
          · refine ⟨⟨Nat.le_of_ble_eq_true rfl, by show ((a0.length + 1 : Nat) : Int) * 8 ≤ _; omega, by omega⟩, ?_⟩
            refine Wk.on ?_
            exact pag (V := [a0 ++ [(pos : Int)], a1, a2, a3]) [(6, 11)] ⟨by show pos + 1 ≤ g.n; omega, hput.symm, by simp only [List.length_cons, List.length_nil]; omega⟩ hp ⟨Or.inr (Or.inl (Or.inr ⟨row_len _ _ _, rfl, rfl, rfl, wk_tail _ _ q⟩)), trivial⟩ ⟨rw_ a0 pos, ru, ru, ru, trivial⟩ (by simp)
        rcases l with _ | l
        · simp only [List.length_cons, List.length_nil] at hrp hs1 hVp h3
          have hal : a1.length ≤ 8 := hVm _ (by simp)
          simp only [putS, rwC, rwH, List.cons_append, List.nil_append, List.length_cons, List.length_nil, Nat.reduceAdd]
          have hg2 : (ints (wL w)).getD (0 + pos * 1) (.int .i64 0) = .int .i64 (1 : Int) := hget
          refine Wk.on ?_
          rw [decide_eq_true (show ((pos : Nat) : Int) < ((g.n : Nat) : Int) by omega)]
          refine Wk.on ?_
          rw [Int.toNat_natCast, hg2]
          refine Wk.on ?_
          refine Tr.cap 5 1 1 rfl rfl fun c hc => ?_
          refine Tr.draw (md := true) (dpl [7] [7]) tok (by kernel_rfl) (by kernel_rfl) ?_
          refine Wk.on ?_
          refine ⟨⟨rfl, rfl, rfl, by rw [ints_len]; omega⟩, fun hin => ?_, fun hnew => ?_⟩
          · refine Wk.on ?_
            exact pag (V := [a0, a1 ++ [(pos : Int)], a2, a3]) [] ⟨by show pos + 1 ≤ g.n; omega, hput.symm, by simp only [List.length_cons, List.length_nil]; omega⟩ hp ⟨Or.inr (Or.inl (Or.inr ⟨rfl, ⟨rfl, rfl, by simp⟩, rfl, rfl, wk_tail _ _ q⟩)), trivial⟩ ⟨ru, ri a1 pos, ru, ru, trivial⟩ (by simp)
          · refine ⟨⟨Nat.le_of_ble_eq_true rfl, by show ((a1.length + 1 : Nat) : Int) * 8 ≤ _; omega, by omega⟩, ?_⟩
            refine Wk.on ?_
            exact pag (V := [a0, a1 ++ [(pos : Int)], a2, a3]) [(7, 11)] ⟨by show pos + 1 ≤ g.n; omega, hput.symm, by simp only [List.length_cons, List.length_nil]; omega⟩ hp ⟨Or.inr (Or.inl (Or.inr ⟨rfl, row_len _ _ _, rfl, rfl, wk_tail _ _ q⟩)), trivial⟩ ⟨ru, rw_ a1 pos, ru, ru, trivial⟩ (by simp)
        rcases l with _ | l
        · simp only [List.length_cons, List.length_nil] at hrp hs1 hVp h3
          have hal : a2.length ≤ 8 := hVm _ (by simp)
          simp only [putS, rwC, rwH, List.cons_append, List.nil_append, List.length_cons, List.length_nil, Nat.reduceAdd]
          have hg2 : (ints (wL w)).getD (0 + pos * 1) (.int .i64 0) = .int .i64 (2 : Int) := hget
          refine Wk.on ?_
          rw [decide_eq_true (show ((pos : Nat) : Int) < ((g.n : Nat) : Int) by omega)]
          refine Wk.on ?_
          rw [Int.toNat_natCast, hg2]
          refine Wk.on ?_
          refine Tr.cap 5 2 1 rfl rfl fun c hc => ?_
          refine Tr.draw (md := true) (dpl [8] [8]) tok (by kernel_rfl) (by kernel_rfl) ?_
          refine Wk.on ?_
          refine ⟨⟨rfl, rfl, rfl, by rw [ints_len]; omega⟩, fun hin => ?_, fun hnew => ?_⟩
          · refine Wk.on ?_
            exact pag (V := [a0, a1, a2 ++ [(pos : Int)], a3]) [] ⟨by show pos + 1 ≤ g.n; omega, hput.symm, by simp only [List.length_cons, List.length_nil]; omega⟩ hp ⟨Or.inr (Or.inl (Or.inr ⟨rfl, rfl, ⟨rfl, rfl, by simp⟩, rfl, wk_tail _ _ q⟩)), trivial⟩ ⟨ru, ru, ri a2 pos, ru, trivial⟩ (by simp)
          · refine ⟨⟨Nat.le_of_ble_eq_true rfl, by show ((a2.length + 1 : Nat) : Int) * 8 ≤ _; omega, by omega⟩, ?_⟩
            refine Wk.on ?_
            exact pag (V := [a0, a1, a2 ++ [(pos : Int)], a3]) [(8, 11)] ⟨by show pos + 1 ≤ g.n; omega, hput.symm, by simp only [List.length_cons, List.length_nil]; omega⟩ hp ⟨Or.inr (Or.inl (Or.inr ⟨rfl, rfl, row_len _ _ _, rfl, wk_tail _ _ q⟩)), trivial⟩ ⟨ru, ru, rw_ a2 pos, ru, trivial⟩ (by simp)
        rcases l with _ | l
        · simp only [List.length_cons, List.length_nil] at hrp hs1 hVp h3
          have hal : a3.length ≤ 8 := hVm _ (by simp)
          simp only [putS, rwC, rwH, List.cons_append, List.nil_append, List.length_cons, List.length_nil, Nat.reduceAdd]
          have hg2 : (ints (wL w)).getD (0 + pos * 1) (.int .i64 0) = .int .i64 (3 : Int) := hget
          refine Wk.on ?_
          rw [decide_eq_true (show ((pos : Nat) : Int) < ((g.n : Nat) : Int) by omega)]
          refine Wk.on ?_
          rw [Int.toNat_natCast, hg2]
          refine Wk.on ?_
          refine Tr.cap 5 3 1 rfl rfl fun c hc => ?_
          refine Tr.draw (md := true) (dpl [9] [9]) tok (by kernel_rfl) (by kernel_rfl) ?_
          refine Wk.on ?_
          refine ⟨⟨rfl, rfl, rfl, by rw [ints_len]; omega⟩, fun hin => ?_, fun hnew => ?_⟩
          · refine Wk.on ?_
            exact pag (V := [a0, a1, a2, a3 ++ [(pos : Int)]]) [] ⟨by show pos + 1 ≤ g.n; omega, hput.symm, by simp only [List.length_cons, List.length_nil]; omega⟩ hp ⟨Or.inr (Or.inl (Or.inr ⟨rfl, rfl, rfl, ⟨rfl, rfl, by simp⟩, wk_tail _ _ q⟩)), trivial⟩ ⟨ru, ru, ru, ri a3 pos, trivial⟩ (by simp)
          · refine ⟨⟨Nat.le_of_ble_eq_true rfl, by show ((a3.length + 1 : Nat) : Int) * 8 ≤ _; omega, by omega⟩, ?_⟩
            refine Wk.on ?_
            exact pag (V := [a0, a1, a2, a3 ++ [(pos : Int)]]) [(9, 11)] ⟨by show pos + 1 ≤ g.n; omega, hput.symm, by simp only [List.length_cons, List.length_nil]; omega⟩ hp ⟨Or.inr (Or.inl (Or.inr ⟨rfl, rfl, rfl, row_len _ _ _, wk_tail _ _ q⟩)), trivial⟩ ⟨ru, ru, ru, rw_ a3 pos, trivial⟩ (by simp)
        rcases l with _ | l
        · simp only [List.length_cons, List.length_nil] at hrp hs1 hVp h3
          rcases q with _ | q
          · omega
          simp only [putS, rwC, rwH, List.cons_append, List.nil_append, List.length_cons, List.length_nil, Nat.reduceAdd]
          have hg2 : (ints (wL w)).getD (0 + pos * 1) (.int .i64 0) = .int .i64 (4 : Int) := hget
          refine Wk.on ?_
          rw [decide_eq_true (show ((pos : Nat) : Int) < ((g.n : Nat) : Int) by omega)]
          refine Wk.on ?_
          rw [Int.toNat_natCast, hg2]
          refine Wk.on ?_
          refine Tr.draw (md := true) (dpl [] []) tok (by kernel_rfl) (by kernel_rfl) ?_
          refine Wk.on ?_
          exact pag (V := [a0, a1, a2, a3, [(pos : Int)]]) [(10, 11)] ⟨by show pos + 1 ≤ g.n; omega, hput.symm, by simp only [List.length_cons, List.length_nil]; omega⟩ hp ⟨Or.inr (Or.inl (Or.inr ⟨rfl, rfl, rfl, rfl, rfl, wk_tail _ _ q⟩)), trivial⟩ ⟨ru, ru, ru, ru, Or.inl rfl, trivial⟩ (by simp)
        simp only [List.length_cons, List.length_nil] at hrp
        omega
      rcases V with _ | ⟨a5, V⟩
      · rcases l with _ | l
        · simp only [List.length_cons, List.length_nil] at hrp hs1 hVp h3
          have hal : a0.length ≤ 8 := hVm _ (by simp)
          simp only [putS, rwC, rwH, List.cons_append, List.nil_append, List.length_cons, List.length_nil, Nat.reduceAdd]
          have hg2 : (ints (wL w)).getD (0 + pos * 1) (.int .i64 0) = .int .i64 (0 : Int) := hget
          refine Wk.on ?_
          rw [decide_eq_true (show ((pos : Nat) : Int) < ((g.n : Nat) : Int) by omega)]
          refine Wk.on ?_
          rw [Int.toNat_natCast, hg2]
          refine Wk.on ?_
          refine Tr.cap 5 0 1 rfl rfl fun c hc => ?_
          refine Tr.draw (md := true) (dpl [6] [6]) tok (by kernel_rfl) (by kernel_rfl) ?_
          refine Wk.on ?_
          refine ⟨⟨rfl, rfl, rfl, by rw [ints_len]; omega⟩, fun hin => ?_, fun hnew => ?_⟩
          · refine Wk.on ?_
            exact pag (V := [a0 ++ [(pos : Int)], a1, a2, a3, a4]) [] ⟨by show pos + 1 ≤ g.n; omega, hput.symm, by simp only [List.length_cons, List.length_nil]; omega⟩ hp ⟨Or.inr (Or.inl (Or.inr ⟨⟨rfl, rfl, by simp⟩, rfl, rfl, rfl, rfl, wk_tail _ _ q⟩)), trivial⟩ ⟨ri a0 pos, ru, ru, ru, ru, trivial⟩ (by simp)
          · refine ⟨⟨Nat.le_of_ble_eq_true rfl, by show ((a0.length + 1 : Nat) : Int) * 8 ≤ _; omega, by omega⟩, ?_⟩
            refine Wk.on ?_
            exact pag (V := [a0 ++ [(pos : Int)], a1, a2, a3, a4]) [(6, 12)] ⟨by show pos + 1 ≤ g.n; omega, hput.symm, by simp only [List.length_cons, List.length_nil]; omega⟩ hp ⟨Or.inr (Or.inl (Or.inr ⟨row_len _ _ _, rfl, rfl, rfl, rfl, wk_tail _ _ q⟩)), trivial⟩ ⟨rw_ a0 pos, ru, ru, ru, ru, trivial⟩ (by simp)
        rcases l with _ | l
        · simp only [List.length_cons, List.length_nil] at hrp hs1 hVp h3
          have hal : a1.length ≤ 8 := hVm _ (by simp)
          simp only [putS, rwC, rwH, List.cons_append, List.nil_append, List.length_cons, List.length_nil, Nat.reduceAdd]
          have hg2 : (ints (wL w)).getD (0 + pos * 1) (.int .i64 0) = .int .i64 (1 : Int) := hget
          refine Wk.on ?_
          rw [decide_eq_true (show ((pos : Nat) : Int) < ((g.n : Nat) : Int) by omega)]
          refine Wk.on ?_
          rw [Int.toNat_natCast, hg2]
          refine Wk.on ?_
          refine Tr.cap 5 1 1 rfl rfl fun c hc => ?_
          refine Tr.draw (md := true) (dpl [7] [7]) tok (by kernel_rfl) (by kernel_rfl) ?_
          refine Wk.on ?_
          refine ⟨⟨rfl, rfl, rfl, by rw [ints_len]; omega⟩, fun hin => ?_, fun hnew => ?_⟩
          · refine Wk.on ?_
            exact pag (V := [a0, a1 ++ [(pos : Int)], a2, a3, a4]) [] ⟨by show pos + 1 ≤ g.n; omega, hput.symm, by simp only [List.length_cons, List.length_nil]; omega⟩ hp ⟨Or.inr (Or.inl (Or.inr ⟨rfl, ⟨rfl, rfl, by simp⟩, rfl, rfl, rfl, wk_tail _ _ q⟩)), trivial⟩ ⟨ru, ri a1 pos, ru, ru, ru, trivial⟩ (by simp)
          · refine ⟨⟨Nat.le_of_ble_eq_true rfl, by show ((a1.length + 1 : Nat) : Int) * 8 ≤ _; omega, by omega⟩, ?_⟩
            refine Wk.on ?_
            exact pag (V := [a0, a1 ++ [(pos : Int)], a2, a3, a4]) [(7, 12)] ⟨by show pos + 1 ≤ g.n; omega, hput.symm, by simp only [List.length_cons, List.length_nil]; omega⟩ hp ⟨Or.inr (Or.inl (Or.inr ⟨rfl, row_len _ _ _, rfl, rfl, rfl, wk_tail _ _ q⟩)), trivial⟩ ⟨ru, rw_ a1 pos, ru, ru, ru, trivial⟩ (by simp)
        rcases l with _ | l
        · simp only [List.length_cons, List.length_nil] at hrp hs1 hVp h3
          have hal : a2.length ≤ 8 := hVm _ (by simp)
          simp only [putS, rwC, rwH, List.cons_append, List.nil_append, List.length_cons, List.length_nil, Nat.reduceAdd]
          have hg2 : (ints (wL w)).getD (0 + pos * 1) (.int .i64 0) = .int .i64 (2 : Int) := hget
          refine Wk.on ?_
          rw [decide_eq_true (show ((pos : Nat) : Int) < ((g.n : Nat) : Int) by omega)]
          refine Wk.on ?_
          rw [Int.toNat_natCast, hg2]
          refine Wk.on ?_
          refine Tr.cap 5 2 1 rfl rfl fun c hc => ?_
          refine Tr.draw (md := true) (dpl [8] [8]) tok (by kernel_rfl) (by kernel_rfl) ?_
          refine Wk.on ?_
          refine ⟨⟨rfl, rfl, rfl, by rw [ints_len]; omega⟩, fun hin => ?_, fun hnew => ?_⟩
          · refine Wk.on ?_
            exact pag (V := [a0, a1, a2 ++ [(pos : Int)], a3, a4]) [] ⟨by show pos + 1 ≤ g.n; omega, hput.symm, by simp only [List.length_cons, List.length_nil]; omega⟩ hp ⟨Or.inr (Or.inl (Or.inr ⟨rfl, rfl, ⟨rfl, rfl, by simp⟩, rfl, rfl, wk_tail _ _ q⟩)), trivial⟩ ⟨ru, ru, ri a2 pos, ru, ru, trivial⟩ (by simp)
          · refine ⟨⟨Nat.le_of_ble_eq_true rfl, by show ((a2.length + 1 : Nat) : Int) * 8 ≤ _; omega, by omega⟩, ?_⟩
            refine Wk.on ?_
            exact pag (V := [a0, a1, a2 ++ [(pos : Int)], a3, a4]) [(8, 12)] ⟨by show pos + 1 ≤ g.n; omega, hput.symm, by simp only [List.length_cons, List.length_nil]; omega⟩ hp ⟨Or.inr (Or.inl (Or.inr ⟨rfl, rfl, row_len _ _ _, rfl, rfl, wk_tail _ _ q⟩)), trivial⟩ ⟨ru, ru, rw_ a2 pos, ru, ru, trivial⟩ (by simp)
        rcases l with _ | l
        · simp only [List.length_cons, List.length_nil] at hrp hs1 hVp h3
          have hal : a3.length ≤ 8 := hVm _ (by simp)
          simp only [putS, rwC, rwH, List.cons_append, List.nil_append, List.length_cons, List.length_nil, Nat.reduceAdd]
          have hg2 : (ints (wL w)).getD (0 + pos * 1) (.int .i64 0) = .int .i64 (3 : Int) := hget
          refine Wk.on ?_
          rw [decide_eq_true (show ((pos : Nat) : Int) < ((g.n : Nat) : Int) by omega)]
          refine Wk.on ?_
          rw [Int.toNat_natCast, hg2]
          refine Wk.on ?_
          refine Tr.cap 5 3 1 rfl rfl fun c hc => ?_
          refine Tr.draw (md := true) (dpl [9] [9]) tok (by kernel_rfl) (by kernel_rfl) ?_
          refine Wk.on ?_
          refine ⟨⟨rfl, rfl, rfl, by rw [ints_len]; omega⟩, fun hin => ?_, fun hnew => ?_⟩
          · refine Wk.on ?_
            exact pag (V := [a0, a1, a2, a3 ++ [(pos : Int)], a4]) [] ⟨by show pos + 1 ≤ g.n; omega, hput.symm, by simp only [List.length_cons, List.length_nil]; omega⟩ hp ⟨Or.inr (Or.inl (Or.inr ⟨rfl, rfl, rfl, ⟨rfl, rfl, by simp⟩, rfl, wk_tail _ _ q⟩)), trivial⟩ ⟨ru, ru, ru, ri a3 pos, ru, trivial⟩ (by simp)
          · refine ⟨⟨Nat.le_of_ble_eq_true rfl, by show ((a3.length + 1 : Nat) : Int) * 8 ≤ _; omega, by omega⟩, ?_⟩
            refine Wk.on ?_
            exact pag (V := [a0, a1, a2, a3 ++ [(pos : Int)], a4]) [(9, 12)] ⟨by show pos + 1 ≤ g.n; omega, hput.symm, by simp only [List.length_cons, List.length_nil]; omega⟩ hp ⟨Or.inr (Or.inl (Or.inr ⟨rfl, rfl, rfl, row_len _ _ _, rfl, wk_tail _ _ q⟩)), trivial⟩ ⟨ru, ru, ru, rw_ a3 pos, ru, trivial⟩ (by simp)
        rcases l with _ | l
        · simp only [List.length_cons, List.length_nil] at hrp hs1 hVp h3
          have hal : a4.length ≤ 8 := hVm _ (by simp)
          simp only [putS, rwC, rwH, List.cons_append, List.nil_append, List.length_cons, List.length_nil, Nat.reduceAdd]
          have hg2 : (ints (wL w)).getD (0 + pos * 1) (.int .i64 0) = .int .i64 (4 : Int) := hget
          refine Wk.on ?_
          rw [decide_eq_true (show ((pos : Nat) : Int) < ((g.n : Nat) : Int) by omega)]
          refine Wk.on ?_
          rw [Int.toNat_natCast, hg2]
          refine Wk.on ?_
          refine Tr.cap 5 4 1 rfl rfl fun c hc => ?_
          refine Tr.draw (md := true) (dpl [10] [10]) tok (by kernel_rfl) (by kernel_rfl) ?_
          refine Wk.on ?_
          refine ⟨⟨rfl, rfl, rfl, by rw [ints_len]; omega⟩, fun hin => ?_, fun hnew => ?_⟩
          · refine Wk.on ?_
            exact pag (V := [a0, a1, a2, a3, a4 ++ [(pos : Int)]]) [] ⟨by show pos + 1 ≤ g.n; omega, hput.symm, by simp only [List.length_cons, List.length_nil]; omega⟩ hp ⟨Or.inr (Or.inl (Or.inr ⟨rfl, rfl, rfl, rfl, ⟨rfl, rfl, by simp⟩, wk_tail _ _ q⟩)), trivial⟩ ⟨ru, ru, ru, ru, ri a4 pos, trivial⟩ (by simp)
          · refine ⟨⟨Nat.le_of_ble_eq_true rfl, by show ((a4.length + 1 : Nat) : Int) * 8 ≤ _; omega, by omega⟩, ?_⟩
            refine Wk.on ?_
            exact pag (V := [a0, a1, a2, a3, a4 ++ [(pos : Int)]]) [(10, 12)] ⟨by show pos + 1 ≤ g.n; omega, hput.symm, by simp only [List.length_cons, List.length_nil]; omega⟩ hp ⟨Or.inr (Or.inl (Or.inr ⟨rfl, rfl, rfl, rfl, row_len _ _ _, wk_tail _ _ q⟩)), trivial⟩ ⟨ru, ru, ru, ru, rw_ a4 pos, trivial⟩ (by simp)
        rcases l with _ | l
        · simp only [List.length_cons, List.length_nil] at hrp hs1 hVp h3
          rcases q with _ | q
          · omega
          simp only [putS, rwC, rwH, List.cons_append, List.nil_append, List.length_cons, List.length_nil, Nat.reduceAdd]
          have hg2 : (ints (wL w)).getD (0 + pos * 1) (.int .i64 0) = .int .i64 (5 : Int) := hget
          refine Wk.on ?_
          rw [decide_eq_true (show ((pos : Nat) : Int) < ((g.n : Nat) : Int) by omega)]
          refine Wk.on ?_
          rw [Int.toNat_natCast, hg2]
          refine Wk.on ?_
          refine Tr.draw (md := true) (dpl [] []) tok (by kernel_rfl) (by kernel_rfl) ?_
          refine Wk.on ?_
          exact pag (V := [a0, a1, a2, a3, a4, [(pos : Int)]]) [(11, 12)] ⟨by show pos + 1 ≤ g.n; omega, hput.symm, by simp only [List.length_cons, List.length_nil]; omega⟩ hp ⟨Or.inr (Or.inl (Or.inr ⟨rfl, rfl, rfl, rfl, rfl, rfl, wk_tail _ _ q⟩)), trivial⟩ ⟨ru, ru, ru, ru, ru, Or.inl rfl, trivial⟩ (by simp)
        simp only [List.length_cons, List.length_nil] at hrp
        omega
      rcases V with _ | ⟨a6, V⟩
      · rcases l with _ | l
        · simp only [List.length_cons, List.length_nil] at hrp hs1 hVp h3
          have hal : a0.length ≤ 8 := hVm _ (by simp)
          simp only [putS, rwC, rwH, List.cons_append, List.nil_append, List.length_cons, List.length_nil, Nat.reduceAdd]
          have hg2 : (ints (wL w)).getD (0 + pos * 1) (.int .i64 0) = .int .i64 (0 : Int) := hget
          refine Wk.on ?_
          rw [decide_eq_true (show ((pos : Nat) : Int) < ((g.n : Nat) : Int) by omega)]
          refine Wk.on ?_
          rw [Int.toNat_natCast, hg2]
          refine Wk.on ?_
          refine Tr.cap 5 0 1 rfl rfl fun c hc => ?_
          refine Tr.draw (md := true) (dpl [6] [6]) tok (by kernel_rfl) (by kernel_rfl) ?_
          refine Wk.on ?_
          refine ⟨⟨rfl, rfl, rfl, by rw [ints_len]; omega⟩, fun hin => ?_, fun hnew => ?_⟩
          · refine Wk.on ?_
            exact pag (V := [a0 ++ [(pos : Int)], a1, a2, a3, a4, a5]) [] ⟨by show pos + 1 ≤ g.n; omega, hput.symm, by simp only [List.length_cons, List.length_nil]; omega⟩ hp ⟨Or.inr (Or.inl (Or.inr ⟨⟨rfl, rfl, by simp⟩, rfl, rfl, rfl, rfl, rfl, wk_tail _ _ q⟩)), trivial⟩ ⟨ri a0 pos, ru, ru, ru, ru, ru, trivial⟩ (by simp)
          · refine ⟨⟨Nat.le_of_ble_eq_true rfl, by show ((a0.length + 1 : Nat) : Int) * 8 ≤ _; omega, by omega⟩, ?_⟩
            refine Wk.on ?_
            exact pag (V := [a0 ++ [(pos : Int)], a1, a2, a3, a4, a5]) [(6, 13)] ⟨by show pos + 1 ≤ g.n; omega, hput.symm, by simp only [List.length_cons, List.length_nil]; omega⟩ hp ⟨Or.inr (Or.inl (Or.inr ⟨row_len _ _ _, rfl, rfl, rfl, rfl, rfl, wk_tail _ _ q⟩)), trivial⟩ ⟨rw_ a0 pos, ru, ru, ru, ru, ru, trivial⟩ (by simp)
        rcases l with _ | l
        · simp only [List.length_cons, List.length_nil] at hrp hs1 hVp h3
          have hal : a1.length ≤ 8 := hVm _ (by simp)
          simp only [putS, rwC, rwH, List.cons_append, List.nil_append, List.length_cons, List.length_nil, Nat.reduceAdd]
          have hg2 : (ints (wL w)).getD (0 + pos * 1) (.int .i64 0) = .int .i64 (1 : Int) := hget
          refine Wk.on ?_
          rw [decide_eq_true (show ((pos : Nat) : Int) < ((g.n : Nat) : Int) by omega)]
          refine Wk.on ?_
          rw [Int.toNat_natCast, hg2]
          refine Wk.on ?_
          refine Tr.cap 5 1 1 rfl rfl fun c hc => ?_
          refine Tr.draw (md := true) (dpl [7] [7]) tok (by kernel_rfl) (by kernel_rfl) ?_
          refine Wk.on ?_
          refine ⟨⟨rfl, rfl, rfl, by rw [ints_len]; omega⟩, fun hin => ?_, fun hnew => ?_⟩
          · refine Wk.on ?_
            exact pag (V := [a0, a1 ++ [(pos : Int)], a2, a3, a4, a5]) [] ⟨by show pos + 1 ≤ g.n; omega, hput.symm, by simp only [List.length_cons, List.length_nil]; omega⟩ hp ⟨Or.inr (Or.inl (Or.inr ⟨rfl, ⟨rfl, rfl, by simp⟩, rfl, rfl, rfl, rfl, wk_tail _ _ q⟩)), trivial⟩ ⟨ru, ri a1 pos, ru, ru, ru, ru, trivial⟩ (by simp)
          · refine ⟨⟨Nat.le_of_ble_eq_true rfl, by show ((a1.length + 1 : Nat) : Int) * 8 ≤ _; omega, by omega⟩, ?_⟩
            refine Wk.on ?_
            exact pag (V := [a0, a1 ++ [(pos : Int)], a2, a3, a4, a5]) [(7, 13)] ⟨by show pos + 1 ≤ g.n; omega, hput.symm, by simp only [List.length_cons, List.length_nil]; omega⟩ hp ⟨Or.inr (Or.inl (Or.inr ⟨rfl, row_len _ _ _, rfl, rfl, rfl, rfl, wk_tail _ _ q⟩)), trivial⟩ ⟨ru, rw_ a1 pos, ru, ru, ru, ru, trivial⟩ (by simp)
        rcases l with _ | l
        · simp only [List.length_cons, List.length_nil] at hrp hs1 hVp h3
          have hal : a2.length ≤ 8 := hVm _ (by simp)
          simp only [putS, rwC, rwH, List.cons_append, List.nil_append, List.length_cons, List.length_nil, Nat.reduceAdd]
          have hg2 : (ints (wL w)).getD (0 + pos * 1) (.int .i64 0) = .int .i64 (2 : Int) := hget
          refine Wk.on ?_
          rw [decide_eq_true (show ((pos : Nat) : Int) < ((g.n : Nat) : Int) by omega)]
          refine Wk.on ?_
          rw [Int.toNat_natCast, hg2]
          refine Wk.on ?_
          refine Tr.cap 5 2 1 rfl rfl fun c hc => ?_
          refine Tr.draw (md := true) (dpl [8] [8]) tok (by kernel_rfl) (by kernel_rfl) ?_
          refine Wk.on ?_
          refine ⟨⟨rfl, rfl, rfl, by rw [ints_len]; omega⟩, fun hin => ?_, fun hnew => ?_⟩
          · refine Wk.on ?_
            exact pag (V := [a0, a1, a2 ++ [(pos : Int)], a3, a4, a5]) [] ⟨by show pos + 1 ≤ g.n; omega, hput.symm, by simp only [List.length_cons, List.length_nil]; omega⟩ hp ⟨Or.inr (Or.inl (Or.inr ⟨rfl, rfl, ⟨rfl, rfl, by simp⟩, rfl, rfl, rfl, wk_tail _ _ q⟩)), trivial⟩ ⟨ru, ru, ri a2 pos, ru, ru, ru, trivial⟩ (by simp)
          · refine ⟨⟨Nat.le_of_ble_eq_true rfl, by show ((a2.length + 1 : Nat) : Int) * 8 ≤ _; omega, by omega⟩, ?_⟩
            refine Wk.on ?_
            exact pag (V := [a0, a1, a2 ++ [(pos : Int)], a3, a4, a5]) [(8, 13)] ⟨by show pos + 1 ≤ g.n; omega, hput.symm, by simp only [List.length_cons, List.length_nil]; omega⟩ hp ⟨Or.inr (Or.inl (Or.inr ⟨rfl, rfl, row_len _ _ _, rfl, rfl, rfl, wk_tail _ _ q⟩)), trivial⟩ ⟨ru, ru, rw_ a2 pos, ru, ru, ru, trivial⟩ (by simp)
        rcases l with _ | l
        · simp only [List.length_cons, List.length_nil] at hrp hs1 hVp h3
          have hal : a3.length ≤ 8 := hVm _ (by simp)
          simp only [putS, rwC, rwH, List.cons_append, List.nil_append, List.length_cons, List.length_nil, Nat.reduceAdd]
          have hg2 : (ints (wL w)).getD (0 + pos * 1) (.int .i64 0) = .int .i64 (3 : Int) := hget
          refine Wk.on ?_
          rw [decide_eq_true (show ((pos : Nat) : Int) < ((g.n : Nat) : Int) by omega)]
          refine Wk.on ?_
          rw [Int.toNat_natCast, hg2]
          refine Wk.on ?_
          refine Tr.cap 5 3 1 rfl rfl fun c hc => ?_
          refine Tr.draw (md := true) (dpl [9] [9]) tok (by kernel_rfl) (by kernel_rfl) ?_
          refine Wk.on ?_
          refine ⟨⟨rfl, rfl, rfl, by rw [ints_len]; omega⟩, fun hin => ?_, fun hnew => ?_⟩
          · refine Wk.on ?_
            exact pag (V := [a0, a1, a2, a3 ++ [(pos : Int)], a4, a5]) [] ⟨by show pos + 1 ≤ g.n; omega, hput.symm, by simp only [List.length_cons, List.length_nil]; omega⟩ hp ⟨Or.inr (Or.inl (Or.inr ⟨rfl, rfl, rfl, ⟨rfl, rfl, by simp⟩, rfl, rfl, wk_tail _ _ q⟩)), trivial⟩ ⟨ru, ru, ru, ri a3 pos, ru, ru, trivial⟩ (by simp)
          · refine ⟨⟨Nat.le_of_ble_eq_true rfl, by show ((a3.length + 1 : Nat) : Int) * 8 ≤ _; omega, by omega⟩, ?_⟩
            refine Wk.on ?_
            exact pag (V := [a0, a1, a2, a3 ++ [(pos : Int)], a4, a5]) [(9, 13)] ⟨by show pos + 1 ≤ g.n; omega, hput.symm, by simp only [List.length_cons, List.length_nil]; omega⟩ hp ⟨Or.inr (Or.inl (Or.inr ⟨rfl, rfl, rfl, row_len _ _ _, rfl, rfl, wk_tail _ _ q⟩)), trivial⟩ ⟨ru, ru, ru, rw_ a3 pos, ru, ru, trivial⟩ (by simp)
        rcases l with _ | l
        · simp only [List.length_cons, List.length_nil] at hrp hs1 hVp h3
          have hal : a4.length ≤ 8 := hVm _ (by simp)
          simp only [putS, rwC, rwH, List.cons_append, List.nil_append, List.length_cons, List.length_nil, Nat.reduceAdd]
          have hg2 : (ints (wL w)).getD (0 + pos * 1) (.int .i64 0) = .int .i64 (4 : Int) := hget
          refine Wk.on ?_
          rw [decide_eq_true (show ((pos : Nat) : Int) < ((g.n : Nat) : Int) by omega)]
          refine Wk.on ?_
          rw [Int.toNat_natCast, hg2]
          refine Wk.on ?_
          refine Tr.cap 5 4 1 rfl rfl fun c hc => ?_
          refine Tr.draw (md := true) (dpl [10] [10]) tok (by kernel_rfl) (by kernel_rfl) ?_
          refine Wk.on ?_
          refine ⟨⟨rfl, rfl, rfl, by rw [ints_len]; omega⟩, fun hin => ?_, fun hnew => ?_⟩
          · refine Wk.on ?_
            exact pag (V := [a0, a1, a2, a3, a4 ++ [(pos : Int)], a5]) [] ⟨by show pos + 1 ≤ g.n; omega, hput.symm, by simp only [List.length_cons, List.length_nil]; omega⟩ hp ⟨Or.inr (Or.inl (Or.inr ⟨rfl, rfl, rfl, rfl, ⟨rfl, rfl, by simp⟩, rfl, wk_tail _ _ q⟩)), trivial⟩ ⟨ru, ru, ru, ru, ri a4 pos, ru, trivial⟩ (by simp)
          · refine ⟨⟨Nat.le_of_ble_eq_true rfl, by show ((a4.length + 1 : Nat) : Int) * 8 ≤ _; omega, by omega⟩, ?_⟩
            refine Wk.on ?_
            exact pag (V := [a0, a1, a2, a3, a4 ++ [(pos : Int)], a5]) [(10, 13)] ⟨by show pos + 1 ≤ g.n; omega, hput.symm, by simp only [List.length_cons, List.length_nil]; omega⟩ hp ⟨Or.inr (Or.inl (Or.inr ⟨rfl, rfl, rfl, rfl, row_len _ _ _, rfl, wk_tail _ _ q⟩)), trivial⟩ ⟨ru, ru, ru, ru, rw_ a4 pos, ru, trivial⟩ (by simp)
        rcases l with _ | l
        · simp only [List.length_cons, List.length_nil] at hrp hs1 hVp h3
          have hal : a5.length ≤ 8 := hVm _ (by simp)
          simp only [putS, rwC, rwH, List.cons_append, List.nil_append, List.length_cons, List.length_nil, Nat.reduceAdd]
          have hg2 : (ints (wL w)).getD (0 + pos * 1) (.int .i64 0) = .int .i64 (5 : Int) := hget
          refine Wk.on ?_
          rw [decide_eq_true (show ((pos : Nat) : Int) < ((g.n : Nat) : Int) by omega)]
          refine Wk.on ?_
          rw [Int.toNat_natCast, hg2]
          refine Wk.on ?_
          refine Tr.cap 5 5 1 rfl rfl fun c hc => ?_
          refine Tr.draw (md := true) (dpl [11] [11]) tok (by kernel_rfl) (by kernel_rfl) ?_
          refine Wk.on ?_
          refine ⟨⟨rfl, rfl, rfl, by rw [ints_len]; omega⟩, fun hin => ?_, fun hnew => ?_⟩
          · refine Wk.on ?_
            exact pag (V := [a0, a1, a2, a3, a4, a5 ++ [(pos : Int)]]) [] ⟨by show pos + 1 ≤ g.n; omega, hput.symm, by simp only [List.length_cons, List.length_nil]; omega⟩ hp ⟨Or.inr (Or.inl (Or.inr ⟨rfl, rfl, rfl, rfl, rfl, ⟨rfl, rfl, by simp⟩, wk_tail _ _ q⟩)), trivial⟩ ⟨ru, ru, ru, ru, ru, ri a5 pos, trivial⟩ (by simp)
          · refine ⟨⟨Nat.le_of_ble_eq_true rfl, by show ((a5.length + 1 : Nat) : Int) * 8 ≤ _; omega, by omega⟩, ?_⟩
            refine Wk.on ?_
            exact pag (V := [a0, a1, a2, a3, a4, a5 ++ [(pos : Int)]]) [(11, 13)] ⟨by show pos + 1 ≤ g.n; omega, hput.symm, by simp only [List.length_cons, List.length_nil]; omega⟩ hp ⟨Or.inr (Or.inl (Or.inr ⟨rfl, rfl, rfl, rfl, rfl, row_len _ _ _, wk_tail _ _ q⟩)), trivial⟩ ⟨ru, ru, ru, ru, ru, rw_ a5 pos, trivial⟩ (by simp)
        rcases l with _ | l
        · simp only [List.length_cons, List.length_nil] at hrp hs1 hVp h3
          rcases q with _ | q
          · omega
          simp only [putS, rwC, rwH, List.cons_append, List.nil_append, List.length_cons, List.length_nil, Nat.reduceAdd]
          have hg2 : (ints (wL w)).getD (0 + pos * 1) (.int .i64 0) = .int .i64 (6 : Int) := hget
          refine Wk.on ?_
          rw [decide_eq_true (show ((pos : Nat) : Int) < ((g.n : Nat) : Int) by omega)]
          refine Wk.on ?_
          rw [Int.toNat_natCast, hg2]
          refine Wk.on ?_
          refine Tr.draw (md := true) (dpl [] []) tok (by kernel_rfl) (by kernel_rfl) ?_
          refine Wk.on ?_
          exact pag (V := [a0, a1, a2, a3, a4, a5, [(pos : Int)]]) [(12, 13)] ⟨by show pos + 1 ≤ g.n; omega, hput.symm, by simp only [List.length_cons, List.length_nil]; omega⟩ hp ⟨Or.inr (Or.inl (Or.inr ⟨rfl, rfl, rfl, rfl, rfl, rfl, rfl, wk_tail _ _ q⟩)), trivial⟩ ⟨ru, ru, ru, ru, ru, ru, Or.inl rfl, trivial⟩ (by simp)
        simp only [List.length_cons, List.length_nil] at hrp
        omega
      rcases V with _ | ⟨a7, V⟩
      · rcases l with _ | l
        · simp only [List.length_cons, List.length_nil] at hrp hs1 hVp h3
          have hal : a0.length ≤ 8 := hVm _ (by simp)
          simp only [putS, rwC, rwH, List.cons_append, List.nil_append, List.length_cons, List.length_nil, Nat.reduceAdd]
          have hg2 : (ints (wL w)).getD (0 + pos * 1) (.int .i64 0) = .int .i64 (0 : Int) := hget
          refine Wk.on ?_
          rw [decide_eq_true (show ((pos : Nat) : Int) < ((g.n : Nat) : Int) by omega)]
          refine Wk.on ?_
          rw [Int.toNat_natCast, hg2]
          refine Wk.on ?_
          refine Tr.cap 5 0 1 rfl rfl fun c hc => ?_
          refine Tr.draw (md := true) (dpl [6] [6]) tok (by kernel_rfl) (by kernel_rfl) ?_
          refine Wk.on ?_
          refine ⟨⟨rfl, rfl, rfl, by rw [ints_len]; omega⟩, fun hin => ?_, fun hnew => ?_⟩
          · refine Wk.on ?_
            exact pag (V := [a0 ++ [(pos : Int)], a1, a2, a3, a4, a5, a6]) [] ⟨by show pos + 1 ≤ g.n; omega, hput.symm, by simp only [List.length_cons, List.length_nil]; omega⟩ hp ⟨Or.inr (Or.inl (Or.inr ⟨⟨rfl, rfl, by simp⟩, rfl, rfl, rfl, rfl, rfl, rfl, wk_tail _ _ q⟩)), trivial⟩ ⟨ri a0 pos, ru, ru, ru, ru, ru, ru, trivial⟩ (by simp)
          · refine ⟨⟨Nat.le_of_ble_eq_true rfl, by show ((a0.length + 1 : Nat) : Int) * 8 ≤ _; omega, by omega⟩, ?_⟩
            refine Wk.on ?_
            exact pag (V := [a0 ++ [(pos : Int)], a1, a2, a3, a4, a5, a6]) [(6, 14)] ⟨by show pos + 1 ≤ g.n; omega, hput.symm, by simp only [List.length_cons, List.length_nil]; omega⟩ hp ⟨Or.inr (Or.inl (Or.inr ⟨row_len _ _ _, rfl, rfl, rfl, rfl, rfl, rfl, wk_tail _ _ q⟩)), trivial⟩ ⟨rw_ a0 pos, ru, ru, ru, ru, ru, ru, trivial⟩ (by simp)
        rcases l with _ | l
        · simp only [List.length_cons, List.length_nil] at hrp hs1 hVp h3
          have hal : a1.length ≤ 8 := hVm _ (by simp)
          simp only [putS, rwC, rwH, List.cons_append, List.nil_append, List.length_cons, List.length_nil, Nat.reduceAdd]
          have hg2 : (ints (wL w)).getD (0 + pos * 1) (.int .i64 0) = .int .i64 (1 : Int) := hget
          refine Wk.on ?_
          rw [decide_eq_true (show ((pos : Nat) : Int) < ((g.n : Nat) : Int) by omega)]
          refine Wk.on ?_
          rw [Int.toNat_natCast, hg2]
          refine Wk.on ?_
          refine Tr.cap 5 1 1 rfl rfl fun c hc => ?_
          refine Tr.draw (md := true) (dpl [7] [7]) tok (by kernel_rfl) (by kernel_rfl) ?_
          refine Wk.on ?_
          refine ⟨⟨rfl, rfl, rfl, by rw [ints_len]; omega⟩, fun hin => ?_, fun hnew => ?_⟩
          · refine Wk.on ?_
            exact pag (V := [a0, a1 ++ [(pos : Int)], a2, a3, a4, a5, a6]) [] ⟨by show pos + 1 ≤ g.n; omega, hput.symm, by simp only [List.length_cons, List.length_nil]; omega⟩ hp ⟨Or.inr (Or.inl (Or.inr ⟨rfl, ⟨rfl, rfl, by simp⟩, rfl, rfl, rfl, rfl, rfl, wk_tail _ _ q⟩)), trivial⟩ ⟨ru, ri a1 pos, ru, ru, ru, ru, ru, trivial⟩ (by simp)
          · refine ⟨⟨Nat.le_of_ble_eq_true rfl, by show ((a1.length + 1 : Nat) : Int) * 8 ≤ _; omega, by omega⟩, ?_⟩
            refine Wk.on ?_
            exact pag (V := [a0, a1 ++ [(pos : Int)], a2, a3, a4, a5, a6]) [(7, 14)] ⟨by show pos + 1 ≤ g.n; omega, hput.symm, by simp only [List.length_cons, List.length_nil]; omega⟩ hp ⟨Or.inr (Or.inl (Or.inr ⟨rfl, row_len _ _ _, rfl, rfl, rfl, rfl, rfl, wk_tail _ _ q⟩)), trivial⟩ ⟨ru, rw_ a1 pos, ru, ru, ru, ru, ru, trivial⟩ (by simp)
        rcases l with _ | l
        · simp only [List.length_cons, List.length_nil] at hrp hs1 hVp h3
          have hal : a2.length ≤ 8 := hVm _ (by simp)
          simp only [putS, rwC, rwH, List.cons_append, List.nil_append, List.length_cons, List.length_nil, Nat.reduceAdd]
          have hg2 : (ints (wL w)).getD (0 + pos * 1) (.int .i64 0) = .int .i64 (2 : Int) := hget
          refine Wk.on ?_
          rw [decide_eq_true (show ((pos : Nat) : Int) < ((g.n : Nat) : Int) by omega)]
          refine Wk.on ?_
          rw [Int.toNat_natCast, hg2]
          refine Wk.on ?_
          refine Tr.cap 5 2 1 rfl rfl fun c hc => ?_
          refine Tr.draw (md := true) (dpl [8] [8]) tok (by kernel_rfl) (by kernel_rfl) ?_
          refine Wk.on ?_
          refine ⟨⟨rfl, rfl, rfl, by rw [ints_len]; omega⟩, fun hin => ?_, fun hnew => ?_⟩
          · refine Wk.on ?_
            exact pag (V := [a0, a1, a2 ++ [(pos : Int)], a3, a4, a5, a6]) [] ⟨by show pos + 1 ≤ g.n; omega, hput.symm, by simp only [List.length_cons, List.length_nil]; omega⟩ hp ⟨Or.inr (Or.inl (Or.inr ⟨rfl, rfl, ⟨rfl, rfl, by simp⟩, rfl, rfl, rfl, rfl, wk_tail _ _ q⟩)), trivial⟩ ⟨ru, ru, ri a2 pos, ru, ru, ru, ru, trivial⟩ (by simp)
          · refine ⟨⟨Nat.le_of_ble_eq_true rfl, by show ((a2.length + 1 : Nat) : Int) * 8 ≤ _; omega, by omega⟩, ?_⟩
            refine Wk.on ?_
            exact pag (V := [a0, a1, a2 ++ [(pos : Int)], a3, a4, a5, a6]) [(8, 14)] ⟨by show pos + 1 ≤ g.n; omega, hput.symm, by simp only [List.length_cons, List.length_nil]; omega⟩ hp ⟨Or.inr (Or.inl (Or.inr ⟨rfl, rfl, row_len _ _ _, rfl, rfl, rfl, rfl, wk_tail _ _ q⟩)), trivial⟩ ⟨ru, ru, rw_ a2 pos, ru, ru, ru, ru, trivial⟩ (by simp)
        rcases l with _ | l
        · simp only [List.length_cons, List.length_nil] at hrp hs1 hVp h3
          have hal : a3.length ≤ 8 := hVm _ (by simp)
          simp only [putS, rwC, rwH, List.cons_append, List.nil_append, List.length_cons, List.length_nil, Nat.reduceAdd]
          have hg2 : (ints (wL w)).getD (0 + pos * 1) (.int .i64 0) = .int .i64 (3 : Int) := hget
          refine Wk.on ?_
          rw [decide_eq_true (show ((pos : Nat) : Int) < ((g.n : Nat) : Int) by omega)]
          refine Wk.on ?_
          rw [Int.toNat_natCast, hg2]
          refine Wk.on ?_
          refine Tr.cap 5 3 1 rfl rfl fun c hc => ?_
          refine Tr.draw (md := true) (dpl [9] [9]) tok (by kernel_rfl) (by kernel_rfl) ?_
          refine Wk.on ?_
          refine ⟨⟨rfl, rfl, rfl, by rw [ints_len]; omega⟩, fun hin => ?_, fun hnew => ?_⟩
          · refine Wk.on ?_
            exact pag (V := [a0, a1, a2, a3 ++ [(pos : Int)], a4, a5, a6]) [] ⟨by show pos + 1 ≤ g.n; omega, hput.symm, by simp only [List.length_cons, List.length_nil]; omega⟩ hp ⟨Or.inr (Or.inl (Or.inr ⟨rfl, rfl, rfl, ⟨rfl, rfl, by simp⟩, rfl, rfl, rfl, wk_tail _ _ q⟩)), trivial⟩ ⟨ru, ru, ru, ri a3 pos, ru, ru, ru, trivial⟩ (by simp)
          · refine ⟨⟨Nat.le_of_ble_eq_true rfl, by show ((a3.length + 1 : Nat) : Int) * 8 ≤ _; omega, by omega⟩, ?_⟩
            refine Wk.on ?_
            exact pag (V := [a0, a1, a2, a3 ++ [(pos : Int)], a4, a5, a6]) [(9, 14)] ⟨by show pos + 1 ≤ g.n; omega, hput.symm, by simp only [List.length_cons, List.length_nil]; omega⟩ hp ⟨Or.inr (Or.inl (Or.inr ⟨rfl, rfl, rfl, row_len _ _ _, rfl, rfl, rfl, wk_tail _ _ q⟩)), trivial⟩ ⟨ru, ru, ru, rw_ a3 pos, ru, ru, ru, trivial⟩ (by simp)
        rcases l with _ | l
        · simp only [List.length_cons, List.length_nil] at hrp hs1 hVp h3
          have hal : a4.length ≤ 8 := hVm _ (by simp)
          simp only [putS, rwC, rwH, List.cons_append, List.nil_append, List.length_cons, List.length_nil, Nat.reduceAdd]
          have hg2 : (ints (wL w)).getD (0 + pos * 1) (.int .i64 0) = .int .i64 (4 : Int) := hget
          refine Wk.on ?_
          rw [decide_eq_true (show ((pos : Nat) : Int) < ((g.n : Nat) : Int) by omega)]
          refine Wk.on ?_
          rw [Int.toNat_natCast, hg2]
          refine Wk.on ?_
          refine Tr.cap 5 4 1 rfl rfl fun c hc => ?_
          refine Tr.draw (md := true) (dpl [10] [10]) tok (by kernel_rfl) (by kernel_rfl) ?_
          refine Wk.on ?_
          refine ⟨⟨rfl, rfl, rfl, by rw [ints_len]; omega⟩, fun hin => ?_, fun hnew => ?_⟩
          · refine Wk.on ?_
            exact pag (V := [a0, a1, a2, a3, a4 ++ [(pos : Int)], a5, a6]) [] ⟨by show pos + 1 ≤ g.n; omega, hput.symm, by simp only [List.length_cons, List.length_nil]; omega⟩ hp ⟨Or.inr (Or.inl (Or.inr ⟨rfl, rfl, rfl, rfl, ⟨rfl, rfl, by simp⟩, rfl, rfl, wk_tail _ _ q⟩)), trivial⟩ ⟨ru, ru, ru, ru, ri a4 pos, ru, ru, trivial⟩ (by simp)
          · refine ⟨⟨Nat.le_of_ble_eq_true rfl, by show ((a4.length + 1 : Nat) : Int) * 8 ≤ _; omega, by omega⟩, ?_⟩
            refine Wk.on ?_
            exact pag (V := [a0, a1, a2, a3, a4 ++ [(pos : Int)], a5, a6]) [(10, 14)] ⟨by show pos + 1 ≤ g.n; omega, hput.symm, by simp only [List.length_cons, List.length_nil]; omega⟩ hp ⟨Or.inr (Or.inl (Or.inr ⟨rfl, rfl, rfl, rfl, row_len _ _ _, rfl, rfl, wk_tail _ _ q⟩)), trivial⟩ ⟨ru, ru, ru, ru, rw_ a4 pos, ru, ru, trivial⟩ (by simp)
        rcases l with _ | l
        · simp only [List.length_cons, List.length_nil] at hrp hs1 hVp h3
          have hal : a5.length ≤ 8 := hVm _ (by simp)
          simp only [putS, rwC, rwH, List.cons_append, List.nil_append, List.length_cons, List.length_nil, Nat.reduceAdd]
          have hg2 : (ints (wL w)).getD (0 + pos * 1) (.int .i64 0) = .int .i64 (5 : Int) := hget
          refine Wk.on ?_
          rw [decide_eq_true (show ((pos : Nat) : Int) < ((g.n : Nat) : Int) by omega)]
          refine Wk.on ?_
          rw [Int.toNat_natCast, hg2]
          refine Wk.on ?_
          refine Tr.cap 5 5 1 rfl rfl fun c hc => ?_
          refine Tr.draw (md := true) (dpl [11] [11]) tok (by kernel_rfl) (by kernel_rfl) ?_
          refine Wk.on ?_
          refine ⟨⟨rfl, rfl, rfl, by rw [ints_len]; omega⟩, fun hin => ?_, fun hnew => ?_⟩
          · refine Wk.on ?_
            exact pag (V := [a0, a1, a2, a3, a4, a5 ++ [(pos : Int)], a6]) [] ⟨by show pos + 1 ≤ g.n; omega, hput.symm, by simp only [List.length_cons, List.length_nil]; omega⟩ hp ⟨Or.inr (Or.inl (Or.inr ⟨rfl, rfl, rfl, rfl, rfl, ⟨rfl, rfl, by simp⟩, rfl, wk_tail _ _ q⟩)), trivial⟩ ⟨ru, ru, ru, ru, ru, ri a5 pos, ru, trivial⟩ (by simp)
          · refine ⟨⟨Nat.le_of_ble_eq_true rfl, by show ((a5.length + 1 : Nat) : Int) * 8 ≤ _; omega, by omega⟩, ?_⟩
            refine Wk.on ?_
            exact pag (V := [a0, a1, a2, a3, a4, a5 ++ [(pos : Int)], a6]) [(11, 14)] ⟨by show pos + 1 ≤ g.n; omega, hput.symm, by simp only [List.length_cons, List.length_nil]; omega⟩ hp ⟨Or.inr (Or.inl (Or.inr ⟨rfl, rfl, rfl, rfl, rfl, row_len _ _ _, rfl, wk_tail _ _ q⟩)), trivial⟩ ⟨ru, ru, ru, ru, ru, rw_ a5 pos, ru, trivial⟩ (by simp)
        rcases l with _ | l
        · simp only [List.length_cons, List.length_nil] at hrp hs1 hVp h3
          have hal : a6.length ≤ 8 := hVm _ (by simp)
          simp only [putS, rwC, rwH, List.cons_append, List.nil_append, List.length_cons, List.length_nil, Nat.reduceAdd]
          have hg2 : (ints (wL w)).getD (0 + pos * 1) (.int .i64 0) = .int .i64 (6 : Int) := hget
          refine Wk.on ?_
          rw [decide_eq_true (show ((pos : Nat) : Int) < ((g.n : Nat) : Int) by omega)]
          refine Wk.on ?_
          rw [Int.toNat_natCast, hg2]
          refine Wk.on ?_
          refine Tr.cap 5 6 1 rfl rfl fun c hc => ?_
          refine Tr.draw (md := true) (dpl [12] [12]) tok (by kernel_rfl) (by kernel_rfl) ?_
          refine Wk.on ?_
          refine ⟨⟨rfl, rfl, rfl, by rw [ints_len]; omega⟩, fun hin => ?_, fun hnew => ?_⟩
          · refine Wk.on ?_
            exact pag (V := [a0, a1, a2, a3, a4, a5, a6 ++ [(pos : Int)]]) [] ⟨by show pos + 1 ≤ g.n; omega, hput.symm, by simp only [List.length_cons, List.length_nil]; omega⟩ hp ⟨Or.inr (Or.inl (Or.inr ⟨rfl, rfl, rfl, rfl, rfl, rfl, ⟨rfl, rfl, by simp⟩, wk_tail _ _ q⟩)), trivial⟩ ⟨ru, ru, ru, ru, ru, ru, ri a6 pos, trivial⟩ (by simp)
          · refine ⟨⟨Nat.le_of_ble_eq_true rfl, by show ((a6.length + 1 : Nat) : Int) * 8 ≤ _; omega, by omega⟩, ?_⟩
            refine Wk.on ?_
            exact pag (V := [a0, a1, a2, a3, a4, a5, a6 ++ [(pos : Int)]]) [(12, 14)] ⟨by show pos + 1 ≤ g.n; omega, hput.symm, by simp only [List.length_cons, List.length_nil]; omega⟩ hp ⟨Or.inr (Or.inl (Or.inr ⟨rfl, rfl, rfl, rfl, rfl, rfl, row_len _ _ _, wk_tail _ _ q⟩)), trivial⟩ ⟨ru, ru, ru, ru, ru, ru, rw_ a6 pos, trivial⟩ (by simp)
        rcases l with _ | l
        · simp only [List.length_cons, List.length_nil] at hrp hs1 hVp h3
          rcases q with _ | q
          · omega
          simp only [putS, rwC, rwH, List.cons_append, List.nil_append, List.length_cons, List.length_nil, Nat.reduceAdd]
          have hg2 : (ints (wL w)).getD (0 + pos * 1) (.int .i64 0) = .int .i64 (7 : Int) := hget
          refine Wk.on ?_
          rw [decide_eq_true (show ((pos : Nat) : Int) < ((g.n : Nat) : Int) by omega)]
          refine Wk.on ?_
          rw [Int.toNat_natCast, hg2]
          refine Wk.on ?_
          refine Tr.draw (md := true) (dpl [] []) tok (by kernel_rfl) (by kernel_rfl) ?_
          refine Wk.on ?_
          exact pag (V := [a0, a1, a2, a3, a4, a5, a6, [(pos : Int)]]) [(13, 14)] ⟨by show pos + 1 ≤ g.n; omega, hput.symm, by simp only [List.length_cons, List.length_nil]; omega⟩ hp ⟨Or.inr (Or.inl (Or.inr ⟨rfl, rfl, rfl, rfl, rfl, rfl, rfl, rfl, wk_tail _ _ q⟩)), trivial⟩ ⟨ru, ru, ru, ru, ru, ru, ru, Or.inl rfl, trivial⟩ (by simp)
        simp only [List.length_cons, List.length_nil] at hrp
        omega
      simp only [List.length_cons] at hVp
      omega
    · obtain rfl : pos = g.n := by omega
      have hV8 : V.length ≤ 8 := by omega
      have hVM : V.length = M := by rw [h2, LV_len, hM]
      obtain rfl : q = 0 := by omega
      rw [← h2]
      refine Wk.on ?_
      rw [decide_eq_false (show ¬ ((g.n : Nat) : Int) < ((g.n : Nat) : Int) by omega)]
      refine Wk.on ?_
      intro _
      clear h2 hfin hb2 hc10 hsucc hM hr
      rcases V with _ | ⟨a0, V⟩
      · simp at hVM; omega
      rcases V with _ | ⟨a1, V⟩
      · simp at hVM; omega
      rcases V with _ | ⟨a2, V⟩
      · refine Wk.on ?_
        exact AH.Fin.new [5, 6, 7, 8, 9, 10, 11, 12, 13] _ _ ⟨rfl, rfl, rfl⟩ rfl ⟨congrArg (fun x => some (ABlk.own x)) (ints_ren _ _).symm, rfl, rfl, congrArg (fun x => some (ABlk.row 3 1 x)) (ints_ren _ _).symm, congrArg (fun x => some (ABlk.row 3 1 x)) (ints_ren _ _).symm, trivial⟩ rfl (by simp [tupA, hpLt, tmLt, AV.lt, AE.lt, AC.lt, LL_cons, LL_nil, idOk, ABlk.lt, ints_LL, GB, tab64_LL, gC, wB, giC, noneB, putB, putS, nils_LL, rwC, rwH, List.replicate]) (by simp [tupA, hpLt, tmLt, AV.lt, AE.lt, AC.lt, LL_cons, LL_nil, idOk, ABlk.lt, ints_LL, GB, tab64_LL, gC, wB, giC, noneB, putB, putS, nils_LL, rwC, rwH, List.replicate])
      rcases V with _ | ⟨a3, V⟩
      · refine Wk.on ?_
        exact AH.Fin.new [5, 6, 7, 8, 9, 10, 11, 12, 13] _ _ ⟨rfl, rfl, rfl⟩ rfl ⟨congrArg (fun x => some (ABlk.own x)) (ints_ren _ _).symm, rfl, rfl, congrArg (fun x => some (ABlk.row 3 1 x)) (ints_ren _ _).symm, congrArg (fun x => some (ABlk.row 3 1 x)) (ints_ren _ _).symm, congrArg (fun x => some (ABlk.row 3 1 x)) (ints_ren _ _).symm, trivial⟩ rfl (by simp [tupA, hpLt, tmLt, AV.lt, AE.lt, AC.lt, LL_cons, LL_nil, idOk, ABlk.lt, ints_LL, GB, tab64_LL, gC, wB, giC, noneB, putB, putS, nils_LL, rwC, rwH, List.replicate]) (by simp [tupA, hpLt, tmLt, AV.lt, AE.lt, AC.lt, LL_cons, LL_nil, idOk, ABlk.lt, ints_LL, GB, tab64_LL, gC, wB, giC, noneB, putB, putS, nils_LL, rwC, rwH, List.replicate])
      rcases V with _ | ⟨a4, V⟩
      · refine Wk.on ?_
        exact AH.Fin.new [5, 6, 7, 8, 9, 10, 11, 12, 13] _ _ ⟨rfl, rfl, rfl⟩ rfl ⟨congrArg (fun x => some (ABlk.own x)) (ints_ren _ _).symm, rfl, rfl, congrArg (fun x => some (ABlk.row 3 1 x)) (ints_ren _ _).symm, congrArg (fun x => some (ABlk.row 3 1 x)) (ints_ren _ _).symm, congrArg (fun x => some (ABlk.row 3 1 x)) (ints_ren _ _).symm, congrArg (fun x => some (ABlk.row 3 1 x)) (ints_ren _ _).symm, trivial⟩ rfl (by simp [tupA, hpLt, tmLt, AV.lt, AE.lt, AC.lt, LL_cons, LL_nil, idOk, ABlk.lt, ints_LL, GB, tab64_LL, gC, wB, giC, noneB, putB, putS, nils_LL, rwC, rwH, List.replicate]) (by simp [tupA, hpLt, tmLt, AV.lt, AE.lt, AC.lt, LL_cons, LL_nil, idOk, ABlk.lt, ints_LL, GB, tab64_LL, gC, wB, giC, noneB, putB, putS, nils_LL, rwC, rwH, List.replicate])
      rcases V with _ | ⟨a5, V⟩
      · refine Wk.on ?_
        exact AH.Fin.new [5, 6, 7, 8, 9, 10, 11, 12, 13] _ _ ⟨rfl, rfl, rfl⟩ rfl ⟨congrArg (fun x => some (ABlk.own x)) (ints_ren _ _).symm, rfl, rfl, congrArg (fun x => some (ABlk.row 3 1 x)) (ints_ren _ _).symm, congrArg (fun x => some (ABlk.row 3 1 x)) (ints_ren _ _).symm, congrArg (fun x => some (ABlk.row 3 1 x)) (ints_ren _ _).symm, congrArg (fun x => some (ABlk.row 3 1 x)) (ints_ren _ _).symm, congrArg (fun x => some (ABlk.row 3 1 x)) (ints_ren _ _).symm, trivial⟩ rfl (by simp [tupA, hpLt, tmLt, AV.lt, AE.lt, AC.lt, LL_cons, LL_nil, idOk, ABlk.lt, ints_LL, GB, tab64_LL, gC, wB, giC, noneB, putB, putS, nils_LL, rwC, rwH, List.replicate]) (by simp [tupA, hpLt, tmLt, AV.lt, AE.lt, AC.lt, LL_cons, LL_nil, idOk, ABlk.lt, ints_LL, GB, tab64_LL, gC, wB, giC, noneB, putB, putS, nils_LL, rwC, rwH, List.replicate])
      rcases V with _ | ⟨a6, V⟩
      · refine Wk.on ?_
        exact AH.Fin.new [5, 6, 7, 8, 9, 10, 11, 12, 13] _ _ ⟨rfl, rfl, rfl⟩ rfl ⟨congrArg (fun x => some (ABlk.own x)) (ints_ren _ _).symm, rfl, rfl, congrArg (fun x => some (ABlk.row 3 1 x)) (ints_ren _ _).symm, congrArg (fun x => some (ABlk.row 3 1 x)) (ints_ren _ _).symm, congrArg (fun x => some (ABlk.row 3 1 x)) (ints_ren _ _).symm, congrArg (fun x => some (ABlk.row 3 1 x)) (ints_ren _ _).symm, congrArg (fun x => some (ABlk.row 3 1 x)) (ints_ren _ _).symm, congrArg (fun x => some (ABlk.row 3 1 x)) (ints_ren _ _).symm, trivial⟩ rfl (by simp [tupA, hpLt, tmLt, AV.lt, AE.lt, AC.lt, LL_cons, LL_nil, idOk, ABlk.lt, ints_LL, GB, tab64_LL, gC, wB, giC, noneB, putB, putS, nils_LL, rwC, rwH, List.replicate]) (by simp [tupA, hpLt, tmLt, AV.lt, AE.lt, AC.lt, LL_cons, LL_nil, idOk, ABlk.lt, ints_LL, GB, tab64_LL, gC, wB, giC, noneB, putB, putS, nils_LL, rwC, rwH, List.replicate])
      rcases V with _ | ⟨a7, V⟩
      · refine Wk.on ?_
        exact AH.Fin.new [5, 6, 7, 8, 9, 10, 11, 12, 13] _ _ ⟨rfl, rfl, rfl⟩ rfl ⟨congrArg (fun x => some (ABlk.own x)) (ints_ren _ _).symm, rfl, rfl, congrArg (fun x => some (ABlk.row 3 1 x)) (ints_ren _ _).symm, congrArg (fun x => some (ABlk.row 3 1 x)) (ints_ren _ _).symm, congrArg (fun x => some (ABlk.row 3 1 x)) (ints_ren _ _).symm, congrArg (fun x => some (ABlk.row 3 1 x)) (ints_ren _ _).symm, congrArg (fun x => some (ABlk.row 3 1 x)) (ints_ren _ _).symm, congrArg (fun x => some (ABlk.row 3 1 x)) (ints_ren _ _).symm, congrArg (fun x => some (ABlk.row 3 1 x)) (ints_ren _ _).symm, trivial⟩ rfl (by simp [tupA, hpLt, tmLt, AV.lt, AE.lt, AC.lt, LL_cons, LL_nil, idOk, ABlk.lt, ints_LL, GB, tab64_LL, gC, wB, giC, noneB, putB, putS, nils_LL, rwC, rwH, List.replicate]) (by simp [tupA, hpLt, tmLt, AV.lt, AE.lt, AC.lt, LL_cons, LL_nil, idOk, ABlk.lt, ints_LL, GB, tab64_LL, gC, wB, giC, noneB, putB, putS, nils_LL, rwC, rwH, List.replicate])
      rcases V with _ | ⟨a8, V⟩
      · refine Wk.on ?_
        exact AH.Fin.new [5, 6, 7, 8, 9, 10, 11, 12, 13] _ _ ⟨rfl, rfl, rfl⟩ rfl ⟨congrArg (fun x => some (ABlk.own x)) (ints_ren _ _).symm, rfl, rfl, congrArg (fun x => some (ABlk.row 3 1 x)) (ints_ren _ _).symm, congrArg (fun x => some (ABlk.row 3 1 x)) (ints_ren _ _).symm, congrArg (fun x => some (ABlk.row 3 1 x)) (ints_ren _ _).symm, congrArg (fun x => some (ABlk.row 3 1 x)) (ints_ren _ _).symm, congrArg (fun x => some (ABlk.row 3 1 x)) (ints_ren _ _).symm, congrArg (fun x => some (ABlk.row 3 1 x)) (ints_ren _ _).symm, congrArg (fun x => some (ABlk.row 3 1 x)) (ints_ren _ _).symm, congrArg (fun x => some (ABlk.row 3 1 x)) (ints_ren _ _).symm, trivial⟩ rfl (by simp [tupA, hpLt, tmLt, AV.lt, AE.lt, AC.lt, LL_cons, LL_nil, idOk, ABlk.lt, ints_LL, GB, tab64_LL, gC, wB, giC, noneB, putB, putS, nils_LL, rwC, rwH, List.replicate]) (by simp [tupA, hpLt, tmLt, AV.lt, AE.lt, AC.lt, LL_cons, LL_nil, idOk, ABlk.lt, ints_LL, GB, tab64_LL, gC, wB, giC, noneB, putB, putS, nils_LL, rwC, rwH, List.replicate])
      simp only [List.length_cons] at hV8
      omega
end Go.Proofs.YtfphkpdobbffeaaDoor

/-
  Contract: put, the search for a barrier.
-/
namespace Go.Proofs.YtfphkpdobbffeaaDoor
open Go Go.AH
set_option maxRecDepth 100000
set_option maxHeartbeats 4000000

def tvC (V : List (List Int)) : List AC := V.map fun a => .tv (.leaf 1 a.length a)
theorem tvC_ren (q : Nat → Nat) (V : List (List Int)) : (tvC V).map (AC.ren q) = tvC V := by
  unfold tvC; rw [List.map_map]; rfl
theorem tvC_LL (n : Nat) (V : List (List Int)) : LL n (tvC V) ↔ True := by
  refine ⟨fun _ => trivial, fun _ x hx => ?_⟩
  obtain ⟨a, _, rfl⟩ := List.mem_map.1 hx
  trivial
instance : RenC tab64 := ⟨tab64_ren, fun n => by simp [tab64_LL]⟩
instance (V : List (List Int)) : RenC (tvC V) := ⟨fun q => tvC_ren q V, fun n => (tvC_LL n V).2 trivial⟩
theorem crN_congr {u v : Nat → Nat} {n : Nat} {ws : List (Nat × Nat)} (h : ∀ j, j < n → u j = v j) (hw : ∀ p ∈ ws, p.1 < n ∧ p.2 < n) : crN u ws = crN v ws := by
  refine List.countP_congr fun p hp => ?_
  obtain ⟨h1, h2⟩ := hw p hp
  rw [h _ h1, h _ h2]
theorem ws_ends {g : Gm} (hg : g.ok) : ∀ p ∈ g.ws, p.1 < g.n ∧ p.2 < g.n := fun p hp => by
  obtain ⟨i, hi, rfl⟩ := List.getElem_of_mem hp
  have := hg.ends i hi
  rw [List.getD_eq_getElem?_getD, List.getElem?_eq_getElem hi] at this
  simp only [Option.getD_some] at this
  omega
theorem Bar_congr {g : Gm} (hg : g.ok) {u v : Nat → Nat} (h : ∀ j, j < g.n → u j = v j) : Bar g u ↔ Bar g v := by
  unfold Bar
  rw [mx_congr h, crN_congr h (ws_ends hg)]
end Go.Proofs.YtfphkpdobbffeaaDoor

/-
  Contract: put, the search for a barrier: the recursion.
-/
namespace Go.Proofs.YtfphkpdobbffeaaDoor
open Go Go.AH
set_option maxRecDepth 100000
set_option maxHeartbeats 4000000

theorem updW_lt {w : Nat → Nat} {i k j : Nat} (h : j < i) : updW w i k j = w j := if_neg (by omega)
theorem updW_eq {w : Nat → Nat} {i k : Nat} : updW w i k i = k := if_pos rfl
end Go.Proofs.YtfphkpdobbffeaaDoor

/-
  Contract: Barrier.
-/
namespace Go.Proofs.YtfphkpdobbffeaaDoor
open Go Go.AH
set_option maxRecDepth 100000
set_option maxHeartbeats 4000000

def w0 : Nat → Nat := fun _ => 0
end Go.Proofs.YtfphkpdobbffeaaDoor

/-
  Plain: rows under numbers one after the other, in a heap.
-/
namespace Go.Proofs.YtfphkpdobbffeaaDoor
open Go Go.AH

def rg (b : Nat) : List (List Int) → List (Nat × ABlk)
  | [] => []
  | a :: V => (b, .row 3 1 (ints a)) :: rg (b + 1) V
def rgC (b : Nat) : List (List Int) → List AC
  | [] => []
  | a :: V => .row b a.length :: rgC (b + 1) V
theorem rwH_rg : ∀ (V : List (List Int)) (j : Nat), rwH j V = rg (6 + j) V
  | [], _ => rfl
  | a :: V, j => by rw [rwH, rg, rwH_rg V (j + 1)]; rfl
theorem rwC_rg : ∀ (V : List (List Int)) (j : Nat), rwC j V = rgC (6 + j) V
  | [], _ => rfl
  | a :: V, j => by rw [rwC, rgC, rwC_rg V (j + 1)]; rfl
theorem rg_mem : ∀ {V : List (List Int)} {b : Nat} {p : Nat × ABlk}, p ∈ rg b V → b ≤ p.1 ∧ p.1 < b + V.length ∧ ∃ a, p.2 = .row 3 1 (ints a)
  | [], b, p, h => absurd h List.not_mem_nil
  | a :: V, b, p, h => by
    rcases List.mem_cons.1 h with rfl | h
    · exact ⟨Nat.le_refl _, by simp, a, rfl⟩
    · obtain ⟨h1, h2, h3⟩ := rg_mem h
      exact ⟨by omega, by simp only [List.length_cons]; omega, h3⟩
theorem rg_nodup : ∀ (V : List (List Int)) (b : Nat), ((rg b V).map Prod.fst).Nodup
  | [], _ => List.nodup_nil
  | a :: V, b => by
    rw [rg, List.map_cons, List.nodup_cons]
    refine ⟨fun h => ?_, rg_nodup V (b + 1)⟩
    obtain ⟨p, hp, e⟩ := List.mem_map.1 h
    have := (rg_mem hp).1
    have e : p.1 = b := e
    omega
theorem rg_lk {V : List (List Int)} {b : Nat} {p : Nat × ABlk} (h : p ∈ rg b V) : lk (rg b V).reverse p.1 = some p.2 := by
  refine lk_mem ?_ (List.mem_reverse.2 h)
  rw [List.map_reverse]
  exact (List.reverse_perm _).nodup_iff.2 (rg_nodup V b)
theorem up_new {β : Type} {i : Nat} {b : β} : ∀ {X : List (Nat × β)}, (∀ p ∈ X, p.1 ≠ i) → up X i b = X ++ [(i, b)]
  | [], _ => rfl
  | (j, c) :: r, h => by
    rw [up, if_neg (h (j, c) (List.mem_cons_self ..)), up_new fun p hp => h p (List.mem_cons_of_mem _ hp)]; rfl
theorem lk_none_of {β : Type} {i : Nat} : ∀ {X : List (Nat × β)}, (∀ p ∈ X, p.1 ≠ i) → lk X i = none
  | [], _ => rfl
  | (j, c) :: r, h => by
    rw [lk, if_neg (h (j, c) (List.mem_cons_self ..)), lk_none_of fun p hp => h p (List.mem_cons_of_mem _ hp)]
theorem behind_rg {l : List Nat} {n : Nat} {hp0 T H : List (Nat × ABlk)} : ∀ (V : List (List Int)) (b c : Nat), (∀ i, b ≤ i → i < b + V.length → qq l n i = c + (i - b) ∧ lk hp0 i = none) → (∀ p ∈ behind l n hp0 T H, p.1 < c ∨ c + V.length ≤ p.1) →
    behind l n hp0 (rg b V ++ T) H = behind l n hp0 T H ++ (rg c V).reverse
  | [], b, c, _, _ => by simp [rg]
  | a :: V, b, c, hq, hH => by
    obtain ⟨q1, q2⟩ := hq b (Nat.le_refl _) (by simp)
    have ih := behind_rg (l := l) (n := n) (hp0 := hp0) (T := T) (H := H) V (b + 1) (c + 1) (fun i h1 h2 => by
      obtain ⟨r1, r2⟩ := hq i (by omega) (by simp only [List.length_cons]; omega)
      exact ⟨by rw [r1]; omega, r2⟩) (fun p hp => by have := hH p hp; simp only [List.length_cons] at this; omega)
    rw [rg, List.cons_append, behind, q2]
    show (if true = true then _ else _) = _
    rw [if_pos rfl, ih, q1, Nat.sub_self, Nat.add_zero, up_new, rg, List.reverse_cons, List.append_assoc]
    · congr 3
      show (c, ABlk.row 3 1 ((ints a).map _)) = _
      rw [ints_ren]
    · intro p hp
      rcases List.mem_append.1 hp with hp | hp
      · have := hH p hp; simp only [List.length_cons] at this; omega
      · have := (rg_mem (List.mem_reverse.1 hp)).1; omega
theorem hpAll_rg {hp : List (Nat × ABlk)} {q : Nat → Nat} {T : List (Nat × ABlk)} : ∀ (V : List (List Int)) (b : Nat), (∀ p ∈ rg b V, lk hp (q p.1) = some p.2) → hpAll hp q T → hpAll hp q (rg b V ++ T)
  | [], _, _, hT => hT
  | a :: V, b, h, hT => by
    have h1 := h (b, .row 3 1 (ints a)) (List.mem_cons_self ..)
    refine ⟨?_, hpAll_rg V (b + 1) (fun p hp => h p (List.mem_cons_of_mem _ hp)) hT⟩
    rw [h1]
    exact congrArg (fun c => some (ABlk.row 3 1 c)) (ints_ren q a).symm
theorem nodB_of : ∀ {l : List Nat}, l.Nodup → nodB l = true
  | [], _ => rfl
  | i :: r, h => by
    obtain ⟨h1, h2⟩ := List.nodup_cons.1 h
    rw [nodB, Bool.and_eq_true, nodB_of h2, Bool.not_eq_true']
    exact ⟨by simpa using h1, rfl⟩
theorem rg_lt {n : Nat} {T : List (Nat × ABlk)} : ∀ (V : List (List Int)) (b : Nat), b + V.length ≤ n → hpLt n T → hpLt n (rg b V ++ T)
  | [], _, _, hT => hT
  | a :: V, b, h, hT => ⟨.inl (by simp only [List.length_cons] at h; omega), ints_LL _ _, rg_lt V (b + 1) (by simp only [List.length_cons] at h; omega) hT⟩
theorem rg_map {q : Nat → Nat} : ∀ (V : List (List Int)) (b c : Nat), (∀ i, b ≤ i → i < b + V.length → q i = c + (i - b)) → (rg b V).map (fun p => q p.1) = (rg c V).map Prod.fst
  | [], _, _, _ => rfl
  | a :: V, b, c, h => by
    rw [rg, rg, List.map_cons, List.map_cons]
    have h1 := h b (Nat.le_refl _) (by simp)
    rw [rg_map V (b + 1) (c + 1) fun i h2 h3 => by rw [h i (by omega) (by simp only [List.length_cons]; omega)]; omega]
    show q b :: _ = c :: _
    rw [h1, Nat.sub_self, Nat.add_zero]
theorem rgC_ren {q : Nat → Nat} : ∀ (V : List (List Int)) (b c : Nat), (∀ i, b ≤ i → i < b + V.length → q i = c + (i - b)) → (rgC b V).map (AC.ren q) = rgC c V
  | [], _, _, _ => rfl
  | a :: V, b, c, h => by
    rw [rgC, rgC, List.map_cons]
    have h1 := h b (Nat.le_refl _) (by simp)
    rw [rgC_ren V (b + 1) (c + 1) fun i h2 h3 => by rw [h i (by omega) (by simp only [List.length_cons]; omega)]; omega]
    show AC.row (q b) a.length :: _ = _
    rw [h1, Nat.sub_self, Nat.add_zero]
theorem rgC_LL {n : Nat} : ∀ (V : List (List Int)) (b : Nat), b + V.length ≤ n → LL n (rgC b V)
  | [], _, _ => (LL_nil ..).2 trivial
  | a :: V, b, h => by
    rw [rgC, LL_cons]
    exact ⟨.inl (by simp only [List.length_cons] at h; omega), rgC_LL V (b + 1) (by simp only [List.length_cons] at h; omega)⟩
theorem FSpec.same {P : Program} {f : FuncId} {args : List AV} {hp : List (Nat × ABlk)} {k : Nat} {Post Post' : AV → List (Nat × ABlk) → Nat → Prop} (h : FSpec P f args hp k Post)
    (hc : ∀ r hq k', Post r hq k' → ∃ hq2, Post' r hq2 k' ∧ (∀ i, lk hq2 i = lk hq i) ∧ (hq2.map Prod.fst).Nodup) : FSpec P f args hp k Post' where
  call := h.call
  run := fun w R vs hok hsz hcon H => by
    refine (h.run w R vs hok hsz hcon H).mono ?_
    rintro e w' ⟨u, r, hq, k', R', h1, h2, h3, h4, h5, h6, h7, h8, h9, h10, h11, h12⟩
    obtain ⟨hq2, g1, g2, g3⟩ := hc r hq k' h2
    exact ⟨u, r, hq2, k', R', h1, g1, h3, h4, h5, h6, h7, ⟨fun i b hb => h8.blk i b (by rw [← g2]; exact hb), fun i j b c hi hj => h8.inj i j b c (by rw [← g2]; exact hi) (by rw [← g2]; exact hj), h8.zw, fun i b hb => h8.zn i b (by rw [← g2]; exact hb)⟩, g3, fun i b hb => h10 i b (by rw [← g2]; exact hb), fun i b hb => h11 i b (by rw [← g2]; exact hb), h12⟩
end Go.Proofs.YtfphkpdobbffeaaDoor

/-
  Contract: put once more, the lists left as they were made.
-/
namespace Go.Proofs.YtfphkpdobbffeaaDoor
open Go Go.AH
set_option maxRecDepth 100000
set_option maxHeartbeats 4000000

abbrev XU := Bool × (Nat → Nat) × List (List Int)
def prT (v : Nat → Nat) (V : List (List Int)) : List (Nat × ABlk) := [(5, .own (rgC 6 V)), (2, .own (ints (wL v))), (3, .own [.sl 5 0 V.length (some V.length)])]
def prU : XU → List (Nat × ABlk)
  | (false, v, _) => [(2, .own (ints (wL v))), (3, .own [.nils])]
  | (true, v, V) => rg 6 V ++ prT v V
def PU (g : Gm) (w : Nat → Nat) (i : Nat) (x : XU) : Prop :=
  (∀ j, j < i → x.2.1 j = w j) ∧ (x.1 = true → RG x.2.1 g.n ∧ Bar g x.2.1 ∧ x.2.2 = LV x.2.1 g.n ∧ 2 ≤ x.2.2.length ∧ x.2.2.length ≤ 8) ∧ (x.1 = false → ∀ u : Nat → Nat, (∀ j, j < i → u j = w j) → RG u g.n → ¬ Bar g u)
def PutU (g : Gm) (i : Nat) (w : Nat → Nat) : Prop :=
  FSpec Tryd.prog 66 [.c (.int .i64 i), .c (.int .i64 (mx w i : Nat)), .c (.ptr 1 0), .c (.ptr 2 0), .c (.ptr 3 0), .c (.ptr 4 0)] (putB g w) 5 fun r hq k' => ∃ x, PU g w i x ∧ r = .c (.bool x.1) ∧ hq = prU x ∧ k' = 14
theorem prU_nodup (v : Nat → Nat) (V : List (List Int)) : ((rg 6 V ++ prT v V).map Prod.fst).Nodup := by
  rw [List.map_append, List.nodup_append]
  refine ⟨rg_nodup V 6, by simp [prT], fun a ha b hb e => ?_⟩
  obtain ⟨p, hp, rfl⟩ := List.mem_map.1 ha
  have := (rg_mem hp).1
  simp [prT] at hb
  omega
theorem prU_lk (v : Nat → Nat) (V : List (List Int)) (i : Nat) : lk (rg 6 V ++ prT v V) i = lk ((2, ABlk.own (ints (wL v))) :: (3, .own [.sl 5 0 V.length (some V.length)]) :: (5, .own (rgC 6 V)) :: rg 6 V) i := by
  rw [lk_append]
  simp only [lk, prT]
  by_cases h : i = 2 ∨ i = 3 ∨ i = 5
  · rw [lk_none_of fun p hp e => by have := (rg_mem hp).1; omega]
    rcases h with rfl | rfl | rfl <;> simp
  · rw [if_neg (by omega), if_neg (by omega), if_neg (by omega), if_neg (by omega), if_neg (by omega), if_neg (by omega)]
    cases lk (rg 6 V) i <;> rfl
theorem putU_leaf {g : Gm} (hg : g.ok) {w : Nat → Nat} (hr : RG w g.n) : PutU g g.n w := by
  by_cases hb : Bar g w
  · refine FSpec.same (leaf_yes hg w hr hb) ?_
    rintro r hq k' ⟨rfl, rfl, rfl⟩
    refine ⟨prU (true, w, LV w g.n), ⟨(true, w, LV w g.n), ⟨fun _ _ => rfl, fun _ => ⟨hr, hb, rfl, ?_, ?_⟩, (fun h => by cases h)⟩, rfl, rfl, rfl⟩, fun i => ?_, prU_nodup _ _⟩
    · show 2 ≤ (LV w g.n).length
      rw [LV_len]; exact hb.1
    · show (LV w g.n).length ≤ 8
      rw [LV_len]; have := mx_le hr g.n (by omega); have := hg.n8; omega
    · rw [rwC_rg, rwH_rg]
      have := prU_lk w (LV w g.n) i
      rw [LV_len] at this
      exact this
  · refine (leaf_no hg w hb).imp ?_
    rintro r hq k' ⟨rfl, rfl, rfl⟩
    exact ⟨(false, w, []), ⟨fun _ _ => rfl, (fun h => by cases h), fun _ u hu _ hbu => hb ((Bar_congr hg hu).1 hbu)⟩, rfl, rfl, rfl⟩
def prV (g : Gm) (x : XU) : List (Nat × ABlk) := match x with
  | (false, v, _) => [(0, wB g), (1, .ro (gC g 0)), (4, .ro [.fn 66 [] [1, 2, 3, 4]]), (3, .own [.nils]), (2, .own (ints (wL v)))]
  | (true, v, V) => [(0, wB g), (1, .ro (gC g 0)), (4, .ro [.fn 66 [] [1, 2, 3, 4]]), (3, .own [.sl 5 0 V.length (some V.length)]), (2, .own (ints (wL v))), (5, .own (rgC 6 V))] ++ (rg 6 V).reverse
theorem qq5 {i : Nat} (h : 5 ≤ i) : qq [0, 1, 2, 3, 4] 5 i = i := by
  unfold qq
  split
  · rfl
  · have : ([0, 1, 2, 3, 4] : List Nat)[i]? = none := by simp; omega
    rw [this]
    show 5 + (i - 5) = i
    omega
theorem qf5 {i : Nat} (h : i < 14) : qf 5 [5, 6, 7, 8, 9, 10, 11, 12, 13] i = i := by
  have : ∀ i, i < 14 → qf 5 [5, 6, 7, 8, 9, 10, 11, 12, 13] i = i := by decide
  exact this i h
theorem prV_fin {g : Gm} {v : Nat → Nat} {V : List (List Int)} (h8 : V.length ≤ 8) : hpAll (prV g (true, v, V)) (qf 5 [5, 6, 7, 8, 9, 10, 11, 12, 13]) (prU (true, v, V)) := by
  refine hpAll_rg V 6 (fun p hp => ?_) ⟨?_, ?_, rfl, trivial⟩
  · obtain ⟨h1, h2, _⟩ := rg_mem hp
    rw [qf5 (by omega)]
    show lk (_ ++ _) _ = _
    rw [lk_append, lk_none_of (by intro q hq e; simp only [List.mem_cons, List.not_mem_nil, or_false] at hq; rcases hq with rfl | rfl | rfl | rfl | rfl | rfl <;> simp at e <;> omega), rg_lk hp]; rfl
  · show some (ABlk.own (rgC 6 V)) = some (ABlk.own ((rgC 6 V).map _))
    rw [rgC_ren V 6 6 fun i h1 h2 => by rw [qf5 (by omega)]; omega]
  · show some (ABlk.own _) = some (ABlk.own ((ints _).map _))
    rw [ints_ren]
theorem prV_nod {v : Nat → Nat} {V : List (List Int)} (h8 : V.length ≤ 8) : (nodB ((prU (true, v, V)).map fun p => qf 5 [5, 6, 7, 8, 9, 10, 11, 12, 13] p.1) && nodB ((prU (true, v, V)).map Prod.fst) && Nat.ble (5 + 9) GB) = true := by
  have hk : ((prU (true, v, V)).map fun p => qf 5 [5, 6, 7, 8, 9, 10, 11, 12, 13] p.1) = (prU (true, v, V)).map Prod.fst := by
    refine List.map_congr_left fun p hp => qf5 ?_
    rcases List.mem_append.1 hp with hp | hp
    · have := (rg_mem hp).2.1; omega
    · simp [prT] at hp
      rcases hp with rfl | rfl | rfl <;> simp
  rw [hk]
  show (nodB ((rg 6 V ++ prT v V).map Prod.fst) && nodB ((rg 6 V ++ prT v V).map Prod.fst) && Nat.ble (5 + 9) GB) = true
  rw [nodB_of (prU_nodup v V)]
  rfl
theorem prU_lt {v : Nat → Nat} {V : List (List Int)} (h8 : V.length ≤ 8) : hpLt 14 (prU (true, v, V)) :=
  rg_lt V 6 (by omega) ⟨.inl (by omega), rgC_LL V 6 (by omega), .inl (by omega), ints_LL _ _, .inl (by omega), (by simp [tupA, hpLt, tmLt, AV.lt, AE.lt, AC.lt, LL_cons, LL_nil, idOk, ABlk.lt, ints_LL, GB, tab64_LL, gC, wB, giC, noneB, putB, prU]), trivial⟩
theorem bputU_spec {g : Gm} (hg : g.ok) : ∀ (d i : Nat) (w : Nat → Nat), i + d = g.n → RG w i → PutU g i w := by
  intro d
  induction d with
  | zero => 
    intro i w hi hr
    have e : i = g.n := by omega
    subst e
    exact putU_leaf hg hr
  | succ d ih =>
    intro i w hi hr
    have h8 := hg.n8
    have hm8 := mx_le hr i (by omega)
    obtain ⟨m, hm⟩ : ∃ m, m = mx w i := ⟨_, rfl⟩
    unfold PutU
    rw [← hm] at hm8 ⊢
    have hW8 : ∀ v, (ints (wL v)).length = 8 := fun v => by rw [ints_len, wL_len]
    refine FSpec.of_body tok true Tryd.func66 rfl (by kernel_rfl) (by decide) (by simp [tupA, hpLt, tmLt, AV.lt, AE.lt, AC.lt, LL_cons, LL_nil, idOk, ABlk.lt, ints_LL, GB, tab64_LL, gC, wB, giC, noneB, putB, prU]) (by simp [tupA, hpLt, tmLt, AV.lt, AE.lt, AC.lt, LL_cons, LL_nil, idOk, ABlk.lt, ints_LL, GB, tab64_LL, gC, wB, giC, noneB, putB, prU]) (by show 6 ≤ _; decide) ?_
    refine Wk.on ?_
    rw [decide_eq_false (show ¬ ((i : Nat) : Int) = ((g.n : Nat) : Int) by omega)]
    refine Wk.on ?_
    refine Tr.loop (md := true) (X := Nat × (Nat → Nat)) (st := fun x => ⟨[(0, .c (.int .i64 i)), (1, .c (.int .i64 m)), (2, .c (.ptr 1 0)), (3, .c (.ptr 2 0)), (4, .c (.ptr 3 0)), (5, .c (.ptr 4 0)), (50, .c (.int .i64 (m + 1 : Nat))), (51, .c (.int .i64 x.1))], [(0, wB g), (1, .ro (gC g 0)), (4, .ro [.fn 66 [] [1, 2, 3, 4]]), (3, .own [.nils]), (2, .own (ints (wL x.2)))], 5, 66, 5⟩) (inv := fun x => x.1 ≤ m + 1 ∧ (∀ j, j < i → x.2 j = w j) ∧ ∀ u : Nat → Nat, (∀ j, j < i → u j = w j) → RG u g.n → u i < x.1 → ¬ Bar g u) (μ := fun x => m + 1 - x.1) (x0 := (0, w)) (l := []) tok ⟨by omega, fun _ _ => rfl, fun u _ _ h => absurd h (by omega)⟩ ?_ ?_
    · exact Sub.nil ⟨rfl, rfl, (by simp [tab64_LL, gC, wB, giC, noneB, putB, prU]), rfl, (by simp [tupA, hpLt, tmLt, AV.lt, AE.lt, AC.lt, LL_cons, LL_nil, idOk, ABlk.lt, ints_LL, GB, tab64_LL, gC, wB, giC, noneB, putB, prU]), (by simp [tupA, hpLt, tmLt, AV.lt, AE.lt, AC.lt, LL_cons, LL_nil, idOk, ABlk.lt, ints_LL, GB, tab64_LL, gC, wB, giC, noneB, putB, prU])⟩ (by (repeat (first | exact trivial | refine ⟨trivial, ?_⟩ | refine ⟨rfl, ?_⟩))) ⟨rfl, rfl, rfl, rfl, rfl, trivial⟩
    · rintro ⟨k, v⟩ ⟨h1, h2, h3⟩
      dsimp only at h1 h2 h3 ⊢
      by_cases hk : k < m + 1
      · have h8v := hW8 v
        refine Wk.on ?_
        rw [decide_eq_true (show ((k : Nat) : Int) < ((m + 1 : Nat) : Int) by omega)]
        refine Wk.on ?_
        have hset : (ints (wL v)).set (0 + ((i : Nat) : Int).toNat * 1) (.int .i64 (k : Nat)) = ints (wL (updW v i k)) := by rw [Int.toNat_natCast, Nat.zero_add, Nat.mul_one]; exact wL_set v k (by omega)
        have hwj : ∀ j, j < i → updW v i k j = w j := fun j hj => (updW_lt hj).trans (h2 j hj)
        have hmx : mx (updW v i k) (i + 1) = max m (k + 1) := by
          show max (mx (updW v i k) i) (updW v i k i + 1) = _
          rw [updW_eq, mx_congr hwj, ← hm]
        have hmx2 : max ((m : Nat) : Int) ((k : Nat) + 1) = ((mx (updW v i k) (i + 1) : Nat) : Int) := by rw [hmx]; omega
        have hr2 : RG (updW v i k) (i + 1) := fun j hj => by
          by_cases e : j < i
          · rw [hwj j e, mx_congr (v := w) fun x hx => hwj x (by omega)]; exact hr j e
          · obtain rfl : j = i := by omega
            rw [updW_eq, mx_congr hwj, ← hm]; omega
        rw [hset, hmx2]
        have hbeh : ∀ (u : Nat → Nat) (V : List (List Int)), behind [0, 1, 2, 3, 4] 5 (putB g (updW v i k)) (prU (true, u, V)) (gone [0, 1, 2, 3, 4] 5 (putB g (updW v i k)) [(0, wB g), (1, .ro (gC g 0)), (4, .ro [.fn 66 [] [1, 2, 3, 4]]), (3, .own [.nils]), (2, .own (ints (wL (updW v i k))))]) = prV g (true, u, V) := fun u V => by
          have hT : behind [0, 1, 2, 3, 4] 5 (putB g (updW v i k)) (prT u V) (gone [0, 1, 2, 3, 4] 5 (putB g (updW v i k)) [(0, wB g), (1, .ro (gC g 0)), (4, .ro [.fn 66 [] [1, 2, 3, 4]]), (3, .own [.nils]), (2, .own (ints (wL (updW v i k))))]) = [(0, wB g), (1, .ro (gC g 0)), (4, .ro [.fn 66 [] [1, 2, 3, 4]]), (3, .own [.sl 5 0 V.length (some V.length)]), (2, .own (ints (wL u))), (5, .own (rgC 6 V))] := by
            have hr6 := rgC_ren (q := qq [0, 1, 2, 3, 4] 5) V 6 6 fun i h1 h2 => by rw [qq5 (by omega)]; omega
            simp only [prT, behind, putB, lk, gone, ABlk.wr, del, up, wB]
            simp [qq5, ABlk.ren, AC.ren, ints_ren, hr6, up, del, qq, GB]
          show behind [0, 1, 2, 3, 4] 5 (putB g (updW v i k)) (rg 6 V ++ prT u V) _ = _
          rw [behind_rg V 6 6 (fun i h1 h2 => ⟨by rw [qq5 (by omega)]; omega, lk_none_of (by intro q hq e; simp only [putB, List.mem_cons, List.not_mem_nil, or_false] at hq; rcases hq with rfl | rfl | rfl | rfl | rfl <;> simp at e <;> omega)⟩) (by rw [hT]; intro q hq; simp only [List.mem_cons, List.not_mem_nil, or_false] at hq; rcases hq with rfl | rfl | rfl | rfl | rfl | rfl <;> simp), hT]
          rfl
        refine CallA.any (X := XU) (I := PU g (updW v i k) (i + 1)) [0, 1, 2, 3, 4] (r := fun x => .c (.bool x.1)) (hp1 := prU) (k1 := 14) (fun x => .c (.bool x.1)) (prV g) (ih (i + 1) (updW v i k) (by omega) hr2) (by first | rfl | exact congrArg AV.g (ints_ren _ _) | (simp [ints_ren, AV.ren, ABlk.ren, AC.ren, AE.ren, qq]; done)) rfl (by (repeat (first | exact trivial | refine ⟨⟨(by first | exact .inl (by decide) | exact .inr (by decide)), (by first | (refine Or.inl ?_; first | rfl | exact congrArg some (ints_ren _ _).symm | exact congrArg ABlk.own (ints_ren _ _).symm | exact congrArg some (tab64_ren _).symm) | rfl | exact congrArg some (ints_ren _ _).symm | exact congrArg ABlk.own (ints_ren _ _).symm | exact congrArg some (tab64_ren _).symm | exact Or.inr ⟨rfl, rfl⟩)⟩, ?_⟩))) (fun x => rfl) (fun x => by
          rcases x with ⟨_ | _, u, V⟩
          · simp [behind, gone, lk, up, del, qq, ABlk.wr, GB, prV, prU, putB, wB, gC, ABlk.ren, AC.ren, ints_ren]
          · exact hbeh u V) ?_
        rintro ⟨b, v', V⟩ ⟨p1, p2, p3⟩
        dsimp only at p1 p2 p3 ⊢
        have q1 : ∀ j, j < i → v' j = w j := fun j hj => (p1 j (by omega)).trans (hwj j hj)
        cases b
        · refine Wk.on ?_
          have hnext : ∀ u : Nat → Nat, (∀ j, j < i → u j = w j) → RG u g.n → u i < k + 1 → ¬ Bar g u := fun u hu hur huk => by
            by_cases e : u i < k
            · exact h3 u hu hur e
            · refine p3 rfl u (fun j hj => ?_) hur
              by_cases e2 : j < i
              · rw [hu j e2, hwj j e2]
              · obtain rfl : j = i := by omega
                rw [updW_eq]; omega
          refine Again.mk ((k + 1, v')) (Sub.nil ⟨rfl, rfl, (by simp [tab64_LL, gC, wB, giC, noneB, putB, prU]), rfl, (by simp [tupA, hpLt, tmLt, AV.lt, AE.lt, AC.lt, LL_cons, LL_nil, idOk, ABlk.lt, ints_LL, GB, tab64_LL, gC, wB, giC, noneB, putB, prU]), (by simp [tupA, hpLt, tmLt, AV.lt, AE.lt, AC.lt, LL_cons, LL_nil, idOk, ABlk.lt, ints_LL, GB, tab64_LL, gC, wB, giC, noneB, putB, prU])⟩ (by (repeat (first | exact trivial | refine ⟨trivial, ?_⟩ | refine ⟨rfl, ?_⟩))) (by (repeat (first | exact trivial | refine ⟨trivial, ?_⟩ | refine ⟨rfl, ?_⟩)))) (⟨by show k + 1 ≤ m + 1; omega, q1, hnext⟩) (by omega)
        · refine Wk.on ?_
          obtain ⟨s1, s2, s3, s4, s5⟩ := p2 rfl
          exact AH.Fin.new [5, 6, 7, 8, 9, 10, 11, 12, 13] (.c (.bool true)) (prU (true, v', V)) ⟨(true, v', V), ⟨q1, fun _ => ⟨s1, s2, s3, s4, s5⟩, (fun h => by cases h)⟩, rfl, rfl, rfl⟩ rfl (prV_fin s5) (prV_nod s5) (by simp [tupA, hpLt, tmLt, AV.lt, AE.lt, AC.lt, LL_cons, LL_nil, idOk, ABlk.lt, ints_LL, GB, tab64_LL, gC, wB, giC, noneB, putB, prU]) (prU_lt s5)
      · obtain rfl : k = m + 1 := by omega
        have h8v := hW8 v
        refine Wk.on ?_
        rw [decide_eq_false (show ¬ ((m + 1 : Nat) : Int) < ((m + 1 : Nat) : Int) by omega)]
        refine Wk.on ?_
        intro _
        refine Wk.on ?_
        exact AH.Fin.new [5, 6, 7, 8, 9, 10, 11, 12, 13] _ _ ⟨(false, v, []), ⟨h2, (fun h => by cases h), fun _ u hu hur => h3 u hu hur (by
          have := hur i (by omega)
          rw [mx_congr hu, ← hm] at this
          show u i < m + 1
          omega)⟩, rfl, rfl, rfl⟩ rfl ⟨congrArg (fun x => some (ABlk.own x)) (ints_ren _ _).symm, rfl, trivial⟩ rfl (by simp [tupA, hpLt, tmLt, AV.lt, AE.lt, AC.lt, LL_cons, LL_nil, idOk, ABlk.lt, ints_LL, GB, tab64_LL, gC, wB, giC, noneB, putB, prU]) (by simp [tupA, hpLt, tmLt, AV.lt, AE.lt, AC.lt, LL_cons, LL_nil, idOk, ABlk.lt, ints_LL, GB, tab64_LL, gC, wB, giC, noneB, putB, prU])
end Go.Proofs.YtfphkpdobbffeaaDoor

/-
  Plain law: who wins, without shortcuts.
-/
namespace Go.Proofs.YtfphkpdobbffeaaDoor
open Go Go.AH
set_option maxRecDepth 100000
set_option maxHeartbeats 1000000

theorem mem_iff {n : Nat} (hn : n < 1024) {y : Int} : y ∈ mem n ↔ ∃ i : Nat, y = (i : Int) ∧ n.testBit i = true := by
  constructor
  · intro h
    obtain ⟨i, hi, rfl⟩ := List.mem_map.1 h
    exact ⟨i, rfl, (List.mem_filter.1 hi).2⟩
  · rintro ⟨i, rfl, hi⟩
    exact List.mem_map.2 ⟨i, List.mem_filter.2 ⟨List.mem_range.2 (lt_len (k := 10) (by omega) hi), hi⟩, rfl⟩
end Go.Proofs.YtfphkpdobbffeaaDoor

/-
  Contracts: positions as strings, for the reference.
-/
namespace Go.Proofs.YtfphkpdobbffeaaDoor
open Go Go.AH
set_option maxRecDepth 100000
set_option maxHeartbeats 1000000

def codeN : Nat → Nat → Nat → Nat
  | 0, _, _ => 0
  | n + 1, f, k => 3 * codeN n f k + if f.testBit n then 0 else if k.testBit n then 1 else 2
theorem codeN_lt (f k : Nat) : ∀ n, codeN n f k < 3 ^ n
  | 0 => by simp [codeN]
  | n + 1 => by
    have := codeN_lt f k n
    rw [codeN, Nat.pow_succ]
    split
    · omega
    · split <;> omega
end Go.Proofs.YtfphkpdobbffeaaDoor

/-
  Contracts: the free wires of a position, the reference's Joined, Known, Put.
-/
namespace Go.Proofs.YtfphkpdobbffeaaDoor
open Go Go.AH
set_option maxRecDepth 100000
set_option maxHeartbeats 1000000

end Go.Proofs.YtfphkpdobbffeaaDoor

/-
  Contracts: the room for what is known, the free wires, a wire put.
-/
namespace Go.Proofs.YtfphkpdobbffeaaDoor
open Go Go.AH
set_option maxRecDepth 100000
set_option maxHeartbeats 1000000

end Go.Proofs.YtfphkpdobbffeaaDoor

/-
  Contract: the free wires of a position, for the reference.
-/
namespace Go.Proofs.YtfphkpdobbffeaaDoor
open Go Go.AH
set_option maxRecDepth 100000
set_option maxHeartbeats 1000000

end Go.Proofs.YtfphkpdobbffeaaDoor

/-
  Contract: a wire put into a position, for the reference.
-/
namespace Go.Proofs.YtfphkpdobbffeaaDoor
open Go Go.AH
set_option maxRecDepth 100000
set_option maxHeartbeats 1000000

end Go.Proofs.YtfphkpdobbffeaaDoor

/-
  Plain law: positions with a wire cut or kept; the number of a position tells it.
-/
namespace Go.Proofs.YtfphkpdobbffeaaDoor
open Go Go.AH
set_option maxRecDepth 100000
set_option maxHeartbeats 1000000

theorem codeN_inj {f k f' k' : Nat} : ∀ n, codeN n f k = codeN n f' k' → ∀ i, i < n → f.testBit i = f'.testBit i ∧ (f.testBit i = false → k.testBit i = k'.testBit i)
  | 0, _, i, hi => by omega
  | n + 1, h, i, hi => by
    simp only [codeN] at h
    have hq : codeN n f k = codeN n f' k' ∧ (if f.testBit n then 0 else if k.testBit n then 1 else 2) = (if f'.testBit n then 0 else if k'.testBit n then 1 else 2) := by
      have h1 : (if f.testBit n then 0 else if k.testBit n then 1 else 2) < 3 := by split <;> (try split) <;> omega
      have h2 : (if f'.testBit n then 0 else if k'.testBit n then 1 else 2) < 3 := by split <;> (try split) <;> omega
      omega
    by_cases e : i = n
    · subst e
      have := hq.2
      revert this
      cases f.testBit i <;> cases f'.testBit i <;> cases k.testBit i <;> cases k'.testBit i <;> simp
    · exact codeN_inj n hq.1 i (by omega)
theorem pos_eq {n f k f' k' : Nat} (hf : f < 2 ^ n) (hk : k < 2 ^ n) (hf' : f' < 2 ^ n) (hk' : k' < 2 ^ n) (hd : ∀ i, f.testBit i = true → k.testBit i = false) (hd' : ∀ i, f'.testBit i = true → k'.testBit i = false) (h : codeN n f k = codeN n f' k') : f = f' ∧ k = k' := by
  have hi := codeN_inj n h
  have big : ∀ (a i : Nat), a < 2 ^ n → ¬ i < n → a.testBit i = false := fun a i ha hn => by
    cases h : a.testBit i with
    | false => rfl
    | true => exact absurd (lt_len ha h) hn
  refine ⟨Nat.eq_of_testBit_eq fun i => ?_, Nat.eq_of_testBit_eq fun i => ?_⟩
  · by_cases e : i < n
    · exact (hi i e).1
    · rw [big f i hf e, big f' i hf' e]
  · by_cases e : i < n
    · obtain ⟨a, b⟩ := hi i e
      cases h : f.testBit i with
      | true => rw [hd i h, hd' i (by rw [← a]; exact h)]
      | false => exact b h
    · rw [big k i hk e, big k' i hk' e]
def KI (g : Gm) (L : List Int) : Prop := L.length = 2 * 3 ^ g.ws.length ∧ ∀ f k c, f < 2 ^ g.ws.length → k < 2 ^ g.ws.length → (∀ i, f.testBit i = true → k.testBit i = false) →
  L.getD (2 * codeN g.ws.length f k + c.toNat) 0 = 0 ∨ L.getD (2 * codeN g.ws.length f k + c.toNat) 0 = if W g f k c then 1 else 2
theorem KI.zero (g : Gm) : KI g (List.replicate (2 * 3 ^ g.ws.length) 0) := ⟨by simp, fun f k c _ _ _ => .inl (by
  simp only [List.getD_eq_getElem?_getD, List.getElem?_replicate]
  split <;> rfl)⟩
theorem KI.set {g : Gm} {L : List Int} (h : KI g L) {f k : Nat} {c : Bool} (hf : f < 2 ^ g.ws.length) (hk : k < 2 ^ g.ws.length) (hd : ∀ i, f.testBit i = true → k.testBit i = false) : KI g (L.set (2 * codeN g.ws.length f k + c.toNat) (if W g f k c then 1 else 2)) := by
  refine ⟨by rw [List.length_set]; exact h.1, fun f' k' c' hf' hk' hd' => ?_⟩
  have hl := codeN_lt f k g.ws.length
  have hc : c.toNat < 2 := by cases c <;> decide
  have hc' : c'.toNat < 2 := by cases c' <;> decide
  simp only [List.getD_eq_getElem?_getD, List.getElem?_set]
  by_cases e : 2 * codeN g.ws.length f k + c.toNat = 2 * codeN g.ws.length f' k' + c'.toNat
  · rw [if_pos e, if_pos (by rw [h.1]; omega)]
    obtain ⟨rfl, rfl⟩ := pos_eq hf hk hf' hk' hd hd' (by omega)
    have : c = c' := by
      have : c.toNat = c'.toNat := by omega
      revert this; cases c <;> cases c' <;> simp
    subst this
    exact .inr rfl
  · rw [if_neg e, ← List.getD_eq_getElem?_getD]
    exact h.2 f' k' c' hf' hk' hd'
end Go.Proofs.YtfphkpdobbffeaaDoor

/-
  Contract: who wins, by the reference.
-/
namespace Go.Proofs.YtfphkpdobbffeaaDoor
open Go Go.AH
set_option maxRecDepth 100000
set_option maxHeartbeats 1000000

end Go.Proofs.YtfphkpdobbffeaaDoor

/-
  Contract: the kind of a game, by the reference; the law SwitchKinds, as a contract.
-/
namespace Go.Proofs.YtfphkpdobbffeaaDoor
open Go Go.AH
set_option maxRecDepth 100000
set_option maxHeartbeats 1000000

end Go.Proofs.YtfphkpdobbffeaaDoor

/-
  Contracts: whether a string is a position, by the program.
-/
namespace Go.Proofs.YtfphkpdobbffeaaDoor
open Go Go.AH
set_option maxRecDepth 100000
set_option maxHeartbeats 1000000

def bs (l : List UInt8) : ByteArray := ⟨l.toArray⟩
end Go.Proofs.YtfphkpdobbffeaaDoor

/-
  Contracts: strings.Trim at the three signs; CheckPosition.
-/
namespace Go.Proofs.YtfphkpdobbffeaaDoor
open Go Go.AH
set_option maxRecDepth 100000
set_option maxHeartbeats 1000000

end Go.Proofs.YtfphkpdobbffeaaDoor
