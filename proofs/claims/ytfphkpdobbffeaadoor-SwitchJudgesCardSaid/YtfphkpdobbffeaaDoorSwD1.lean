/-
  From a row's condition to the contracts: a game as the row reads it, and the tables.
-/
import Derived.Test.YtfphkpdobbffeaaDoorSw5
import Derived.Test.YtfphkpdobbffeaaDoorCards
import Derived.Test.YtfphkpdobbffeaaDoorTie
import Derived.WalkKit
import Derived.ProofKit
import Derived.OpenShut
import Derived.Deep.DeepHandedRow
import Derived.Lib.LaidTab
import Derived.Stop.LaidErr
set_option linter.unusedSimpArgs false
set_option linter.unusedVariables false
namespace Go.Proofs.YtfphkpdobbffeaaDoor
open Go Go.AH Go.ChangeShapes Go.WideShapes Go.ChangeAt Go.RowKit
set_option maxRecDepth 100000

theorem cells60 : Tryd.prog.cellsOf 60 = 2 := by kernel_rfl
theorem cells3 : Tryd.prog.cellsOf 3 = 1 := by kernel_rfl
theorem cells22 : Tryd.prog.cellsOf 22 = 1 := by kernel_rfl
theorem cells24 : Tryd.prog.cellsOf 24 = 4 := by kernel_rfl
theorem laidOut : laidOutB Tryd.prog = true := by kernel_rfl

theorem cell_inv {W : World} {a : Addr} {v : Value} (h : W.cell? a = some v) : ∃ c t z, W.heap[a.block]? = some (.cells c t z) ∧ a.spot = none ∧ c[a.off]? = some v := by
  unfold World.cell? at h
  split at h
  · rename_i c t z hh
    split at h
    · cases h
    · rename_i hs
      exact ⟨c, t, z, hh, by simpa using hs, h⟩
  · cases h
section
variable {H : Type} {enc : TypeId × Value → H} {W : World} {base : Nat} {spare : Nat → Bool} {held : Bool}
theorem one_of_take {cs : List Value} {i : Nat} {v : Value} (h : (cs.drop i).take 1 = [v]) : cs[i]? = some v := by
  have := congrArg (·[0]?) h
  simpa [List.getElem?_take, List.getElem?_drop] using this
theorem trod_pair {fuel : Nat} {cs : List Value} {x : DataW H × List MemPlace} (h : DataW.trod enc Tryd.prog W base spare held fuel 60 cs = some x) : ∃ z0 z1, cs = [.int .i64 z0, .int .i64 z1] := by
  cases fuel with
  | zero => simp [DataW.trod] at h
  | succ fuel =>
    simp only [DataW.trod, Tryd.underlying60, cells60, cells3, Nat.mul_one] at h
    split at h
    · rename_i hl
      obtain ⟨xs, hm, _⟩ := Option.map_eq_some_iff.1 h
      obtain ⟨b0, _, hf0⟩ := Lib.mapM_at hm 0 0 rfl
      obtain ⟨b1, _, hf1⟩ := Lib.mapM_at hm 1 1 rfl
      obtain ⟨z0, hc0, _⟩ := DataW.trod_int Tryd.underlying3 hf0
      obtain ⟨z1, hc1, _⟩ := DataW.trod_int Tryd.underlying3 hf1
      refine ⟨z0, z1, ?_⟩
      match cs, hl with
      | [u, v], _ =>
        simp at hc0 hc1
        rw [hc0, hc1]
    · cases h
theorem choose_ws {len : Nat} {p : Nat → Int × Int → Prop} (h : ∀ i, i < len → ∃ w, p i w) : ∃ ws : List (Int × Int), ws.length = len ∧ ∀ i, i < len → p i (ws.getD i (0, 0)) := by
  induction len with
  | zero => exact ⟨[], rfl, fun i hi => by omega⟩
  | succ n ih =>
    obtain ⟨ws, h1, h2⟩ := ih fun i hi => h i (by omega)
    obtain ⟨w, hw⟩ := h n (by omega)
    refine ⟨ws ++ [w], by simp [h1], fun i hi => ?_⟩
    by_cases e : i < n
    · rw [List.getD_eq_getElem?_getD, List.getElem?_append_left (by omega), ← List.getD_eq_getElem?_getD]; exact h2 i e
    · obtain rfl : i = n := by omega
      rw [List.getD_eq_getElem?_getD, List.getElem?_append_right (by omega)]
      simpa [h1] using hw
theorem open_game {v : Value} {d : DataW H} {ps : List MemPlace} (hv : Value.okWide Tryd.prog W .any base 24 v) (h : DataW.Trod enc Tryd.prog W 0 spare held 24 v d ps) :
    ∃ (x : Rw) (sv : Value), v = .agg #[.int .i64 x.n, .int .i64 x.s, .int .i64 x.t, sv] ∧ x.ws.length ≤ 9223372036854775807 ∧
      ((sv = .slice none 0 0 ∧ x.ws = []) ∨ ∃ a c, sv = .slice (some a) x.ws.length c ∧ x.ws.length ≤ c ∧ ∀ i, i < x.ws.length → W.cell? (a.add (i * 2)) = some (.int .i64 (x.ws.getD i (0, 0)).1) ∧ W.cell? (a.add (i * 2 + 1)) = some (.int .i64 (x.ws.getD i (0, 0)).2)) := by
  obtain ⟨fuel, h⟩ := h
  obtain ⟨cs, rfl, hsz, _⟩ : ∃ cs, v = .agg cs ∧ cs.size = Tryd.prog.cellsOf 24 ∧ Row.okWide Tryd.prog W .any base 24 cs := by
    unfold Value.okWide at hv
    rw [Tryd.underlying24] at hv
    exact hv
  obtain ⟨xs, n, _, _, hl, hlen, hf⟩ := DataW.trod_struct Tryd.underlying24 h
  rw [cells24] at hsz
  have f0 : DataW.trod enc Tryd.prog W 0 spare held n 3 (List.take (Tryd.prog.cellsOf 3) (List.drop 0 (Value.agg cs).cells.toList)) = xs[0]? := hf 0 _ rfl
  rw [cells3] at f0
  have f1 : DataW.trod enc Tryd.prog W 0 spare held n 3 (List.take (Tryd.prog.cellsOf 3) (List.drop 1 (Value.agg cs).cells.toList)) = xs[1]? := hf 1 _ rfl
  rw [cells3] at f1
  have f2 : DataW.trod enc Tryd.prog W 0 spare held n 3 (List.take (Tryd.prog.cellsOf 3) (List.drop 2 (Value.agg cs).cells.toList)) = xs[2]? := hf 2 _ rfl
  rw [cells3] at f2
  have f3 : DataW.trod enc Tryd.prog W 0 spare held n 22 (List.take (Tryd.prog.cellsOf 22) (List.drop 3 (Value.agg cs).cells.toList)) = xs[3]? := hf 3 _ rfl
  rw [cells22] at f3
  have ex : ∀ i, i < 4 → ∃ y, xs[i]? = some y := fun i hi => ⟨xs[i]'(by rw [hlen]; exact hi), List.getElem?_eq_getElem _⟩
  obtain ⟨y0, e0⟩ := ex 0 (by omega)
  obtain ⟨y1, e1⟩ := ex 1 (by omega)
  obtain ⟨y2, e2⟩ := ex 2 (by omega)
  obtain ⟨y3, e3⟩ := ex 3 (by omega)
  rw [e0] at f0; rw [e1] at f1; rw [e2] at f2; rw [e3] at f3
  obtain ⟨n0, hc0, _⟩ := DataW.trod_int Tryd.underlying3 f0
  obtain ⟨n1, hc1, _⟩ := DataW.trod_int Tryd.underlying3 f1
  obtain ⟨n2, hc2, _⟩ := DataW.trod_int Tryd.underlying3 f2
  have hcs : ∀ sv, (List.take 1 (List.drop 3 (Value.agg cs).cells.toList)) = [sv] → Value.agg cs = .agg #[.int .i64 n0, .int .i64 n1, .int .i64 n2, sv] := fun sv h3 => by
    have g0 := one_of_take hc0
    have g1 := one_of_take hc1
    have g2 := one_of_take hc2
    have g3 := one_of_take h3
    congr 1
    apply Array.ext'
    match hq : cs.toList, (show cs.toList.length = 4 by simpa using hsz) with
    | [a, b, c, d], _ =>
      simp [Value.cells, hq] at g0 g1 g2 g3
      simp [g0, g1, g2, g3]
  rcases DataW.trod_slice Tryd.underlying22 f3 with ⟨h3, _⟩ | ⟨a, len, cap, elems, rest, m, _, h3, _, _, hlc, hcm, hel, hall, _⟩
  · exact ⟨⟨n0, n1, n2, []⟩, _, hcs _ h3, by simp, .inl ⟨rfl, rfl⟩⟩
  · have hw : ∀ i, i < len → ∃ w : Int × Int, W.cell? (a.add (i * 2)) = some (.int .i64 w.1) ∧ W.cell? (a.add (i * 2 + 1)) = some (.int .i64 w.2) := fun i hi => by
      have h4 := hall i hi
      rw [cells60, List.getElem?_eq_getElem (by omega)] at h4
      obtain ⟨cs', g1, g2⟩ := Option.bind_eq_some_iff.1 h4
      obtain ⟨z0, z1, rfl⟩ := trod_pair g2
      obtain ⟨_, _, g3⟩ := World.cells?_some g1
      have k0 := g3 0 (by omega)
      have k1 := g3 1 (by omega)
      rw [Addr.add_add] at k0 k1
      exact ⟨(z0, z1), k0, k1⟩
    obtain ⟨ws, hws, hp⟩ := choose_ws hw
    have hcap : cap ≤ 9223372036854775807 := hcm
    exact ⟨⟨n0, n1, n2, ws⟩, _, hcs _ h3, by show ws.length ≤ _; omega, .inr ⟨a, cap, by rw [hws], by show ws.length ≤ cap; omega, fun i hi => hp i (by rw [← hws]; exact hi)⟩⟩
end

theorem add_cell {W : World} {a : Addr} {n : Nat} {v : Value} (h : W.cell? (a.add n) = some v) : ∃ c t z, W.heap[a.block]? = some (.cells c t z) ∧ c[a.off + n]? = some v := by
  obtain ⟨c, t, z, h1, _, h3⟩ := cell_inv h
  unfold Addr.add at h1 h3
  split at h1
  · rename_i e; subst e
    rw [if_pos rfl] at h3
    exact ⟨c, t, z, h1, h3⟩
  · rename_i e
    rw [if_neg e] at h3
    exact ⟨c, t, z, h1, h3⟩
def renG (b off : Nat) : Ren := ⟨fun i => if i < GB then b else i - GB, fun i => if i < GB then off else 0, fun i => if i < GB then 0 else 0, fun _ => none⟩
theorem flI_all (x : Rw) {p : Nat → Int → Prop} (h : ∀ i, i < x.ws.length → p (i * 2) (x.ws.getD i (0, 0)).1 ∧ p (i * 2 + 1) (x.ws.getD i (0, 0)).2) : ∀ i, i < (flI x.ws).length → p i ((flI x.ws).getD i 0) := fun i hi => by
  rw [flI_len] at hi
  obtain ⟨h0, h1⟩ := h (i / 2) (by omega)
  obtain ⟨g0, g1⟩ := flI_get x.ws (i / 2)
  by_cases e : i % 2 = 0
  · rw [show i / 2 * 2 = i by omega] at g0 h0
    rw [g0]; exact h0
  · rw [show i / 2 * 2 + 1 = i by omega] at g1 h1
    rw [g1]; exact h1
theorem conL_ints {R : Ren} {xs : List Int} {c : Array Value} {o : Nat} (h : ∀ i, i < xs.length → c[o + i]? = some (.int .i64 (xs.getD i 0))) : conL R (ints xs) c o := fun i y hi => by
  have hl : i < xs.length := by have := (List.getElem?_eq_some_iff.1 hi).1; rwa [ints_len] at this
  refine ⟨_, h i hl, ?_⟩
  have e : (ints xs).getD i (.int .i64 0) = .int .i64 (xs.getD i 0) := ints_getD _ _ _
  rw [List.getD_eq_getElem?_getD, hi] at e
  simp at e
  rw [e]; rfl
theorem spot0 {W : World} {a : Addr} {v : Value} (h : W.cell? (a.add (0 * 2)) = some v) : a.spot = none := by
  have e : a.add (0 * 2) = a := by simp [Addr.add]
  rw [e] at h
  obtain ⟨_, _, _, _, h2, _⟩ := cell_inv h
  exact h2
theorem rel_game {W : World} {x : Rw} {sv : Value} (hsv : (sv = .slice none 0 0 ∧ x.ws = []) ∨ ∃ a c, sv = .slice (some a) x.ws.length c ∧ x.ws.length ≤ c ∧ ∀ i, i < x.ws.length → W.cell? (a.add (i * 2)) = some (.int .i64 (x.ws.getD i (0, 0)).1) ∧ W.cell? (a.add (i * 2 + 1)) = some (.int .i64 (x.ws.getD i (0, 0)).2))
    (h64 : ∃ c t z, W.heap[2]? = some (.cells c t z) ∧ ∀ R : Ren, conL R tab64 c 0) (hno : ∃ c t z, W.heap[0]? = some (.cells c t z) ∧ ∀ R : Ren, conL R [.int .i64 (-1), .int .i64 (-1)] c 0) :
    ∃ b off, HRel (renG b off) [(0, rB x), (100002, .ro tab64), (100000, noneB)] W ∧ conC (renG b off) (.rs 0 0 x.ws.length) sv := by
  have fin : ∀ b off c t z, W.heap[b]? = some (.cells c t z) → conL (renG b off) (ints (flI x.ws)) c off → HRel (renG b off) [(0, rB x), (100002, .ro tab64), (100000, noneB)] W := fun b off c t z hh hc => by
    refine ⟨fun i bl hi => ?_, fun i j bl cl hi hj hne hw => ?_, fun b c h => (by cases h), fun i b hi hw => rfl⟩
    · simp only [lk] at hi
      split at hi
      · rename_i e; subst e; injection hi with hi; subst hi
        exact ⟨c, t, z, hh, hc⟩
      · split at hi
        · rename_i e; subst e; injection hi with hi; subst hi
          obtain ⟨c, t, z, h1, h2⟩ := h64
          exact ⟨c, t, z, h1, h2 _⟩
        · split at hi
          · rename_i e; subst e; injection hi with hi; subst hi
            obtain ⟨c, t, z, h1, h2⟩ := hno
            exact ⟨c, t, z, h1, h2 _⟩
          · cases hi
    · simp only [lk] at hi
      split at hi
      · injection hi with hi; subst hi; cases hw
      · split at hi
        · injection hi with hi; subst hi; cases hw
        · split at hi
          · injection hi with hi; subst hi; cases hw
          · cases hi
  have none0 : x.ws = [] → ∀ R : Ren, ∀ c o, conL R (ints (flI x.ws)) c o := fun h R c o i y hi => by rw [h] at hi; simp [flI, ints] at hi
  rcases hsv with ⟨rfl, hws⟩ | ⟨a, cap, rfl, hcap, hcell⟩
  · obtain ⟨c, t, z, h1, _⟩ := hno
    exact ⟨0, 0, fin 0 0 c t z h1 (none0 hws _ _ _), .inr ⟨by rw [hws]; rfl, rfl⟩⟩
  · by_cases h0 : x.ws.length = 0
    · obtain ⟨c, t, z, h1, _⟩ := hno
      exact ⟨0, 0, fin 0 0 c t z h1 (none0 (List.length_eq_zero_iff.1 h0) _ _ _), .inl ⟨a, cap, rfl, fun h => by omega, hcap⟩⟩
    · have hs := spot0 (hcell 0 (by omega)).1
      obtain ⟨c, t, z, hh, _⟩ := add_cell (hcell 0 (by omega)).1
      have get : ∀ n v, W.cell? (a.add n) = some v → c[a.off + n]? = some v := fun n v h => by
        obtain ⟨c', t', z', hh', hv⟩ := add_cell h
        rw [hh] at hh'
        injection hh' with hh'
        injection hh' with e1 e2 e3
        rw [e1]; exact hv
      refine ⟨a.block, a.off, fin _ _ c t z hh (conL_ints (flI_all x (p := fun i v => c[a.off + i]? = some (.int .i64 v)) fun i hi => ⟨get _ _ (hcell i hi).1, get _ _ (hcell i hi).2⟩)), .inl ⟨a, cap, rfl, fun _ => ?_, hcap⟩⟩
      obtain ⟨b, o, sp⟩ := a
      simp only at hs
      subst hs
      rfl
theorem gTab64 : Tryd.prog.globalNamed "math/bits.deBruijn64tab" = some 2 := by kernel_rfl
theorem gNone : Tryd.prog.globalNamed "bibelot/switches.none" = some 0 := by kernel_rfl
end Go.Proofs.YtfphkpdobbffeaaDoor
