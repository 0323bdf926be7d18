/-
  From a row's condition to the contracts: numbers, pairs, tables as the row reads them.
-/
import Derived.Test.YtimknijehaamlaaDoorSw5
import Derived.Test.YtimknijehaamlaaDoorCards
import Derived.Test.YtimknijehaamlaaDoorTie
import Derived.WalkKit
import Derived.ProofKit
import Derived.OpenShut
import Derived.Deep.DeepHandedRow
import Derived.Lib.LaidTab
import Derived.Stop.LaidErr
set_option linter.unusedSimpArgs false
set_option linter.unusedVariables false
namespace Go.Proofs.YtimknijehaamlaaDoor
open Go Go.AH Go.Lin Go.ChangeShapes Go.WideShapes Go.ChangeAt Go.RowKit
set_option maxRecDepth 100000

theorem cells38 : Tryd.prog.cellsOf 38 = 2 := by kernel_rfl
theorem cells3 : Tryd.prog.cellsOf 3 = 1 := by kernel_rfl
theorem cells22 : Tryd.prog.cellsOf 22 = 1 := by kernel_rfl
theorem laidOut : laidOutB Tryd.prog = true := by kernel_rfl

theorem cell_inv {W : World} {a : Addr} {v : Value} (h : W.cell? a = some v) : ∃ c t z, W.heap[a.block]? = some (.cells c t z) ∧ a.spot = none ∧ c[a.off]? = some v := by
  unfold World.cell? at h
  split at h
  · rename_i c t z hh
    split at h
    · cases h
    · rename_i hs
      exact ⟨c, t, z, hh, by simpa using hs, h⟩
  · cases h
section
variable {H : Type} {enc : TypeId × Value → H} {W : World} {base : Nat} {spare : Nat → Bool} {held : Bool}
theorem one_of_take {cs : List Value} {i : Nat} {v : Value} (h : (cs.drop i).take 1 = [v]) : cs[i]? = some v := by
  have := congrArg (·[0]?) h
  simpa [List.getElem?_take, List.getElem?_drop] using this
theorem trod_pair {fuel : Nat} {cs : List Value} {x : DataW H × List MemPlace} (h : DataW.trod enc Tryd.prog W base spare held fuel 38 cs = some x) : ∃ z0 z1, cs = [.int .i64 z0, .int .i64 z1] := by
  cases fuel with
  | zero => simp [DataW.trod] at h
  | succ fuel =>
    simp only [DataW.trod, Tryd.underlying38, cells38, cells3, Nat.mul_one] at h
    split at h
    · rename_i hl
      obtain ⟨xs, hm, _⟩ := Option.map_eq_some_iff.1 h
      obtain ⟨b0, _, hf0⟩ := Lib.mapM_at hm 0 0 rfl
      obtain ⟨b1, _, hf1⟩ := Lib.mapM_at hm 1 1 rfl
      obtain ⟨z0, hc0, _⟩ := DataW.trod_int Tryd.underlying3 hf0
      obtain ⟨z1, hc1, _⟩ := DataW.trod_int Tryd.underlying3 hf1
      refine ⟨z0, z1, ?_⟩
      match cs, hl with
      | [u, v], _ =>
        simp at hc0 hc1
        rw [hc0, hc1]
    · cases h
theorem choose_ws {len : Nat} {p : Nat → Int × Int → Prop} (h : ∀ i, i < len → ∃ w, p i w) : ∃ ws : List (Int × Int), ws.length = len ∧ ∀ i, i < len → p i (ws.getD i (0, 0)) := by
  induction len with
  | zero => exact ⟨[], rfl, fun i hi => by omega⟩
  | succ n ih =>
    obtain ⟨ws, h1, h2⟩ := ih fun i hi => h i (by omega)
    obtain ⟨w, hw⟩ := h n (by omega)
    refine ⟨ws ++ [w], by simp [h1], fun i hi => ?_⟩
    by_cases e : i < n
    · rw [List.getD_eq_getElem?_getD, List.getElem?_append_left (by omega), ← List.getD_eq_getElem?_getD]; exact h2 i e
    · obtain rfl : i = n := by omega
      rw [List.getD_eq_getElem?_getD, List.getElem?_append_right (by omega)]
      simpa [h1] using hw
/-- Pairs of numbers, as they lie. -/
def pairsAt (W : World) (v : Value) (ws : List (Int × Int)) : Prop := (v = .slice none 0 0 ∧ ws = []) ∨ ∃ a c, v = .slice (some a) ws.length c ∧ ws.length ≤ c ∧ ∀ i, i < ws.length → W.cell? (a.add (i * 2)) = some (.int .i64 (ws.getD i (0, 0)).1) ∧ W.cell? (a.add (i * 2 + 1)) = some (.int .i64 (ws.getD i (0, 0)).2)
theorem open_pairs {v : Value} {d : DataW H} {ps : List MemPlace} (hv : Value.okWide Tryd.prog W .any base 22 v) (h : DataW.Trod enc Tryd.prog W 0 spare held 22 v d ps) : ∃ ws : List (Int × Int), ws.length ≤ 9223372036854775807 ∧ pairsAt W v ws := by
  obtain ⟨fuel, h⟩ := h
  have hsl : v.cells = #[v] := by
    unfold Value.okWide at hv
    rw [Tryd.underlying22] at hv
    have hv : Cell.okWide Tryd.prog W .any base 22 v := hv
    unfold Cell.okWide at hv
    rw [Tryd.underlying22] at hv
    have hv : Cell.ok Tryd.prog W .any base 22 v := by cases v <;> exact hv
    unfold Cell.ok at hv
    rw [Tryd.underlying22] at hv
    cases v <;> first | rfl | exact absurd hv (by simp)
  have h : DataW.trod enc Tryd.prog W 0 spare held fuel 22 v.cells.toList = some (d, ps) := h
  rw [hsl] at h
  rcases DataW.trod_slice Tryd.underlying22 h with ⟨h3, _⟩ | ⟨a, len, cap, elems, rest, m, _, h3, _, _, hlc, hcm, hel, hall, _⟩
  · have h3 : [v] = [Value.slice none 0 0] := h3
    injection h3 with h3
    exact ⟨[], by simp, .inl ⟨h3, rfl⟩⟩
  · have h3 : [v] = [Value.slice (some a) len cap] := h3
    injection h3 with h3
    have hw : ∀ i, i < len → ∃ w : Int × Int, W.cell? (a.add (i * 2)) = some (.int .i64 w.1) ∧ W.cell? (a.add (i * 2 + 1)) = some (.int .i64 w.2) := fun i hi => by
      have h4 := hall i hi
      rw [cells38, List.getElem?_eq_getElem (by omega)] at h4
      obtain ⟨cs', g1, g2⟩ := Option.bind_eq_some_iff.1 h4
      obtain ⟨z0, z1, rfl⟩ := trod_pair g2
      obtain ⟨_, _, g3⟩ := World.cells?_some g1
      have k0 := g3 0 (by omega)
      have k1 := g3 1 (by omega)
      rw [Addr.add_add] at k0 k1
      exact ⟨(z0, z1), k0, k1⟩
    obtain ⟨ws, hws, hp⟩ := choose_ws hw
    have hcap : cap ≤ 9223372036854775807 := hcm
    exact ⟨ws, by omega, .inr ⟨a, cap, by rw [h3, hws], by omega, fun i hi => hp i (by rw [← hws]; exact hi)⟩⟩
end

theorem add_cell {W : World} {a : Addr} {n : Nat} {v : Value} (h : W.cell? (a.add n) = some v) : ∃ c t z, W.heap[a.block]? = some (.cells c t z) ∧ c[a.off + n]? = some v := by
  obtain ⟨c, t, z, h1, _, h3⟩ := cell_inv h
  unfold Addr.add at h1 h3
  split at h1
  · rename_i e; subst e
    rw [if_pos rfl] at h3
    exact ⟨c, t, z, h1, h3⟩
  · rename_i e
    rw [if_neg e] at h3
    exact ⟨c, t, z, h1, h3⟩
theorem flI_all (ws : List (Int × Int)) {p : Nat → Int → Prop} (h : ∀ i, i < ws.length → p (i * 2) (ws.getD i (0, 0)).1 ∧ p (i * 2 + 1) (ws.getD i (0, 0)).2) : ∀ i, i < (flI ws).length → p i ((flI ws).getD i 0) := fun i hi => by
  rw [flI_len] at hi
  obtain ⟨h0, h1⟩ := h (i / 2) (by omega)
  obtain ⟨g0, g1⟩ := flI_get ws (i / 2)
  by_cases e : i % 2 = 0
  · rw [show i / 2 * 2 = i by omega] at g0 h0
    rw [g0]; exact h0
  · rw [show i / 2 * 2 + 1 = i by omega] at g1 h1
    rw [g1]; exact h1
theorem conL_ints {R : Ren} {xs : List Int} {c : Array Value} {o : Nat} (h : ∀ i, i < xs.length → c[o + i]? = some (.int .i64 (xs.getD i 0))) : conL R (ints xs) c o := fun i y hi => by
  have hl : i < xs.length := by have := (List.getElem?_eq_some_iff.1 hi).1; rwa [ints_len] at this
  refine ⟨_, h i hl, ?_⟩
  have e : (ints xs).getD i (.int .i64 0) = .int .i64 (xs.getD i 0) := ints_getD _ _ _
  rw [List.getD_eq_getElem?_getD, hi] at e
  simp at e
  rw [e]; rfl
theorem spot0 {W : World} {a : Addr} {v : Value} (h : W.cell? (a.add (0 * 2)) = some v) : a.spot = none := by
  have e : a.add (0 * 2) = a := by simp [Addr.add]
  rw [e] at h
  obtain ⟨_, _, _, _, h2, _⟩ := cell_inv h
  exact h2
theorem gTab32 : Tryd.prog.globalNamed "math/bits.deBruijn32tab" = some 0 := by kernel_rfl
theorem gTab64 : Tryd.prog.globalNamed "math/bits.deBruijn64tab" = some 1 := by kernel_rfl
theorem own : ownKnob Tryd.prog.godebug = none := by kernel_rfl
theorem gTab64Type : (Tryd.prog.globals[1]?).map (·.type) = some 134 := by kernel_rfl
theorem cells134 : Tryd.prog.cellsOf 134 = 64 := by kernel_rfl
theorem cells5 : Tryd.prog.cellsOf 5 = 1 := by kernel_rfl
def lays : List (String × DataW Unit) := [("math/bits.deBruijn32tab", Rows.laid_math_bits_deBruijn32tab), ("math/bits.deBruijn64tab", Rows.laid_math_bits_deBruijn64tab)]
theorem tab64_is {W : World} (h : laidMet Tryd.prog lays W) : Lib.TabIs Tryd.prog W "math/bits.deBruijn64tab" .u8 tabI :=
  Lib.tabIs_of_head (rest := []) gTab64 gTab64Type Tryd.underlying134 Tryd.underlying5 cells5 cells134 (laidMet.tail h)
theorem tab_cells {W : World} {g : Nat} {k : IntKind} {zs : List Int} (hl : 0 < zs.length) (h : ∀ i, i < zs.length → W.cell? ⟨g, i, none⟩ = some (.int k (zs.getD i 0))) : ∃ c t z, W.heap[g]? = some (.cells c t z) ∧ ∀ R : Ren, conL R (zs.map (AC.int k)) c 0 := by
  obtain ⟨c, t, z, hh, _, _⟩ := cell_inv (h 0 hl)
  refine ⟨c, t, z, hh, fun R i x hx => ?_⟩
  have hi : i < zs.length := by have := (List.getElem?_eq_some_iff.1 hx).1; simpa using this
  obtain ⟨c', t', z', hh', _, hv⟩ := cell_inv (h i hi)
  rw [show (⟨g, 0, none⟩ : Addr).block = (⟨g, i, none⟩ : Addr).block from rfl, hh'] at hh
  injection hh with hh
  injection hh with e1 _ _
  refine ⟨.int k (zs.getD i 0), by rw [Nat.zero_add, ← e1]; exact hv, ?_⟩
  simp only [List.getElem?_map] at hx
  rw [List.getD_eq_getElem?_getD]
  obtain ⟨y, hy, rfl⟩ := Option.map_eq_some_iff.1 hx
  rw [hy]; rfl
theorem tab64_cells {W : World} (h : laidMet Tryd.prog lays W) : ∃ c t z, W.heap[1]? = some (.cells c t z) ∧ ∀ R : Ren, conL R tab64 c 0 :=
  tab_cells (zs := tabI) (by decide) fun i hi => (tab64_is h).cell gTab64 i hi
/-- Numbers of blocks: where each lies. -/
def renL (l : List (Nat × Nat)) : Ren := ⟨fun i => if i < GB then (l.getD i (0, 0)).1 else i - GB, fun i => if i < GB then (l.getD i (0, 0)).2 else 0, fun _ => 0⟩
theorem renL_ok (l : List (Nat × Nat)) : (renL l).ok := ⟨fun i => by show (if GB + i < GB then _ else GB + i - GB) = i; rw [if_neg (by omega)]; omega, fun i => by show (if GB + i < GB then _ else 0) = 0; rw [if_neg (by omega)], fun i => rfl⟩
theorem hrel_ro {R : Ren} {hp : List (Nat × ABlk)} {w : World} (hro : allRo hp = true) (h : ∀ i b, lk hp i = some b → BRel R i w b) : HRel R hp w :=
  ⟨h, fun i j b c hi _ _ hw => by rw [allRo_sound hro i b hi] at hw; cases hw⟩
/-- Pairs lie in a block. -/
theorem pairs_block {W : World} {v : Value} {ws : List (Int × Int)} (h : pairsAt W v ws) (h0 : ∃ c t z, W.heap[1]? = some (.cells c t z)) :
    ∃ b off c t z, W.heap[b]? = some (.cells c t z) ∧ (∀ R, conL R (ints (flI ws)) c off) ∧ ∀ (R : Ren) (id : Nat), R.ρ id = b → R.δ id = off → conC R (.rs id 0 ws.length) v := by
  obtain ⟨c0, t0, z0, hh0⟩ := h0
  have nil : ws = [] → ∀ R : Ren, ∀ c o, conL R (ints (flI ws)) c o := fun e R c o i y hi => by rw [e] at hi; simp [ints, flI] at hi
  rcases h with ⟨rfl, hL⟩ | ⟨a, cap, rfl, hcap, hcell⟩
  · exact ⟨1, 0, c0, t0, z0, hh0, fun R => nil hL R _ _, fun R id _ _ => .inr ⟨by rw [hL]; rfl, rfl⟩⟩
  · by_cases e0 : ws.length = 0
    · exact ⟨1, 0, c0, t0, z0, hh0, fun R => nil (List.length_eq_zero_iff.1 e0) R _ _, fun R id _ _ => .inl ⟨a, cap, rfl, fun h => by omega, hcap⟩⟩
    · have hs := spot0 (hcell 0 (by omega)).1
      obtain ⟨c, t, z, hh, _⟩ := add_cell (hcell 0 (by omega)).1
      have get : ∀ n v, W.cell? (a.add n) = some v → c[a.off + n]? = some v := fun n v h => by
        obtain ⟨c', t', z', hh', hv⟩ := add_cell h
        rw [hh] at hh'
        injection hh' with hh'
        injection hh' with e1 e2 e3
        rw [e1]; exact hv
      refine ⟨a.block, a.off, c, t, z, hh, fun R => conL_ints (flI_all ws (p := fun i v => c[a.off + i]? = some (.int .i64 v)) fun i hi => ⟨get _ _ (hcell i hi).1, get _ _ (hcell i hi).2⟩), fun R id e1 e2 => .inl ⟨a, cap, rfl, fun _ => ?_, hcap⟩⟩
      unfold Ren.adr
      rw [e1, e2]
      obtain ⟨b, o, sp⟩ := a
      simp only at hs
      subst hs
      rfl
theorem open_int {W : World} {base : Nat} {v : Value} (hv : Value.okWide Tryd.prog W .any base 3 v) : ∃ n, v = .int .i64 n := by
  unfold Value.okWide at hv
  rw [Tryd.underlying3] at hv
  have hv : Cell.okWide Tryd.prog W .any base 3 v := hv
  unfold Cell.okWide at hv
  rw [Tryd.underlying3] at hv
  have hv : Cell.ok Tryd.prog W .any base 3 v := by cases v <;> exact hv
  unfold Cell.ok at hv
  rw [Tryd.underlying3] at hv
  cases v <;> first | exact False.elim hv | (obtain ⟨rfl, _⟩ := hv; exact ⟨_, rfl⟩)
/-- A law of a number and pairs: from its contract to its calls. -/
theorem calls_np {f : FuncId} {W : World} {n : Int} {sv : Value} {ws : List (Int × Int)} (hc : FDet Tryd.prog f [.c (.int .i64 n), .c (.rs 0 0 ws.length)] [(0, .ro (ints (flI ws))), (100001, .ro tab64)] 1 (.c (.bool true)) [] 1)
    (hp : pairsAt W sv ws) (hL : laidMet Tryd.prog lays W) : Calls Tryd.prog f #[.int .i64 n, sv] W fun e W' => e = .returned (.bool true) ∧ Below W.heap.size W W' := by
  have h64 := tab64_cells hL
  have hc0 : ∃ c t z, W.heap[1]? = some (.cells c t z) := by obtain ⟨c, t, z, h, _⟩ := h64; exact ⟨c, t, z, h⟩
  obtain ⟨b, off, c, t, z, hb, hcc, hs⟩ := pairs_block hp hc0
  obtain ⟨c2, t2, z2, hb2, hcc2⟩ := h64
  have hR : HRel (renL [(b, off)]) [(0, .ro (ints (flI ws))), (100001, .ro tab64)] W := by
    refine hrel_ro rfl fun i bl hi => ?_
    simp only [lk] at hi
    split at hi
    · rename_i e; subst e; injection hi with hi; subst hi; exact ⟨c, t, z, hb, hcc _⟩
    · split at hi
      · rename_i e; subst e; injection hi with hi; subst hi; exact ⟨c2, t2, z2, hb2, hcc2 _⟩
      · cases hi
  refine (hc.run W (renL [(b, off)]) _ (renL_ok _) rfl (fun i v hi => ?_) hR).mono ?_
  · match i, hi with
    | 0, hi => injection hi with hi; subst hi; exact ⟨_, rfl, rfl⟩
    | 1, hi => injection hi with hi; subst hi; exact ⟨_, rfl, hs _ _ rfl rfl⟩
    | _ + 2, hi => simp at hi
  · rintro e w' ⟨u, r, hp', k', R', h1, ⟨h2, _, _⟩, _, _, _, h6, _, _, _, _, _, h12⟩
    subst h2
    have hu : u = .bool true := h6
    subst hu
    refine ⟨h1, (h12.mono ?_).below⟩
    rintro j ⟨i, bl, g1, g2, _⟩
    rw [allRo_sound (show allRo [(0, .ro (ints (flI ws))), (100001, .ro tab64)] = true from rfl) i bl g1] at g2
    cases g2
def lay (vs : Array Value) : Obj → Obj
  | .cells _ t z => .cells vs t z
  | o => o
/-- A world for the witness: the settled one, with the tables as they are laid. -/
noncomputable def laidWorld (os : Os) : World :=
  { World.holding Tryd.prog os ⟨#[], #[], []⟩ with heap := ((World.holding Tryd.prog os ⟨#[], #[], []⟩).heap.modify 0 (lay ((([0, 1, 28, 2, 29, 14, 24, 3, 30, 22, 20, 15, 25, 17, 4, 8, 31, 27, 13, 23, 21, 19, 16, 7, 26, 12, 18, 6, 11, 5, 10, 9] : List Int).map (Value.int .u8)).toArray))).modify 1 (lay ((tabI.map (Value.int .u8)).toArray)) }
end Go.Proofs.YtimknijehaamlaaDoor
