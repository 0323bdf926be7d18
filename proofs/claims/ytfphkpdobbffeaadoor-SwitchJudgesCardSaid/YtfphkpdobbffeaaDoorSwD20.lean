/-
  SwitchJudges: for every game, every two lists and every lists of places it returns true, and the input reads as it did.
-/
import Derived.Test.YtfphkpdobbffeaaDoorSwD8
import Derived.Test.YtfphkpdobbffeaaDoorSw9
set_option linter.unusedSimpArgs false
set_option linter.unusedVariables false
namespace Go.Proofs.YtfphkpdobbffeaaDoor
open Go Go.AH Go.ChangeShapes Go.WideShapes Go.ChangeAt Go.RowKit
set_option maxRecDepth 100000

theorem choose_lists {len : Nat} {p : Nat → List Int → Prop} (h : ∀ i, i < len → ∃ w, p i w) : ∃ L : List (List Int), L.length = len ∧ ∀ i, i < len → p i (L.getD i []) := by
  induction len with
  | zero => exact ⟨[], rfl, fun i hi => by omega⟩
  | succ n ih =>
    obtain ⟨ws, h1, h2⟩ := ih fun i hi => h i (by omega)
    obtain ⟨w, hw⟩ := h n (by omega)
    refine ⟨ws ++ [w], by simp [h1], fun i hi => ?_⟩
    by_cases e : i < n
    · rw [List.getD_eq_getElem?_getD, List.getElem?_append_left (by omega), ← List.getD_eq_getElem?_getD]; exact h2 i e
    · obtain rfl : i = n := by omega
      rw [List.getD_eq_getElem?_getD, List.getElem?_append_right (by omega)]
      simpa [h1] using hw
def listsAt (W : World) (v : Value) (P : List (List Int)) : Prop := (v = .slice none 0 0 ∧ P = []) ∨ ∃ a c, v = .slice (some a) P.length c ∧ P.length ≤ c ∧ ∀ i, i < P.length → ∃ u, W.cell? (a.add i) = some u ∧ intsAt W u (P.getD i [])
theorem cells37 : Tryd.prog.cellsOf 37 = 1 := by kernel_rfl
theorem cells38 : Tryd.prog.cellsOf 38 = 2 := by kernel_rfl
section
variable {H : Type} {enc : TypeId × Value → H} {W : World} {base : Nat} {spare : Nat → Bool} {held : Bool}
theorem open_ints1 {v : Value} {fuel : Nat} {d : DataW H} {ps : List MemPlace} (h : DataW.trod enc Tryd.prog W 0 spare held fuel 37 [v] = some (d, ps)) : ∃ L : List Int, L.length ≤ 9223372036854775807 ∧ intsAt W v L := by
  rcases DataW.trod_slice Tryd.underlying37 h with ⟨h3, _⟩ | ⟨a, len, cap, elems, rest, m, _, h3, _, _, hlc, hcm, hel, hall, _⟩
  · have h3 : [v] = [Value.slice none 0 0] := h3
    injection h3 with h3
    exact ⟨[], by simp, .inl ⟨h3, rfl⟩⟩
  · have h3 : [v] = [Value.slice (some a) len cap] := h3
    injection h3 with h3
    have hw : ∀ i, i < len → ∃ w : Int, W.cell? (a.add i) = some (.int .i64 w) := fun i hi => by
      have h4 := hall i hi
      rw [cells3, List.getElem?_eq_getElem (by omega)] at h4
      obtain ⟨cs', g1, g2⟩ := Option.bind_eq_some_iff.1 h4
      obtain ⟨z0, rfl, _⟩ := DataW.trod_int Tryd.underlying3 g2
      obtain ⟨_, _, g3⟩ := World.cells?_some g1
      have k0 := g3 0 (by omega)
      rw [Addr.add_add, Nat.mul_one, Nat.add_zero] at k0
      exact ⟨z0, k0⟩
    obtain ⟨L, hL, hp⟩ := choose_ints hw
    have hcap : cap ≤ 9223372036854775807 := hcm
    exact ⟨L, by omega, .inr ⟨a, cap, by rw [h3, hL], by omega, fun i hi => hp i (by omega)⟩⟩
theorem open_two {v : Value} {d : DataW H} {ps : List MemPlace} (hv : Value.okWide Tryd.prog W .any base 38 v) (h : DataW.Trod enc Tryd.prog W 0 spare held 38 v d ps) :
    ∃ (s0 s1 : Value) (L0 L1 : List Int), v = .agg #[s0, s1] ∧ (L0.length ≤ 9223372036854775807 ∧ intsAt W s0 L0) ∧ (L1.length ≤ 9223372036854775807 ∧ intsAt W s1 L1) := by
  obtain ⟨fuel, h⟩ := h
  obtain ⟨cs, rfl, hsz, _⟩ : ∃ cs, v = .agg cs ∧ cs.size = Tryd.prog.cellsOf 38 ∧ Row.okWide Tryd.prog W .any base 38 cs := by
    unfold Value.okWide at hv
    rw [Tryd.underlying38] at hv
    exact hv
  rw [cells38] at hsz
  obtain ⟨xs, n, _, _, hl, hlen, hf⟩ := DataW.trod_array Tryd.underlying38 h
  have f0 := hf 0 (by omega)
  have f1 := hf 1 (by omega)
  rw [cells37] at f0 f1
  match hq : cs.toList, (show cs.toList.length = 2 by simpa using hsz) with
  | [s0, s1], _ =>
    have hcl : (Value.agg cs).cells.toList = [s0, s1] := hq
    rw [hcl] at f0 f1
    have e : ∀ i, i < 2 → ∃ y, xs[i]? = some y := fun i hi => ⟨xs[i]'(by omega), List.getElem?_eq_getElem _⟩
    obtain ⟨⟨d0, p0⟩, e0⟩ := e 0 (by omega)
    obtain ⟨⟨d1, p1⟩, e1⟩ := e 1 (by omega)
    rw [e0] at f0
    rw [e1] at f1
    obtain ⟨L0, h0⟩ := open_ints1 f0
    obtain ⟨L1, h1⟩ := open_ints1 f1
    refine ⟨s0, s1, L0, L1, ?_, h0, h1⟩
    congr 1
    apply Array.ext'
    rw [hq]
theorem open_lists {v : Value} {d : DataW H} {ps : List MemPlace} (hv : Value.okWide Tryd.prog W .any base 41 v) (h : DataW.Trod enc Tryd.prog W 0 spare held 41 v d ps) : ∃ P : List (List Int), P.length ≤ 9223372036854775807 ∧ (∀ a ∈ P, a.length ≤ 9223372036854775807) ∧ listsAt W v P := by
  obtain ⟨fuel, h⟩ := h
  have hsl : v.cells = #[v] := by
    unfold Value.okWide at hv
    rw [Tryd.underlying41] at hv
    have hv : Cell.okWide Tryd.prog W .any base 41 v := hv
    unfold Cell.okWide at hv
    rw [Tryd.underlying41] at hv
    have hv : Cell.ok Tryd.prog W .any base 41 v := by cases v <;> exact hv
    unfold Cell.ok at hv
    rw [Tryd.underlying41] at hv
    cases v <;> first | rfl | exact absurd hv (by simp)
  have h : DataW.trod enc Tryd.prog W 0 spare held fuel 41 v.cells.toList = some (d, ps) := h
  rw [hsl] at h
  rcases DataW.trod_slice Tryd.underlying41 h with ⟨h3, _⟩ | ⟨a, len, cap, elems, rest, m, _, h3, _, _, hlc, hcm, hel, hall, _⟩
  · have h3 : [v] = [Value.slice none 0 0] := h3
    injection h3 with h3
    exact ⟨[], by simp, by simp, .inl ⟨h3, rfl⟩⟩
  · have h3 : [v] = [Value.slice (some a) len cap] := h3
    injection h3 with h3
    have hw : ∀ i, i < len → ∃ L : List Int, L.length ≤ 9223372036854775807 ∧ ∃ u, W.cell? (a.add i) = some u ∧ intsAt W u L := fun i hi => by
      have h4 := hall i hi
      rw [cells37, List.getElem?_eq_getElem (by omega)] at h4
      obtain ⟨cs', g1, g2⟩ := Option.bind_eq_some_iff.1 h4
      obtain ⟨_, g4, g3⟩ := World.cells?_some g1
      have k0 := g3 0 (by omega)
      rw [Addr.add_add, Nat.mul_one, Nat.add_zero] at k0
      match cs', g4, g2, k0 with
      | [u], _, g2, k0 =>
        obtain ⟨L, hL, hu⟩ := open_ints1 (v := u) g2
        exact ⟨L, hL, u, k0, hu⟩
    obtain ⟨P, hP, hp⟩ := choose_lists hw
    have hcap : cap ≤ 9223372036854775807 := hcm
    refine ⟨P, by omega, fun b hb => ?_, .inr ⟨a, cap, by rw [h3, hP], by omega, fun i hi => (hp i (by omega)).2⟩⟩
    obtain ⟨i, hi, rfl⟩ := List.getElem_of_mem hb
    have := (hp i (by omega)).1
    rwa [List.getD_eq_getElem?_getD, List.getElem?_eq_getElem hi] at this

end
def Zall (W : World) : Nat → Option (Array Value) := fun b => match W.heap[b]? with
  | some (.cells c _ _) => some c
  | _ => none
theorem Zall_ok (W : World) : Zok (Zall W) W := fun b c h => by
  unfold Zall at h
  split at h
  · rename_i c' t v e; injection h with h; subst h; exact ⟨t, v, e⟩
  · cases h
def renL (W : World) (l : List (Nat × Nat)) : Ren := ⟨fun i => if i < GB then (l.getD i (0, 0)).1 else i - GB, fun i => if i < GB then (l.getD i (0, 0)).2 else 0, fun _ => 0, Zall W⟩
theorem renL_ok (W : World) (l : List (Nat × Nat)) : (renL W l).ok := ⟨fun i => by show (if GB + i < GB then _ else GB + i - GB) = i; rw [if_neg (by omega)]; omega, fun i => by show (if GB + i < GB then _ else 0) = 0; rw [if_neg (by omega)], fun i => rfl⟩
theorem hrel_ro {R : Ren} {hp : List (Nat × ABlk)} {w : World} (hro : allRo hp = true) (h : ∀ i b, lk hp i = some b → BRel R i w b) (hz : R.z = Zall w := by rfl) : HRel R hp w :=
  ⟨h, (fun i j b c hi _ _ hw => by rw [allRo_sound hro i b hi] at hw; cases hw), (by rw [hz]; exact Zall_ok w), (fun i b hi hw => by rw [allRo_sound hro i b hi] at hw; cases hw)⟩
theorem ints_block {W : World} {v : Value} {L : List Int} (h : intsAt W v L) (h0 : ∃ c t z, W.heap[0]? = some (.cells c t z)) :
    ∃ b off c t z, W.heap[b]? = some (.cells c t z) ∧ (∀ R, conL R (ints L) c off) ∧ ∀ (R : Ren) (id : Nat), R.ρ id = b → R.δ id = off → conC R (.rs id 0 L.length) v := by
  obtain ⟨b1, off1, ⟨c, t, z, h1, h2⟩, h3⟩ := rel_ints h 0 0 h0
  have hp : ∀ x ∈ ints L, x.prim = true := fun x hx => by obtain ⟨n, _, rfl⟩ := List.mem_map.1 hx; rfl
  refine ⟨b1, off1, c, t, z, h1, fun R => conL_prim hp h2, fun R id e1 e2 => ?_⟩
  rcases h3 with ⟨a, c', g1, g2, g3⟩ | h3
  · exact .inl ⟨a, c', g1, fun hl => by rw [g2 hl]; unfold Ren.adr; rw [e1, e2]; rfl, g3⟩
  · exact .inr h3
theorem game_block {W : World} {x : Rw} {sv : Value}
    (hsv : (sv = .slice none 0 0 ∧ x.ws = []) ∨ ∃ a c, sv = .slice (some a) x.ws.length c ∧ x.ws.length ≤ c ∧ ∀ i, i < x.ws.length → W.cell? (a.add (i * 2)) = some (.int .i64 (x.ws.getD i (0, 0)).1) ∧ W.cell? (a.add (i * 2 + 1)) = some (.int .i64 (x.ws.getD i (0, 0)).2))
    (h64 : ∃ c t z, W.heap[2]? = some (.cells c t z) ∧ ∀ R : Ren, conL R tab64 c 0) (hno : ∃ c t z, W.heap[0]? = some (.cells c t z) ∧ ∀ R : Ren, conL R [.int .i64 (-1), .int .i64 (-1)] c 0) :
    ∃ b off c t z, W.heap[b]? = some (.cells c t z) ∧ (∀ R, conL R (ints (flI x.ws)) c off) ∧ ∀ (R : Ren) (id : Nat), R.ρ id = b → R.δ id = off → conC R (.rs id 0 x.ws.length) sv := by
  obtain ⟨b, off, hR, hs⟩ := rel_game hsv h64 hno
  obtain ⟨c, t, z, h1, h2⟩ := hR.blk 0 (rB x) rfl
  have hp : ∀ y ∈ ints (flI x.ws), y.prim = true := fun y hy => by obtain ⟨n, _, rfl⟩ := List.mem_map.1 hy; rfl
  refine ⟨b, off, c, t, z, h1, fun R => conL_prim hp h2, fun R id e1 e2 => ?_⟩
  rcases hs with ⟨a, c', g1, g2, g3⟩ | h3
  · exact .inl ⟨a, c', g1, fun hl => by rw [g2 hl]; unfold Ren.adr; rw [e1, e2]; rfl, g3⟩
  · exact .inr h3
theorem kr_ints {W : World} {u : Value} {L : List Int} (h : intsAt W u L) : KR (Zall W) (.leaf 1 L.length L) u := by
  rw [KR]
  refine ⟨by simp, ?_⟩
  rcases h with ⟨rfl, hL⟩ | ⟨a, cap, rfl, hcap, hcell⟩
  · exact .inr ⟨by rw [hL]; rfl, .inl rfl⟩
  · by_cases e0 : L.length = 0
    · exact .inr ⟨e0, .inr ⟨a, cap, by rw [e0]⟩⟩
    · obtain ⟨c, t, z, hh, _⟩ := add_cell (hcell 0 (by omega))
      have hs : a.spot = none := by
        have h2 := hcell 0 (by omega)
        have e : a.add 0 = a := by simp [Addr.add]
        rw [e] at h2
        obtain ⟨_, _, _, _, h3, _⟩ := cell_inv h2
        exact h3
      refine .inl ⟨a.block, a.off, cap, c, by obtain ⟨b', o, sp⟩ := a; simp only at hs; subst hs; rfl, hcap, by unfold Zall; rw [hh], fun i x hi => ?_⟩
      have hil : i < L.length := by
        by_cases hil : i < L.length
        · exact hil
        · rw [List.getElem?_eq_none (by omega)] at hi; cases hi
      obtain ⟨c', t', z', hh', hv⟩ := add_cell (hcell i hil)
      rw [hh] at hh'
      injection hh' with hh'
      injection hh' with e1 e2 e3
      rw [e1, hv, List.getD_eq_getElem?_getD, hi]
      rfl
theorem lists_block {W : World} {v : Value} {P : List (List Int)} (h : listsAt W v P) (h0 : ∃ c t z, W.heap[0]? = some (.cells c t z)) :
    ∃ b off c t z, W.heap[b]? = some (.cells c t z) ∧ (∀ R : Ren, R.z = Zall W → conL R (tvC P) c off) ∧ ∀ (R : Ren) (id : Nat), R.ρ id = b → R.δ id = off → conC R (.rs id 0 P.length) v := by
  obtain ⟨c0, t0, z0, hh0⟩ := h0
  have nil : ∀ R : Ren, ∀ c o, P = [] → conL R (tvC P) c o := fun R c o e i y hi => by rw [e] at hi; simp [tvC] at hi
  rcases h with ⟨rfl, hL⟩ | ⟨a, cap, rfl, hcap, hcell⟩
  · exact ⟨0, 0, c0, t0, z0, hh0, fun R _ => nil _ _ _ hL, fun R id _ _ => .inr ⟨by rw [hL]; rfl, rfl⟩⟩
  · by_cases e0 : P.length = 0
    · exact ⟨0, 0, c0, t0, z0, hh0, fun R _ => nil _ _ _ (List.length_eq_zero_iff.1 e0), fun R id _ _ => .inl ⟨a, cap, rfl, fun h => by omega, hcap⟩⟩
    · obtain ⟨u0, hu0, _⟩ := hcell 0 (by omega)
      obtain ⟨c, t, z, hh, _⟩ := add_cell hu0
      have hs : a.spot = none := by
        have e : a.add 0 = a := by simp [Addr.add]
        rw [e] at hu0
        obtain ⟨_, _, _, _, h3, _⟩ := cell_inv hu0
        exact h3
      refine ⟨a.block, a.off, c, t, z, hh, fun R hR i y hi => ?_, fun R id e1 e2 => .inl ⟨a, cap, rfl, fun _ => ?_, hcap⟩⟩
      · unfold tvC at hi
        rw [List.getElem?_map] at hi
        cases hq : P[i]? with
        | none => rw [hq] at hi; cases hi
        | some L =>
          rw [hq] at hi
          injection hi with hi; subst hi
          have hil : i < P.length := by
            by_cases hil : i < P.length
            · exact hil
            · rw [List.getElem?_eq_none (by omega)] at hq; cases hq
          obtain ⟨u, hu, hL⟩ := hcell i hil
          rw [List.getD_eq_getElem?_getD, hq] at hL
          obtain ⟨c', t', z', hh', hv⟩ := add_cell hu
          rw [hh] at hh'
          injection hh' with hh'
          injection hh' with e1 e2 e3
          refine ⟨u, by rw [e1]; exact hv, ?_⟩
          show KR R.z _ _
          rw [hR]; exact kr_ints hL
      · unfold Ren.adr
        rw [e1, e2]
        obtain ⟨b', o, sp⟩ := a
        simp only at hs
        subst hs
        rfl
namespace switchJudges
theorem calls_it {W : World} {x : Rw} {sv s0 s1 : Value} {sp : Value} {L0 L1 : List Int} {P : List (List Int)} (k0 : L0.length ≤ 9223372036854775807) (k1 : L1.length ≤ 9223372036854775807) (kP : P.length ≤ 9223372036854775807) (kPa : ∀ a ∈ P, a.length ≤ 9223372036854775807) (h4 : x.ws.length ≤ 9223372036854775807)
    (hsv : (sv = .slice none 0 0 ∧ x.ws = []) ∨ ∃ a c, sv = .slice (some a) x.ws.length c ∧ x.ws.length ≤ c ∧ ∀ i, i < x.ws.length → W.cell? (a.add (i * 2)) = some (.int .i64 (x.ws.getD i (0, 0)).1) ∧ W.cell? (a.add (i * 2 + 1)) = some (.int .i64 (x.ws.getD i (0, 0)).2))
    (hl0 : intsAt W s0 L0) (hl1 : intsAt W s1 L1) (hlP : listsAt W sp P)
    (h64 : ∃ c t z, W.heap[2]? = some (.cells c t z) ∧ ∀ R : Ren, conL R tab64 c 0) (hno : ∃ c t z, W.heap[0]? = some (.cells c t z) ∧ ∀ R : Ren, conL R [.int .i64 (-1), .int .i64 (-1)] c 0) :
    Calls Tryd.prog 7 #[.agg #[.int .i64 x.n, .int .i64 x.s, .int .i64 x.t, sv], .agg #[s0, s1], sp] W fun e W' => e = .returned (.bool true) ∧ Below W.heap.size W W' := by
  have hc0 : ∃ c t z, W.heap[0]? = some (.cells c t z) := by obtain ⟨c, t, z, h, _⟩ := hno; exact ⟨c, t, z, h⟩
  obtain ⟨b, off, c, t, z, hb, hc, hs⟩ := game_block hsv h64 hno
  obtain ⟨b0, off0, c0, t0, z0, hb0, hcc0, hs0⟩ := ints_block hl0 hc0
  obtain ⟨b1, off1, c1, t1, z1, hb1, hcc1, hs1⟩ := ints_block hl1 hc0
  obtain ⟨bP, offP, cP, tP, zP, hbP, hccP, hsP⟩ := lists_block hlP hc0
  obtain ⟨c2, t2, z2, hb2, hcc2⟩ := h64
  obtain ⟨c3, t3, z3, hb3, hcc3⟩ := hno
  have hR : HRel (renL W [(b, off), (b0, off0), (b1, off1), (bP, offP)]) [(0, rB x), (1, .ro (ints L0)), (2, .ro (ints L1)), (3, .ro (tvC P)), (100002, .ro tab64), (100000, noneB)] W := by
    refine hrel_ro rfl fun i bl hi => ?_
    simp only [lk] at hi
    split at hi
    · rename_i e; subst e; injection hi with hi; subst hi; exact ⟨c, t, z, hb, hc _⟩
    · split at hi
      · rename_i e; subst e; injection hi with hi; subst hi; exact ⟨c0, t0, z0, hb0, hcc0 _⟩
      · split at hi
        · rename_i e; subst e; injection hi with hi; subst hi; exact ⟨c1, t1, z1, hb1, hcc1 _⟩
        · split at hi
          · rename_i e; subst e; injection hi with hi; subst hi; exact ⟨cP, tP, zP, hbP, hccP _ rfl⟩
          · split at hi
            · rename_i e; subst e; injection hi with hi; subst hi; exact ⟨c2, t2, z2, hb2, hcc2 _⟩
            · split at hi
              · rename_i e; subst e; injection hi with hi; subst hi; exact ⟨c3, t3, z3, hb3, hcc3 _⟩
              · cases hi
  refine ((judges_all x L0 L1 P h4 k0 k1 kP kPa).run W (renL W [(b, off), (b0, off0), (b1, off1), (bP, offP)]) _ (renL_ok _ _) rfl (fun i v hi => ?_) hR).mono ?_
  · match i, hi with
    | 0, hi =>
      injection hi with hi
      subst hi
      refine ⟨_, rfl, _, rfl, rfl, fun j y hj => ?_⟩
      match j, hj with
      | 0, hj => injection hj with hj; subst hj; exact ⟨_, rfl, rfl⟩
      | 1, hj => injection hj with hj; subst hj; exact ⟨_, rfl, rfl⟩
      | 2, hj => injection hj with hj; subst hj; exact ⟨_, rfl, rfl⟩
      | 3, hj => injection hj with hj; subst hj; exact ⟨_, rfl, hs _ _ rfl rfl⟩
      | _ + 4, hj => simp [rC] at hj
    | 1, hi =>
      injection hi with hi
      subst hi
      refine ⟨_, rfl, _, rfl, rfl, fun j y hj => ?_⟩
      match j, hj with
      | 0, hj => injection hj with hj; subst hj; exact ⟨_, rfl, hs0 _ _ rfl rfl⟩
      | 1, hj => injection hj with hj; subst hj; exact ⟨_, rfl, hs1 _ _ rfl rfl⟩
      | _ + 2, hj => simp at hj
    | 2, hi => injection hi with hi; subst hi; exact ⟨_, rfl, hsP _ _ rfl rfl⟩
    | _ + 3, hi => simp at hi
  · rintro e w' ⟨u, r, hp', k', R', h1, ⟨h2, _, _⟩, _, _, _, h6, _, _, _, _, _, h12, _⟩
    subst h2
    have hu : u = .bool true := h6
    subst hu
    refine ⟨h1, (h12.mono ?_).below⟩
    rintro j ⟨i, bl, g1, g2, _⟩
    rw [allRo_sound (show allRo [(0, rB x), (1, .ro (ints L0)), (2, .ro (ints L1)), (3, .ro (tvC P)), (100002, .ro tab64), (100000, noneB)] = true from rfl) i bl g1] at g2
    cases g2
theorem contract (H : Type) (enc : TypeId × Value → H) (W : World) (base : Nat) (args : Array Value) (ds gs : List (DataW H)) (before : List MemPlace)
    (hval : ∀ (j : Nat) t v, Tryd.f7.params[j]? = some t → args[j]? = some v → Value.okWide Tryd.prog W .any base t v)
    (hW : DataW.Whole enc Tryd.prog Tryd.f7.params.toList Rows.switchJudgesSpec.vars false W args.toList ds gs before) (hL : laidMetH Tryd.prog Rows.switchJudgesRow.laid W) :
    Calls Tryd.prog 7 args W fun e W' => ∃ v, e = .returned v ∧ Rows.switchJudgesSpec.post enc Tryd.prog Tryd.f7 false true false false W args v W' := by
  have hW' := hW
  obtain ⟨p, q, hA0, hV, rfl, hfz, hnd⟩ := hW
  have hA : DataW.TrodAll enc Tryd.prog W 0 (fun _ => true) true Tryd.f7.params.toList args.toList ds p := hA0
  rw [Tryd.params7] at hA hval
  obtain ⟨v0, v1, v2, d0, d1, d2, p0, p1, p2, rfl, rfl, rfl, h0, h1, h2⟩ := trodAll_three hA
  obtain ⟨rfl, rfl⟩ := trodVars_none hV
  obtain ⟨x, sv, rfl, h4, hsv⟩ := open_game (hval 0 24 v0 rfl rfl) h0
  obtain ⟨s0, s1, L0, L1, rfl, ⟨k0, hl0⟩, k1, hl1⟩ := open_two (hval 1 38 v1 rfl rfl) h1
  obtain ⟨P, kP, kPa, hlP⟩ := open_lists (hval 2 41 v2 rfl rfl) h2
  have hlt : ∀ y ∈ p0 ++ p1 ++ p2, y.block < W.heap.size := fun y hy => by simpa using hW'.lt y (List.mem_append_left _ hy)
  refine (calls_it k0 k1 kP kPa h4 hsv hl0 hl1 hlP (tab64_cells hL) (none_cells hL)).mono fun e W' ⟨he, hb⟩ => ?_
  subst he
  refine ⟨_, rfl, _, _, _, [], p0 ++ p1 ++ p2, [], hW', ?_, ?_, rfl, hb.frame _, fun h => by cases h⟩
  · exact trodAll_cons_mk (shut_bool Tryd.underlying4 _) trodAll_mk0
  · have := trodAll_cons_mk (Below.trod laidOut (by kernel_rfl) (of_decide_eq_true (by kernel_rfl)) h0 hb (fun y hy => hlt y (List.mem_append_left _ (List.mem_append_left _ hy))))
      (trodAll_cons_mk (Below.trod laidOut (by kernel_rfl) (of_decide_eq_true (by kernel_rfl)) h1 hb (fun y hy => hlt y (List.mem_append_left _ (List.mem_append_right _ hy))))
        (trodAll_cons_mk (Below.trod laidOut (by kernel_rfl) (of_decide_eq_true (by kernel_rfl)) h2 hb (fun y hy => hlt y (List.mem_append_right _ hy))) trodAll_mk0))
    rw [List.append_nil, ← List.append_assoc] at this
    exact this

def wit3 : Array Value := #[wit, .agg #[.slice none 0 0, .slice none 0 0], .slice none 0 0]
theorem laid_met3 (os : Os) : laidMet Tryd.prog lays ((laidWorld os).forCall (fun _ _ => 0) ⟨#[], wit3, []⟩).memory :=
  laidMet_of_run' 8 (by kernel_rfl) (by kernel_rfl)
theorem reads (os : Os) {H : Type} (enc : TypeId × Value → H) : ∃ places, DataW.whole enc Tryd.prog ((laidWorld os).forCall (fun _ _ => 0) ⟨#[], wit3, []⟩).memory Tryd.f7.params.toList Rows.switchJudgesSpec.vars false wit3.toList 8 = some ([.agg [.lit (.int .i64 0), .lit (.int .i64 0), .lit (.int .i64 0), .nil], .agg [.nil, .nil], .nil], [], places) :=
  ⟨[], by kernel_rfl⟩

set_option maxRecDepth 100000 in
theorem lifted (os : Os) (started : os.Started) (H : Type) (enc : TypeId × Value → H) (F : Stop.Interp) :
    ReturnsInHanded {} Tryd.checked os 7 .any ((OpenSpec.ofChange Rows.switchJudgesSpec).preRow enc Tryd.prog Tryd.f7 Rows.switchJudgesRow.domain false Rows.switchJudgesRow.laid) (((OpenSpec.ofChange Rows.switchJudgesSpec).at F).post enc Tryd.prog Tryd.f7 false true false false) := by
  obtain ⟨places, hx⟩ := reads os enc
  refine returnsInHanded_of_row (C := Tryd.checked) (s := OpenSpec.ofChange Rows.switchJudgesSpec) own started (by kernel_rfl) Tryd.func7
    (witness_row_at (enc := enc) (C := Tryd.checked) false (laidWorld os) wit3 rfl (by kernel_rfl) (by kernel_rfl) (by kernel_rfl)
      (OpenSpec.preRow_of_cond 8 hx (by kernel_rfl) (fun k hk => by cases hk) (by kernel_rfl) (laid_met3 os))) ?_
  intro W base args ds gs before hval hW _ _ _ hL _ _
  exact contract H enc W base args ds gs before hval hW hL

theorem said : Rows.SwitchJudgesSaid :=
  OpenClaim.holds_of_cond 7 Tryd.f7 rfl rfl rfl rfl rfl rfl rfl ⟨rfl, rfl, rfl, rfl, rfl⟩ rfl rfl rfl rfl rfl (by kernel_rfl) Tryd.func7 (by kernel_rfl)
    (of_decide_eq_true (by kernel_rfl)) (by unfold Func.isWrapper; first | (rw [if_pos (by decide +kernel)]; kernel_rfl) | (rw [if_neg (by decide +kernel)]; exact ⟨rfl, rfl⟩))
    (fun os started H enc _ F => by rw [OpenClaim.pre_eq_preRow]; exact lifted os started H enc F)

theorem plain (f : FuncId) (fn : Func) (hf : Tryd.pinned.checked.prog.funcNamed "bibelot/bibelotlaw08.SwitchJudges" = some f) (hfn : Tryd.pinned.checked.prog.funcs[f]? = some fn) :
    false = Tryd.pinned.checked.prog.looks [] ∧ ∀ (j : Nat) t, fn.params[j]? = some t → Tryd.pinned.checked.prog.wantsStandIn t = false := by
  obtain rfl : f = 7 := Option.some.inj ((show Tryd.prog.funcNamed "bibelot/bibelotlaw08.SwitchJudges" = some 7 by kernel_rfl).symm.trans hf) |>.symm
  obtain rfl : fn = Tryd.f7 := (Option.some.inj (Tryd.func7.symm.trans hfn)).symm
  refine ⟨by kernel_rfl, fun j t ht => ?_⟩
  rw [Tryd.params7] at ht
  have hm : t = 24 ∨ t = 38 ∨ t = 41 := by simpa using Array.mem_of_getElem? ht
  rcases hm with rfl | rfl | rfl
  · exact (show Tryd.prog.wantsStandIn 24 = false by kernel_rfl)
  · exact (show Tryd.prog.wantsStandIn 38 = false by kernel_rfl)
  · exact (show Tryd.prog.wantsStandIn 41 = false by kernel_rfl)

theorem card : Rows.SwitchJudgesCardSaid :=
  Claim7.holds_tied_plain_at .later [] _ _ _ _ said (fun _ h => by cases h) (by kernel_rfl) (fun _ h => by cases h) switchJudges_row_tie rfl ⟨rfl, rfl⟩ (by kernel_rfl) rfl plain (by kernel_rfl)
#print axioms card
end switchJudges
end Go.Proofs.YtfphkpdobbffeaaDoor
