/-
  Contracts: sorting of any list of sets, by the shelf's contracts.
-/
import Derived.Test.YtimknijehaamlaaDoorSwS1
set_option linter.unusedSimpArgs false
set_option linter.unusedVariables false
namespace Go.Proofs.YtimknijehaamlaaDoor
open Go Go.AH Go.Lin Go.Shelf Go.RowKit Go.Lib Go.Sort
set_option maxRecDepth 100000
set_option maxHeartbeats 1000000

def encF (x : Fin 65536) : Value := .int .i64 (x.val : Int)
def cfF (x y : Fin 65536) : Int := (y.val : Int) - x.val
theorem ltF (x y : Fin 65536) : ltOf cfF x y = decide (y.val < x.val) := by
  unfold ltOf cfF
  exact decide_eq_decide.2 (by omega)
theorem swoF : SWO (ltOf cfF) where
  irrefl x := by rw [ltF]; simp
  trans x y z h1 h2 := by rw [ltF] at *; simp at *; omega
  ntrans x y z h1 h2 := by rw [ltF] at *; simp at *; omega
theorem closure73 (a b : Nat) (ha : a < 65536) (hb : b < 65536) (W : World) : Calls Tryd.prog 73 #[.int .i64 (a : Int), .int .i64 (b : Int)] W fun e w' => e = .returned (.int .i64 ((b : Int) - a)) ∧ ∃ q, w' = W.drewN q := by
  go_enter Tryd.func73, Tryd.ntmps73
  go_wp2
  go_ret
  exact ⟨rfl, 0, rfl⟩
theorem cmpF (blk off size : Nat) (w : World) : CmpReads Tryd.prog 73 #[] encF cfF blk off size w :=
  fun _ _ _ _ x y => closure73 x.val y.val x.isLt y.isLt _
/-! What the shelf's world is, as blocks. -/
theorem after_row {α : Type} [Inhabited α] {enc : α → Value} {w : World} {blk : Nat} {c : Array Value} {t : TypeId} (hb : w.heap[blk]? = some (.cells c t (0, 0))) (n : Nat) (d : Array α) (os : Array Obj) :
    (sortWorld enc w blk 0 n d os).heap[blk]? = some (.cells (putCells enc 0 d c) t (0, 0)) ∧ Fr (fun j => j = blk) w (sortWorld enc w blk 0 n d os) := by
  have hlt : blk < w.heap.size := (Array.getElem?_eq_some_iff.1 hb).1
  have hm : (w.heap.modify blk (onCells (putCells enc 0 d))).size = w.heap.size := Array.size_modify
  have hget : ∀ k, k < w.heap.size → (sortWorld enc w blk 0 n d os).heap[k]? = (w.heap.modify blk (onCells (putCells enc 0 d)))[k]? := fun k hk => by
    show (w.heap.modify blk (onCells (putCells enc 0 d)) ++ os)[k]? = _
    rw [Array.getElem?_append_left (by rw [hm]; exact hk)]
  refine ⟨?_, ⟨rfl, rfl, rfl, ?_, fun k hk hn => ?_⟩⟩
  · rw [hget blk hlt, Array.getElem?_modify, if_pos rfl, hb]; rfl
  · show w.heap.size ≤ (w.heap.modify blk (onCells (putCells enc 0 d)) ++ os).size
    rw [Array.size_append, hm]; omega
  · rw [hget k hk, Array.getElem?_modify, if_neg (fun e => hn e.symm)]
theorem put_get {α : Type} [Inhabited α] {enc : α → Value} {d : Array α} {c : Array Value} (hd : d.size ≤ c.size) : (putCells enc 0 d c).size = c.size ∧ ∀ j, j < d.size → (putCells enc 0 d c)[j]? = some (enc d[j]!) := by
  refine ⟨by simp [putCells], fun j hj => ?_⟩
  rw [putCells, Array.getElem?_mapIdx, Array.getElem?_eq_getElem (by omega), Option.map_some, if_pos ⟨by omega, by omega⟩, Nat.sub_zero]
theorem holds_row {α : Type} [Inhabited α] {enc : α → Value} {w : World} {blk : Nat} {c : Array Value} {t : TypeId} (hb : w.heap[blk]? = some (.cells c t (0, 0))) {d : Array α} (h : ∀ j, j < d.size → c[j]? = some (enc d[j]!)) : Holds enc w blk 0 d := fun j hj => by
  refine ⟨?_, ?_⟩
  · unfold World.cell?
    simp [hb, h j hj]
  · unfold World.frozen?
    simp [hb]
theorem row_spec {f : FuncId} {L M : List Int} {args : List AV} {extra : Array Value} (hc : ∀ vs w, (callFunc f vs).run Tryd.prog w = .ok (.enter f vs) w) (hlen : M.length = L.length)
    (hvs : ∀ (R : AH.Ren) (vs : Array Value), vs.size = args.length → (∀ (i : Nat) (v : AV), args[i]? = some v → ∃ u : Value, vs[i]? = some u ∧ conV R v u) → vs = #[.slice (some ⟨R.ρ 0, 0, none⟩) L.length (R.κ 0)] ++ extra ∧ L.length ≤ R.κ 0)
    (run : ∀ (w : World) (blk cap : Nat) (c : Array Value), w.heap[blk]? = some (.cells c 3 (0, 0)) → L.length ≤ c.size → (∀ j (h : j < L.length), c[j]? = some (.int .i64 L[j])) →
      Calls Tryd.prog f (#[.slice (some ⟨blk, 0, none⟩) L.length cap] ++ extra) w fun e w' => e = .returned (.tuple #[]) ∧ ∃ c', w'.heap[blk]? = some (.cells c' 3 (0, 0)) ∧ c'.size = c.size ∧ (∀ j (h : j < M.length), c'[j]? = some (.int .i64 M[j])) ∧ Fr (fun j => j = blk) w w') :
    FDet Tryd.prog f args [(0, .row 3 1 (ints L))] 1 (.t []) [(0, .row 3 1 (ints M))] 1 where
  call := hc
  run w R vs hok hsz hargs hH := by
    obtain ⟨rfl, hcap⟩ := hvs R vs hsz hargs
    obtain ⟨c, hb, hd, hk, hcs, hll, hcl⟩ := hH.blk 0 _ rfl
    have hll : L.length ≤ c.size := by rw [ints_len] at hll; exact hll
    refine (run w (R.ρ 0) (R.κ 0) c hb hll fun j hj => ?_).mono ?_
    · obtain ⟨v, hv, hcv⟩ := hcl j (.int .i64 L[j]) (by rw [ints, List.getElem?_map, List.getElem?_eq_getElem hj]; rfl)
      rw [Nat.zero_add] at hv
      rw [hv]
      exact congrArg some hcv
    · rintro e w' ⟨rfl, c', hb', hs', hc', hf⟩
      refine ⟨_, _, _, _, R, rfl, ⟨rfl, rfl, rfl⟩, hok, fun i _ => ⟨rfl, rfl, rfl⟩, Nat.le_refl _, ⟨#[], rfl, rfl, fun i e h => by simp at h⟩, fun e h => by simp at h, ⟨?_, ?_⟩, by simp, ?_, ?_, ?_⟩
      · intro id b h
        simp only [lk] at h
        split at h
        · rename_i e
          injection h with h
          subst h; subst e
          refine ⟨c', hb', hd, hk, by rw [hs', hcs], by rw [ints_len, hlen, hs']; exact hll, fun i x hi => ?_⟩
          rw [ints, List.getElem?_map] at hi
          cases hx : M[i]? with
          | none => rw [hx] at hi; cases hi
          | some y =>
            rw [hx] at hi
            injection hi with hi
            subst hi
            obtain ⟨hlt, hy⟩ := List.getElem?_eq_some_iff.1 hx
            refine ⟨_, by rw [Nat.zero_add]; exact hc' i hlt, ?_⟩
            rw [hy]; rfl
        · cases h
      · intro i j b b2 hi hj hne _
        simp only [lk] at hi hj
        split at hi
        · split at hj
          · omega
          · cases hj
        · cases hi
      · intro i b h
        simp only [lk] at h
        split at h
        · injection h with h; subst h
          exact ⟨.inl (by omega), (ints_LL 1 M : LL 1 (ints M))⟩
        · cases h
      · intro i b h hw
        simp only [lk] at h
        split at h
        · rename_i e
          subst e
          exact .inl ⟨0, _, rfl, rfl, rfl⟩
        · cases h
      · exact hf.mono fun k hk2 => ⟨0, _, rfl, rfl, hk2.symm⟩
theorem vs_two {L : List Int} (R : AH.Ren) (vs : Array Value) (hs : vs.size = 2) (h : ∀ (i : Nat) (v : AV), [AV.c (.row 0 L.length), .c (.fn 73 [] [])][i]? = some v → ∃ u : Value, vs[i]? = some u ∧ conV R v u) : vs = #[.slice (some ⟨R.ρ 0, 0, none⟩) L.length (R.κ 0)] ++ #[.func (.func 73) #[] #[]] ∧ L.length ≤ R.κ 0 := by
  obtain ⟨u0, e0, h0, h0'⟩ := h 0 _ rfl
  obtain ⟨u1, e1, h1⟩ := h 1 _ rfl
  have h1 : u1 = .func (.func 73) #[] #[] := h1
  subst h0; subst h1
  refine ⟨?_, h0'⟩
  refine Array.ext_getElem? fun i => ?_
  match i with
  | 0 => exact e0
  | 1 => exact e1
  | i + 2 =>
    rw [Array.getElem?_eq_none (by omega), Array.getElem?_eq_none (by simp)]
theorem vs_one {L : List Int} (R : AH.Ren) (vs : Array Value) (hs : vs.size = 1) (h : ∀ (i : Nat) (v : AV), [AV.c (.row 0 L.length)][i]? = some v → ∃ u : Value, vs[i]? = some u ∧ conV R v u) : vs = #[.slice (some ⟨R.ρ 0, 0, none⟩) L.length (R.κ 0)] ++ #[] ∧ L.length ≤ R.κ 0 := by
  obtain ⟨u0, e0, h0, h0'⟩ := h 0 _ rfl
  subst h0
  refine ⟨?_, h0'⟩
  refine Array.ext_getElem? fun i => ?_
  match i with
  | 0 => exact e0
  | i + 1 =>
    rw [Array.getElem?_eq_none (by omega), Array.getElem?_eq_none (by simp)]
theorem sorted_ext2 {f : Int → Int} (hf : ∀ a b, f a = f b → a = b) : ∀ {L M : List Int}, L.Pairwise (fun a b => f a ≤ f b) → M.Pairwise (fun a b => f a ≤ f b) → L.Perm M → L = M
  | L, [], _, _, hp => hp.eq_nil
  | [], m :: M, _, _, hp => hp.symm.eq_nil.symm
  | l :: L, m :: M, hL, hM, hp => by
    rw [List.pairwise_cons] at hL hM
    have h1 : f m ≤ f l := by
      rcases List.mem_cons.1 (hp.mem_iff.1 (List.mem_cons_self (a := l))) with h | h
      · rw [h]; exact Int.le_refl _
      · exact hM.1 l h
    have h2 : f l ≤ f m := by
      rcases List.mem_cons.1 (hp.mem_iff.2 (List.mem_cons_self (a := m))) with h | h
      · rw [h]; exact Int.le_refl _
      · exact hL.1 m h
    obtain rfl := hf l m (by omega)
    rw [sorted_ext2 hf hL.2 hM.2 (List.Perm.cons_inv hp)]
theorem arr_get {α : Type} [Inhabited α] (d : Array α) {j : Nat} (hj : j < d.size) : d[j]! = d[j] := getElem!_pos d j hj
theorem enc_get {d : Array (Fin 65536)} {M : List Int} (h : d.toList.map (fun x => (x.val : Int)) = M) : d.size = M.length ∧ ∀ j (hj : j < M.length), encF d[j]! = .int .i64 M[j] := by
  have hs : d.size = M.length := by rw [← h]; simp
  refine ⟨hs, fun j hj => ?_⟩
  rw [arr_get d (by omega)]
  subst h
  simp [encF]
theorem SortFunc_any (L : List Int) (hL : L.length ≤ 1000) (hs : ∀ y ∈ L, 0 ≤ y ∧ y < 65536) : FDet Tryd.prog 72 [.c (.row 0 L.length), .c (.fn 73 [] [])] [(0, .row 3 1 (ints L))] 1 (.t []) [(0, .row 3 1 (ints (isort desc L)))] 1 := by
  have hp := isort_perm desc L
  refine row_spec (enters_of Tryd.func72 (by kernel_rfl) rfl) hp.length_eq (extra := #[.func (.func 73) #[] #[]]) (fun R vs h1 h2 => vs_two R vs h1 h2) fun w blk cap c hb hll hcl => ?_
  obtain ⟨d, hd⟩ : ∃ d : Array (Fin 65536), d = (L.map fun y => (⟨y.toNat % 65536, Nat.mod_lt _ (by decide)⟩ : Fin 65536)).toArray := ⟨_, rfl⟩
  have hdl : d.toList.map (fun x => (x.val : Int)) = L := by
    rw [hd, List.map_map]
    refine (List.map_congr_left fun y hy => ?_).trans (List.map_id L)
    have := hs y hy
    show ((y.toNat % 65536 : Nat) : Int) = y
    rw [Nat.mod_eq_of_lt (by omega), Int.toNat_of_nonneg this.1]
  obtain ⟨hds, hdg⟩ := enc_get hdl
  have hH : Holds encF w blk 0 d := holds_row hb fun j hj => by
    rw [hdg j (by omega)]
    exact hcl j (by omega)
  have hlt : blk < w.heap.size := (Array.getElem?_eq_some_iff.1 hb).1
  have hcon := Any.slices_SortFunc Tryd.sortFL encF (fun _ => rfl) cfF swoF 73 #[] blk 0 cap d w (enters_of Tryd.func73 (by kernel_rfl) rfl) (cmpF blk 0 d.size w).lays hH hlt (by omega)
  rw [hds] at hcon
  refine hcon.mono ?_
  rintro e w' ⟨rfl, d', n, os, hpm, hso, rfl⟩
  have hs' : d'.size = d.size := hpm.1
  have hD : d'.toList.map (fun x => (x.val : Int)) = isort desc L := by
    have hpp : d'.toList.Perm d.toList := by
      have := hpm.2.2
      rw [Array.extract_eq_self_of_le (by omega), Array.extract_eq_self_of_le (by omega)] at this
      exact this
    rw [desc_eq]
    refine sorted_ext2 (f := fun x => -x) (fun a b h => by omega) ?_ (isort_sorted _ _) (((hpp.map _).trans (by rw [hdl])).trans (isort_perm _ _).symm)
    rw [List.pairwise_map, List.pairwise_iff_getElem]
    intro i j hi hj hij
    have hi : i < d'.size := by simpa using hi
    have hj : j < d'.size := by simpa using hj
    have := hso i j (by omega) hij (by omega)
    rw [ltF, arr_get d' hi, arr_get d' hj] at this
    have := of_decide_eq_false this
    simp only [Array.getElem_toList]
    omega
  obtain ⟨ha, hf⟩ := after_row (enc := encF) hb n d' os
  obtain ⟨p1, p2⟩ := put_get (enc := encF) (d := d') (c := c) (by omega)
  obtain ⟨q1, q2⟩ := enc_get hD
  exact ⟨rfl, _, ha, p1, fun j hj => by rw [p2 j (by omega), q2 j hj], hf⟩
theorem Sort_any (L : List Int) (hL : L.length ≤ 1000) : FDet Tryd.prog 74 [.c (.row 0 L.length)] [(0, .row 3 1 (ints L))] 1 (.t []) [(0, .row 3 1 (ints (isort asc L)))] 1 := by
  have hp := isort_perm asc L
  refine row_spec (enters_of Tryd.func74 (by kernel_rfl) rfl) hp.length_eq (extra := #[]) (fun R vs h1 h2 => vs_one R vs h1 h2) fun w blk cap c hb hll hcl => ?_
  have hH : Holds (Value.int .i64) w blk 0 L.toArray := holds_row hb fun j hj => by
    have hj : j < L.length := by simpa using hj
    rw [hcl j hj, arr_get _ (by simpa using hj)]
    simp
  have hlt : blk < w.heap.size := (Array.getElem?_eq_some_iff.1 hb).1
  refine (Any.slices_Sort_int Tryd.sortL blk 0 cap L w hH hlt (by omega)).mono ?_
  rintro e w' ⟨rfl, n, os, rfl⟩
  have hD : (L.mergeSort fun x y => decide (x ≤ y)) = isort asc L := by
    refine sorted_ext2 (f := fun x => x) (fun a b h => h) ?_ (isort_sorted (fun x => x) _) ((List.mergeSort_perm L _).trans hp.symm)
    have := List.pairwise_mergeSort (le := fun x y : Int => decide (x ≤ y)) (fun a b c h1 h2 => by simp at *; omega) (fun a b => by simp; omega) L
    exact this.imp fun h => by simpa using h
  rw [hD]
  have hl2 := hp.length_eq
  obtain ⟨ha, hf⟩ := after_row (enc := Value.int .i64) hb n (isort asc L).toArray os
  obtain ⟨p1, p2⟩ := put_get (enc := Value.int .i64) (d := (isort asc L).toArray) (c := c) (by simp; omega)
  exact ⟨rfl, _, ha, p1, fun j hj => by rw [p2 j (by simpa using hj), arr_get _ (by simpa using hj)]; simp, hf⟩
end Go.Proofs.YtimknijehaamlaaDoor
