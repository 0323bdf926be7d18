/-
  Handling: a contract says less of what it is handed and of what it hands back.
-/
import Derived.Test.YtfphkpdobbffeaaDoorAh22
set_option linter.unusedSimpArgs false
set_option linter.unusedVariables false
namespace Go.AH
open Go.RowKit

/-- The second says no more than the first. -/
def wkC (hp : List (Nat × ABlk)) : AC → AC → Prop
  | .sl i o n _, .rs j p m => i = j ∧ o = p ∧ n = m
  | .row i n, .rs j p m => (i = j ∧ p = 0 ∧ n = m) ∧ (match lk hp i with | some (.row ..) => True | some (.own _) => True | _ => False)
  | .nils, .rs _ _ m => m = 0
  | x, y => x = y
def wkL (hp : List (Nat × ABlk)) : List AC → List AC → Prop
  | [], [] => True
  | x :: xs, y :: ys => wkC hp x y ∧ wkL hp xs ys
  | _, _ => False
def wkE (hp : List (Nat × ABlk)) : AE → AE → Prop
  | .c x, .c y => wkC hp x y
  | .g xs, .g ys => xs = ys ∨ wkL hp xs ys
  | _, _ => False
def wkEs (hp : List (Nat × ABlk)) : List AE → List AE → Prop
  | [], [] => True
  | x :: xs, y :: ys => wkE hp x y ∧ wkEs hp xs ys
  | _, _ => False
def wkV (hp : List (Nat × ABlk)) : AV → AV → Prop
  | .c x, .c y => wkC hp x y
  | .g xs, .g ys => xs = ys ∨ wkL hp xs ys
  | .t xs, .t ys => wkEs hp xs ys
  | _, _ => False
def wkVs (hp : List (Nat × ABlk)) : List AV → List AV → Prop
  | [], [] => True
  | x :: xs, y :: ys => wkV hp x y ∧ wkVs hp xs ys
  | _, _ => False
def wkB (hp : List (Nat × ABlk)) : ABlk → ABlk → Prop
  | .own xs, .own ys => xs = ys ∨ wkL hp xs ys
  | .row e z xs, .row e' z' ys => (e = e' ∧ z = z') ∧ (xs = ys ∨ wkL hp xs ys)
  | .ro xs, .ro ys => xs = ys ∨ wkL hp xs ys
  | .own xs, .ro ys => xs = ys ∨ wkL hp xs ys
  | .row _ _ xs, .ro ys => xs = ys ∨ wkL hp xs ys
  | .mp m, .mi I => I m ∧ primM m
  | x, y => x = y
/-- t's blocks are among hp's. -/
def wkH (hp : List (Nat × ABlk)) : List (Nat × ABlk) → Prop
  | [] => True
  | (i, b) :: r => (match lk hp i with | some b' => wkB hp b' b | none => False) ∧ wkH hp r

variable {R : Ren} {hp : List (Nat × ABlk)} {w : World}

theorem wkC_sound {x y : AC} {v : Value} (h : wkC hp x y) (H : HRel R hp w) (hc : conC R x v) : conC R y v := by
  unfold wkC at h
  split at h
  · obtain ⟨rfl, rfl, rfl⟩ := h
    obtain ⟨a, c, h1, _, h2, h3⟩ := hc
    exact .inl ⟨a, c, h1, h2, h3⟩
  · rename_i i n j p m
    obtain ⟨⟨rfl, rfl, rfl⟩, hb⟩ := h
    have hd : R.δ i = 0 := by
      split at hb
      · rename_i e; obtain ⟨_, _, hd, _⟩ := H.blk _ _ e; exact hd
      · rename_i e; obtain ⟨_, _, _, hd, _⟩ := H.blk _ _ e; exact hd
      · exact hb.elim
    obtain ⟨h1, h2⟩ := hc
    exact .inl ⟨_, _, h1, fun _ => by simp [Ren.adr, hd], h2⟩
  · subst h; exact .inr ⟨rfl, hc⟩
  · exact h ▸ hc
theorem wkL_len : ∀ {xs ys : List AC}, wkL hp xs ys → xs.length = ys.length
  | [], [], _ => rfl
  | x :: xs, y :: ys, h => by simp [wkL_len h.2]
  | [], _ :: _, h => h.elim
  | _ :: _, [], h => h.elim
theorem wkL_get : ∀ {xs ys : List AC}, wkL hp xs ys → ∀ (i : Nat) (y : AC), ys[i]? = some y → ∃ x, xs[i]? = some x ∧ wkC hp x y
  | [], [], _, i, y, hi => by simp at hi
  | x :: xs, z :: ys, h, i, y, hi => by
    cases i with
    | zero => simp at hi; subst hi; exact ⟨x, rfl, h.1⟩
    | succ i => simp at hi; obtain ⟨x', a, b⟩ := wkL_get h.2 i y hi; exact ⟨x', by simpa using a, b⟩
  | [], _ :: _, h, _, _, _ => h.elim
  | _ :: _, [], h, _, _, _ => h.elim
theorem wkL_sound {xs ys : List AC} {vs : Array Value} {o : Nat} (h : xs = ys ∨ wkL hp xs ys) (H : HRel R hp w) (hc : conL R xs vs o) : conL R ys vs o ∧ xs.length = ys.length := by
  rcases h with rfl | h
  · exact ⟨hc, rfl⟩
  · refine ⟨fun i y hi => ?_, wkL_len h⟩
    obtain ⟨x, h1, h2⟩ := wkL_get h i y hi
    obtain ⟨v, h3, h4⟩ := hc i x h1
    exact ⟨v, h3, wkC_sound h2 H h4⟩
theorem wkE_sound {x y : AE} {v : Value} (h : wkE hp x y) (H : HRel R hp w) (hc : conE R x v) : conE R y v := by
  cases x <;> cases y <;> simp only [wkE] at h
  · exact wkC_sound h H hc
  · obtain ⟨vs, a, b, c⟩ := hc
    obtain ⟨d, e⟩ := wkL_sound h H c
    exact ⟨vs, a, by omega, d⟩
theorem wkEs_get : ∀ {xs ys : List AE}, wkEs hp xs ys → xs.length = ys.length ∧ ∀ (i : Nat) (y : AE), ys[i]? = some y → ∃ x, xs[i]? = some x ∧ wkE hp x y
  | [], [], _ => ⟨rfl, fun i y hi => by simp at hi⟩
  | x :: xs, z :: ys, h => by
    obtain ⟨h1, h2⟩ := wkEs_get h.2
    refine ⟨by simp [h1], fun i y hi => ?_⟩
    cases i with
    | zero => simp at hi; subst hi; exact ⟨x, rfl, h.1⟩
    | succ i => simp at hi; obtain ⟨x', a, b⟩ := h2 i y hi; exact ⟨x', by simpa using a, b⟩
  | [], _ :: _, h => h.elim
  | _ :: _, [], h => h.elim
theorem wkV_sound {x y : AV} {v : Value} (h : wkV hp x y) (H : HRel R hp w) (hc : conV R x v) : conV R y v := by
  cases x <;> cases y <;> simp only [wkV] at h
  · exact wkC_sound h H hc
  · obtain ⟨vs, a, b, c⟩ := hc
    obtain ⟨d, e⟩ := wkL_sound h H c
    exact ⟨vs, a, by omega, d⟩
  · obtain ⟨vs, a, b, c⟩ := hc
    obtain ⟨d, e⟩ := wkEs_get h
    refine ⟨vs, a, by omega, fun i y hi => ?_⟩
    obtain ⟨x, h1, h2⟩ := e i y hi
    obtain ⟨u, h3, h4⟩ := c i x h1
    exact ⟨u, h3, wkE_sound h2 H h4⟩
theorem wkVs_get : ∀ {xs ys : List AV}, wkVs hp xs ys → xs.length = ys.length ∧ ∀ (i : Nat) (y : AV), ys[i]? = some y → ∃ x, xs[i]? = some x ∧ wkV hp x y
  | [], [], _ => ⟨rfl, fun i y hi => by simp at hi⟩
  | x :: xs, z :: ys, h => by
    obtain ⟨h1, h2⟩ := wkVs_get h.2
    refine ⟨by simp [h1], fun i y hi => ?_⟩
    cases i with
    | zero => simp at hi; subst hi; exact ⟨x, rfl, h.1⟩
    | succ i => simp at hi; obtain ⟨x', a, b⟩ := h2 i y hi; exact ⟨x', by simpa using a, b⟩
  | [], _ :: _, h => h.elim
  | _ :: _, [], h => h.elim
theorem wkB_sound {x y : ABlk} {id : Nat} (h : wkB hp x y) (H : HRel R hp w) (hc : BRel R id w x) : BRel R id w y ∧ (y.wr = true → x.wr = true) := by
  unfold wkB at h
  split at h
  · obtain ⟨c, t, a, b, d, e⟩ := hc
    obtain ⟨f, g⟩ := wkL_sound h H e
    exact ⟨⟨c, t, a, b, by omega, f⟩, fun _ => rfl⟩
  · obtain ⟨⟨rfl, rfl⟩, h⟩ := h
    obtain ⟨c, a, b, d, e, e2, e3⟩ := hc
    obtain ⟨f, g⟩ := wkL_sound h H e3
    exact ⟨⟨c, a, b, d, e, by omega, f⟩, fun _ => rfl⟩
  · obtain ⟨c, t, z, a, b⟩ := hc
    exact ⟨⟨c, t, z, a, (wkL_sound h H b).1⟩, fun h => h⟩
  · obtain ⟨c, t, a, b, d, e⟩ := hc
    exact ⟨⟨c, t, _, a, (wkL_sound h H (by rw [b]; exact e)).1⟩, fun _ => rfl⟩
  · obtain ⟨c, a, b, d, e, e2, e3⟩ := hc
    exact ⟨⟨c, _, _, a, (wkL_sound h H (by rw [b]; exact e3)).1⟩, fun _ => rfl⟩
  · exact ⟨BRel.mi_iff.2 ⟨_, h, hc⟩, fun _ => rfl⟩
  · subst h; exact ⟨hc, fun h => h⟩
theorem wkH_get : ∀ {l : List (Nat × ABlk)}, wkH hp l → ∀ i b, lk l i = some b → ∃ b', lk hp i = some b' ∧ wkB hp b' b
  | [], _, i, b, h => by cases h
  | (j, c) :: r, h, i, b, hi => by
    simp only [lk] at hi
    split at hi
    · rename_i e; subst e; injection hi with hi; subst hi
      have h1 := h.1
      split at h1
      · rename_i b' e; exact ⟨b', e, h1⟩
      · exact h1.elim
    · exact wkH_get h.2 i b hi
theorem wkH_sound {l : List (Nat × ABlk)} (h : wkH hp l) (H : HRel R hp w) : HRel R l w :=
  ⟨fun i b hb => by
      obtain ⟨b', h1, h2⟩ := wkH_get h i b hb
      exact (wkB_sound h2 H (H.blk _ _ h1)).1, fun i j b c hi hj hne hw => by
      obtain ⟨b', h1, h2⟩ := wkH_get h i b hi
      obtain ⟨c', h3, _⟩ := wkH_get h j c hj
      exact H.inj i j b' c' h1 h3 hne ((wkB_sound h2 H (H.blk _ _ h1)).2 hw)⟩

variable {P : Program} {f : FuncId} {args : List AV} {k : Nat} {Post : AV → List (Nat × ABlk) → Nat → Prop}

/-- Handed over more than is asked. -/
theorem FSpec.wk (h : FSpec P f args hp k Post) {args' : List AV} {hp' : List (Nat × ABlk)} (ha : wkVs hp' args' args) (hh : wkH hp' hp) : FSpec P f args' hp' k Post where
  call := h.call
  run := fun w R vs hok hsz hcon H => by
    obtain ⟨hl, hg⟩ := wkVs_get ha
    refine (h.run w R vs hok (by omega) (fun i v hi => ?_) (wkH_sound hh H)).mono ?_
    · obtain ⟨x, h1, h2⟩ := hg i v hi
      obtain ⟨u, h3, h4⟩ := hcon i x h1
      exact ⟨u, h3, wkV_sound h2 H h4⟩
    · rintro e w' ⟨u, r, hq, k', R', h1, h2, h3, h4, h5, h6, h7, h8, h9, h10, h11, h12⟩
      have up : ∀ i b, lk hp i = some b → b.wr = true → ∃ b', lk hp' i = some b' ∧ b'.wr = true := fun i b hb hw => by
        obtain ⟨b', g1, g2⟩ := wkH_get hh i b hb
        exact ⟨b', g1, (wkB_sound g2 H (H.blk _ _ g1)).2 hw⟩
      refine ⟨u, r, hq, k', R', h1, h2, h3, h4, h5, h6, h7, h8, h9, h10, fun i b hb hw => ?_, h12.mono ?_⟩
      · rcases h11 i b hb hw with ⟨i0, b0, g1, g2, g3⟩ | g
        · obtain ⟨b', g4, g5⟩ := up i0 b0 g1 g2
          exact .inl ⟨i0, b', g4, g5, g3⟩
        · exact .inr g
      · rintro j ⟨i, b, g1, g2, g3⟩
        obtain ⟨b', g4, g5⟩ := up i b g1 g2
        exact ⟨i, b', g4, g5, g3⟩
/-- Less is said of what comes back. -/
theorem FSpec.post (h : FSpec P f args hp k Post) {Post' : AV → List (Nat × ABlk) → Nat → Prop}
    (hp' : ∀ r hq k', Post r hq k' → ∃ r2 hq2, Post' r2 hq2 k' ∧ wkV hq r r2 ∧ wkH hq hq2 ∧ r2.lt k' ∧ hpLt k' hq2 ∧ (hq2.map Prod.fst).Nodup) : FSpec P f args hp k Post' where
  call := h.call
  run := fun w R vs hok hsz hcon H => by
    refine (h.run w R vs hok hsz hcon H).mono ?_
    rintro e w' ⟨u, r, hq, k', R', h1, h2, h3, h4, h5, h6, h7, h8, h9, h10, h11, h12⟩
    obtain ⟨r2, hq2, g1, g2, g3, g4, g5, g6⟩ := hp' r hq k' h2
    refine ⟨u, r2, hq2, k', R', h1, g1, h3, h4, h5, wkV_sound g2 h8 h6, g4, wkH_sound g3 h8, g6, fun i b hb => hpLt_get g5 hb, fun i b hb hw => ?_, h12⟩
    obtain ⟨b', e1, e2⟩ := wkH_get g3 i b hb
    exact h11 i b' e1 ((wkB_sound e2 h8 (h8.blk _ _ e1)).2 hw)
theorem FDet.post {r : AV} {hq : List (Nat × ABlk)} {k' : Nat} (h : FDet P f args hp k r hq k') (r2 : AV) (hq2 : List (Nat × ABlk)) (g2 : wkV hq r r2) (g3 : wkH hq hq2) (g4 : r2.lt k') (g5 : hpLt k' hq2) (g6 : nodB (hq2.map Prod.fst) = true) : FDet P f args hp k r2 hq2 k' :=
  FSpec.post h fun r0 hq0 k0 ⟨e1, e2, e3⟩ => by
    subst e1; subst e2; subst e3
    exact ⟨r2, hq2, ⟨rfl, rfl, rfl⟩, g2, g3, g4, g5, nodB_sound g6⟩
theorem FDet.wk {r : AV} {hq : List (Nat × ABlk)} {k' : Nat} (h : FDet P f args hp k r hq k') {args' : List AV} {hp' : List (Nat × ABlk)} (ha : wkVs hp' args' args) (hh : wkH hp' hp) : FDet P f args' hp' k r hq k' :=
  FSpec.wk h ha hh
theorem FSpec.imp (h : FSpec P f args hp k Post) {Post' : AV → List (Nat × ABlk) → Nat → Prop} (hi : ∀ r hq k', Post r hq k' → Post' r hq k') : FSpec P f args hp k Post' where
  call := h.call
  run := fun w R vs hok hsz hcon H => by
    refine (h.run w R vs hok hsz hcon H).mono ?_
    rintro e w' ⟨u, r, hq, k', R', h1, h2, h3⟩
    exact ⟨u, r, hq, k', R', h1, hi _ _ _ h2, h3⟩
/-- New blocks are handed back. -/
theorem Fin.new {s : AS} {r : AV} {Post : AV → List (Nat × ABlk) → Nat → Prop} (l : List Nat) (r0 : AV) (hp' : List (Nat × ABlk)) (hpost : Post r0 hp' (s.k0 + l.length)) (hres : r0.ren (qf s.k0 l) = r) (hh : hpAll s.hp (qf s.k0 l) hp')
    (hb : (nodB (hp'.map fun p => qf s.k0 l p.1) && nodB (hp'.map Prod.fst) && Nat.ble (s.k0 + l.length) GB) = true) (rlt : r0.lt (s.k0 + l.length)) (hlt : hpLt (s.k0 + l.length) hp') : Fin s r Post := by
  simp only [Bool.and_eq_true] at hb
  exact Fin.mk l r0 hp' ⟨hpost, hres, hh, nodB_sound hb.1.1, nodB_sound hb.1.2, rlt, hlt, Nat.le_of_ble_eq_true hb.2⟩
/-- The end of a round that has made blocks: number i of l is number j of the state. -/
theorem RoundOk.new {k : Nat} {s : AS} {hp' : List (Nat × ABlk)} (l : List (Nat × Nat)) (hf : (l.all fun p => Nat.ble k p.1 && Nat.blt p.1 GB) = true) (hh : hpAll s.hp (rn l) hp') (hn : nodB (hp'.map fun p => rn l p.1) = true) : RoundOk k s hp' :=
  RoundOk.mk l ⟨fun p hp => by
    have := List.all_eq_true.1 hf p hp
    simp only [Bool.and_eq_true] at this
    exact ⟨Nat.le_of_ble_eq_true this.1, Nat.le_of_ble_eq_true this.2⟩, hh, nodB_sound hn⟩
/-- A call that reads alone, in a region that draws its order; what it hands back is new. -/
theorem CallQ.new {s : AS} {vs : List AV} {kq : AV → List (Nat × ABlk) → Nat → Prop} {hp0 : List (Nat × ABlk)} (l : List Nat) {r : AV} {hp1 : List (Nat × ABlk)} {k1 : Nat} (r' : AV) (nb : List (Nat × ABlk)) (h : FDet P f args hp0 l.length r hp1 k1) (ha : args.map (AV.ren (qq l s.nx)) = vs)
    (hb : (oldB s.nx l && allRo hp0 && nodB (hp0.map Prod.fst) && nodB (hp1.map Prod.fst) && (hp1.all fun p => Nat.ble l.length p.1 && Nat.blt p.1 k1 && p.2.wr) && Nat.ble l.length k1 && Nat.ble k1 GB && Nat.ble (s.nx + (k1 - l.length)) GB) = true)
    (hl : lies l s.nx s.hp hp0) (hr : r.ren (qq l s.nx) = r') (hn : (hp1.map fun p => (qq l s.nx p.1, p.2.ren (qq l s.nx))) = nb) (hk : s.on fun _ _ nx _ _ => kq r' nb (nx + (k1 - l.length))) : CallQ P f vs s kq := by
  simp only [Bool.and_eq_true] at hb
  obtain ⟨⟨⟨⟨⟨⟨⟨b1, b2⟩, b3⟩, b4⟩, b5⟩, b6⟩, b7⟩, b8⟩ := hb
  have b6 : l.length ≤ k1 := by simpa using b6
  have b7 : k1 ≤ GB := by simpa using b7
  have b8 : s.nx + (k1 - l.length) ≤ GB := by simpa using b8
  have hnew : ∀ p ∈ hp1, l.length ≤ p.1 ∧ p.1 < k1 ∧ p.2.wr = true := fun p hp => by
    have := List.all_eq_true.1 b5 p hp
    simp only [Bool.and_eq_true] at this
    exact ⟨Nat.le_of_ble_eq_true this.1.1, Nat.le_of_ble_eq_true this.1.2, this.2⟩
  have hGB : ∀ p ∈ hp1, p.1 < GB := fun p hp => by have := hnew p hp; omega
  refine callQ_intro args hp0 l r hp1 k1 hp1 ⟨h, oldB_sound b1, ha, lies_get hl, ?_, nodB_sound b4, ?_, (fun i b h => ?_), ⟨b6, b7⟩, nodB_sound b3, (fun p hp => .inl (hnew p hp).2.1), (fun p hp hw ho => ?_), b8⟩ ?_
  · intro i j b c hi _ _ hw
    rw [allRo_sound b2 i b hi] at hw; cases hw
  · intro i b hi hw
    rw [allRo_sound b2 i b hi] at hw; cases hw
  · have hm := mem_lk h
    obtain ⟨h1, h2, h3⟩ := hnew _ hm
    exact ⟨⟨h1, h2⟩, h3, h⟩
  · exfalso
    have h1 := hnew p hp
    have h2 := hGB p hp
    omega
  · rw [AS.on_eq] at hk; rw [hr, hn]; exact hk
/-- At a loop's head, with blocks made in between: number i of l is number j of the state. -/
theorem Sub.new {s t : AS} (l : List (Nat × Nat)) (h : t.nt = s.nt ∧ t.k0 = s.k0 ∧ (t.k0 ≤ t.nx ∧ t.nx ≤ s.nx)) (hf : (l.all fun p => Nat.ble s.k0 p.1 && Nat.blt p.1 GB) = true) (htm : lkAll s.tm (rn l) t.tm) (hhp : hpAll s.hp (rn l) t.hp)
    (hn : nodB (t.hp.map fun p => rn l p.1) = true) (h1 : tmLt t.nx t.tm) (h2 : hpLt t.nx t.hp) : Sub s t l :=
  ⟨h.1, h.2.1, h.2.2, fun p hp => by
    have := List.all_eq_true.1 hf p hp
    simp only [Bool.and_eq_true] at this
    exact ⟨Nat.le_of_ble_eq_true this.1, Nat.le_of_ble_eq_true this.2⟩, htm, hhp, nodB_sound hn, h1, h2⟩
/-- What may be written is as it was. -/
def sameW (hp1 : List (Nat × ABlk)) : List (Nat × ABlk) → Prop
  | [] => True
  | (i, b) :: r => (match b.wr with | true => lk hp1 i = some b | false => True) ∧ sameW hp1 r
theorem sameW_get {hp1 : List (Nat × ABlk)} : ∀ {l : List (Nat × ABlk)}, sameW hp1 l → ∀ i b, lk l i = some b → b.wr = true → lk hp1 i = some b
  | [], _, i, b, h, _ => by cases h
  | (j, c) :: r, h, i, b, hi, hw => by
    simp only [lk] at hi
    split at hi
    · rename_i e; subst e; injection hi with hi; subst hi
      have h1 := h.1
      rw [hw] at h1; exact h1
    · exact sameW_get h.2 i b hi hw
def subW (hp0 : List (Nat × ABlk)) : List (Nat × ABlk) → Prop
  | [] => True
  | (i, b) :: r => lk hp0 i = some b ∧ subW hp0 r
theorem subW_get {hp0 : List (Nat × ABlk)} : ∀ {l : List (Nat × ABlk)}, subW hp0 l → ∀ p ∈ l, lk hp0 p.1 = some p.2
  | [], _, p, h => (List.not_mem_nil h).elim
  | (j, c) :: r, h, p, hp => by
    rcases List.mem_cons.1 hp with rfl | hp
    · exact h.1
    · exact subW_get h.2 p hp
/-- A call in a region that draws its order: what it may write it leaves as it is known. -/
theorem CallQ.keep {s : AS} {vs : List AV} {kq : AV → List (Nat × ABlk) → Nat → Prop} {hp0 : List (Nat × ABlk)} (l : List Nat) {r : AV} {hp1 : List (Nat × ABlk)} (r' : AV) (h : FDet P f args hp0 l.length r hp1 l.length) (ha : args.map (AV.ren (qq l s.nx)) = vs)
    (hb : (oldB s.nx l && nodB l && (l.all fun i => Nat.blt i GB) && nodB (hp0.map Prod.fst) && nodB (hp1.map Prod.fst) && Nat.ble s.nx GB && Nat.ble l.length GB) = true) (h1 : sameW hp1 hp0) (h2 : subW hp0 hp1)
    (hl : lies l s.nx s.hp hp0) (hr : r.ren (qq l s.nx) = r') (hk : s.on fun _ _ nx _ _ => kq r' [] nx) : CallQ P f vs s kq := by
  simp only [Bool.and_eq_true] at hb
  obtain ⟨⟨⟨⟨⟨⟨b1, b2⟩, b3⟩, b4⟩, b5⟩, b6⟩, b7⟩ := hb
  have b6 : s.nx ≤ GB := by simpa using b6
  have b7 : l.length ≤ GB := by simpa using b7
  have b3' : ∀ k ∈ l, k < GB := fun k hk => Nat.le_of_ble_eq_true (List.all_eq_true.1 b3 k hk)
  refine callQ_intro args hp0 l r hp1 l.length [] ⟨h, oldB_sound b1, ha, lies_get hl, ?_, nodB_sound b5, sameW_get h1, (fun i b h => by cases h), ⟨Nat.le_refl _, b7⟩, nodB_sound b4, (fun p hp => ?_), (fun p hp _ _ => subW_get h2 p hp), by simpa using b6⟩ ?_
  · intro i j b c hi hj hne _
    exact qq_inj b2 b3' (lies_get hl i b hi).1 (lies_get hl j c hj).1 hne
  · exact (lies_get hl p.1 p.2 (subW_get h2 p hp)).1
  · rw [AS.on_eq] at hk; simpa [hr] using hk
theorem prim_mp {m : List (List AC × AC)} (h : primM m) (n : Nat) : ABlk.lt n (.mp m) := fun p hp => ⟨fun x hx => prim_lt ((h p hp).1 x hx), prim_lt (h p hp).2⟩
theorem prim_ren {x : AC} (h : x.prim = true) (q : Nat → Nat) : x.ren q = x := by cases x <;> first | rfl | cases h
theorem mp_ren {m : List (List AC × AC)} (h : primM m) (q : Nat → Nat) : (ABlk.mp m).ren q = .mp m := by
  simp only [ABlk.ren]
  congr 1
  conv => rhs; rw [← List.map_id m]
  refine List.map_congr_left fun p hp => ?_
  obtain ⟨h1, h2⟩ := h p hp
  have : p.1.map (AC.ren q) = p.1 := by
    conv => rhs; rw [← List.map_id p.1]
    exact List.map_congr_left fun x hx => prim_ren (h1 x hx) q
  rw [this, prim_ren h2 q]; rfl
/-- A law of a map is some map's. -/
def openMi (i : Nat) (m : List (List AC × AC)) : List (Nat × ABlk) → List (Nat × ABlk)
  | [] => []
  | (j, b) :: r => if j = i then (j, .mp m) :: r else (j, b) :: openMi i m r
theorem lk_openMi (i : Nat) (m : List (List AC × AC)) : ∀ (hp : List (Nat × ABlk)) (j : Nat), lk (openMi i m hp) j = if j = i then (match lk hp i with | some _ => some (.mp m) | none => none) else lk hp j
  | [], j => by simp [openMi, lk]
  | (k, b) :: r, j => by
    simp only [openMi]
    by_cases h : k = i
    · subst h
      simp only [if_true, lk]
      by_cases h2 : k = j
      · subst h2; simp
      · simp [h2, Ne.symm h2]
    · simp only [if_neg h, lk]
      by_cases h2 : k = j
      · subst h2; simp [h]
      · simp only [if_neg h2]; exact lk_openMi i m r j
theorem FSpec.mi {hp : List (Nat × ABlk)} (i : Nat) {I : List (List AC × AC) → Prop} (hi : lk hp i = some (.mi I)) (hc : ∀ (vs : Array Value) (w : World), (callFunc f vs).run P w = .ok (.enter f vs) w) (h : ∀ m, I m → primM m → FSpec P f args (openMi i m hp) k Post) : FSpec P f args hp k Post where
  call := hc
  run := fun w R vs hok hsz hcon H => by
    obtain ⟨m, ⟨hI, hp'⟩, hB⟩ := BRel.mi_iff.1 (H.blk i _ hi)
    have H2 : HRel R (openMi i m hp) w := by
      refine ⟨fun j b hb => ?_, fun j j' b c hb hb' hne hw => ?_⟩
      · rw [lk_openMi] at hb
        split at hb
        · rename_i e; subst e; rw [hi] at hb; injection hb with hb; exact hb ▸ hB
        · exact H.blk j b hb
      · rw [lk_openMi] at hb hb'
        have hx : ∀ {j b}, (if j = i then (match lk hp i with | some _ => some (ABlk.mp m) | none => none) else lk hp j) = some b → ∃ b', lk hp j = some b' ∧ (b.wr = true → b'.wr = true) := by
          intro j b hb
          split at hb
          · rename_i e; subst e; exact ⟨_, hi, fun _ => rfl⟩
          · exact ⟨b, hb, fun h => h⟩
        obtain ⟨b1, e1, e2⟩ := hx hb
        obtain ⟨c1, e3, _⟩ := hx hb'
        exact H.inj j j' b1 c1 e1 e3 hne (e2 hw)
    refine ((h m hI hp').run w R vs hok hsz hcon H2).mono ?_
    have up : ∀ j b, lk (openMi i m hp) j = some b → b.wr = true → ∃ b', lk hp j = some b' ∧ b'.wr = true := fun j b hb hw => by
      rw [lk_openMi] at hb
      split at hb
      · rename_i e; subst e; exact ⟨_, hi, rfl⟩
      · exact ⟨b, hb, hw⟩
    rintro e w' ⟨u, r, hq, k', R', h1, h2, h3, h4, h5, h6, h7, h8, h9, h10, h11, h12⟩
    refine ⟨u, r, hq, k', R', h1, h2, h3, h4, h5, h6, h7, h8, h9, h10, fun j b hb hw => ?_, h12.mono ?_⟩
    · rcases h11 j b hb hw with ⟨i0, b0, g1, g2, g3⟩ | g
      · obtain ⟨b', g4, g5⟩ := up i0 b0 g1 g2
        exact .inl ⟨i0, b', g4, g5, g3⟩
      · exact .inr g
    · rintro j ⟨i0, b, g1, g2, g3⟩
      obtain ⟨b', g4, g5⟩ := up i0 b g1 g2
      exact ⟨i0, b', g4, g5, g3⟩
theorem rowEq {e z : Nat} {q : Nat → Nat} {xs : List Int} {cs : List AC} (h : cs = ints xs) : some (ABlk.row e z cs) = some ((ABlk.row e z (ints xs)).ren q) := by
  simp only [ABlk.ren, ints_ren, h]
theorem ownEq {q : Nat → Nat} {xs : List Int} {cs : List AC} (h : cs = ints xs) : some (ABlk.own cs) = some ((ABlk.own (ints xs)).ren q) := by
  simp only [ABlk.ren, ints_ren, h]
theorem ints_LA (p : Nat → Prop) (xs : List Int) : LA p (ints xs) ↔ True := ⟨fun _ => trivial, fun _ x hx => by
  obtain ⟨y, _, rfl⟩ := List.mem_map.1 hx; trivial⟩
theorem LA_nil (p : Nat → Prop) : LA p [] ↔ True := ⟨fun _ => trivial, fun _ x hx => (List.not_mem_nil hx).elim⟩
theorem LA_cons (p : Nat → Prop) (x : AC) (xs : List AC) : LA p (x :: xs) ↔ x.all p ∧ LA p xs :=
  ⟨fun h => ⟨h x (by simp), fun y hy => h y (by simp [hy])⟩, fun h y hy => by
    rcases List.mem_cons.1 hy with rfl | hy
    · exact h.1
    · exact h.2 y hy⟩
theorem nilsCond {a b m c : Nat} (h : (Nat.blt a b && decide ((m : Int) * (c : Int) ≤ 140737488355328) && Nat.ble m 9223372036854775807) = true) : a < b ∧ (m : Int) * (c : Int) ≤ 140737488355328 ∧ m ≤ 9223372036854775807 := by
  simp only [Bool.and_eq_true, decide_eq_true_eq] at h
  exact ⟨Nat.le_of_ble_eq_true h.1.1, h.1.2, Nat.le_of_ble_eq_true h.2⟩
theorem bsCond {a b c d e : Nat} (h : (Nat.blt a b && Nat.blt 0 c && Nat.beq d c && Nat.ble e 16777216) = true) : a < b ∧ 0 < c ∧ d = c ∧ e ≤ 16777216 := by
  simp only [Bool.and_eq_true] at h
  exact ⟨Nat.le_of_ble_eq_true h.1.1.1, Nat.le_of_ble_eq_true h.1.1.2, Nat.eq_of_beq_eq_true h.1.2, Nat.le_of_ble_eq_true h.2⟩
theorem LL_nil (n : Nat) : LL n [] ↔ True := ⟨fun _ => trivial, fun _ x hx => (List.not_mem_nil hx).elim⟩
theorem LL_cons (n : Nat) (x : AC) (xs : List AC) : LL n (x :: xs) ↔ x.lt n ∧ LL n xs :=
  ⟨fun h => ⟨h x (by simp), fun y hy => h y (by simp [hy])⟩, fun h y hy => by
    rcases List.mem_cons.1 hy with rfl | hy
    · exact h.1
    · exact h.2 y hy⟩
end Go.AH
