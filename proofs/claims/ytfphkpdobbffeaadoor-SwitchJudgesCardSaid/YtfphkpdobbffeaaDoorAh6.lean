/-
  Handling: a contract says less of what it is handed and of what it hands back.
-/
import Derived.Test.YtfphkpdobbffeaaDoorAh5
import Derived.Lib.Overlaps
import Derived.Laws.Externs
set_option linter.unusedSimpArgs false
set_option linter.unusedVariables false
namespace Go.AH
open Go.RowKit

def wkC (hp : List (Nat × ABlk)) : AC → AC → Prop
  | .sl i o n _, .rs j p m => i = j ∧ o = p ∧ n = m
  | .row i n, .rs j p m => (i = j ∧ p = 0 ∧ n = m) ∧ (match lk hp i with | some (.row ..) => True | some (.own _) => True | _ => False)
  | .nils, .rs _ _ m => m = 0
  | .rp i o n _ _, .row j m => i = j ∧ o = 0 ∧ n = m
  | .rp i o n _ z, .rs j p m => (i = j ∧ p = o * z ∧ n = m) ∧ (match lk hp i with | some (.row ..) => True | _ => False)
  | x, y => x = y
def wkL (hp : List (Nat × ABlk)) : List AC → List AC → Prop
  | [], [] => True
  | x :: xs, y :: ys => wkC hp x y ∧ wkL hp xs ys
  | _, _ => False
def wkE (hp : List (Nat × ABlk)) : AE → AE → Prop
  | .c x, .c y => wkC hp x y
  | .g xs, .g ys => xs = ys ∨ wkL hp xs ys
  | _, _ => False
def wkEs (hp : List (Nat × ABlk)) : List AE → List AE → Prop
  | [], [] => True
  | x :: xs, y :: ys => wkE hp x y ∧ wkEs hp xs ys
  | _, _ => False
def wkV (hp : List (Nat × ABlk)) : AV → AV → Prop
  | .c x, .c y => wkC hp x y
  | .g xs, .g ys => xs = ys ∨ wkL hp xs ys
  | .t xs, .t ys => wkEs hp xs ys
  | _, _ => False
def wkVs (hp : List (Nat × ABlk)) : List AV → List AV → Prop
  | [], [] => True
  | x :: xs, y :: ys => wkV hp x y ∧ wkVs hp xs ys
  | _, _ => False
def wkB (hp : List (Nat × ABlk)) : ABlk → ABlk → Prop
  | .own xs, .own ys => xs = ys ∨ wkL hp xs ys
  | .row e z xs, .row e' z' ys => (e = e' ∧ z = z') ∧ (xs = ys ∨ wkL hp xs ys)
  | .ro xs, .ro ys => xs = ys ∨ wkL hp xs ys
  | .own xs, .ro ys => xs = ys ∨ wkL hp xs ys
  | .row _ _ xs, .ro ys => xs = ys ∨ wkL hp xs ys
  | .mp m, .mi I => I m ∧ primM m
  | .own xs, .li I => I xs ∧ ∀ x ∈ xs, x.prim = true
  | x, y => x = y
def wkH (hp : List (Nat × ABlk)) : List (Nat × ABlk) → Prop
  | [] => True
  | (i, b) :: r => (match lk hp i with | some b' => wkB hp b' b | none => False) ∧ wkH hp r

variable {R : Ren} {hp : List (Nat × ABlk)} {w : World}

theorem wkC_sound {x y : AC} {v : Value} (h : wkC hp x y) (H : HRel R hp w) (hc : conC R x v) : conC R y v := by
  unfold wkC at h
  split at h
  · obtain ⟨rfl, rfl, rfl⟩ := h
    obtain ⟨a, c, h1, _, h2, h3⟩ := hc
    exact .inl ⟨a, c, h1, h2, h3⟩
  · rename_i i n j p m
    obtain ⟨⟨rfl, rfl, rfl⟩, hb⟩ := h
    have hd : R.δ i = 0 := by
      split at hb
      · rename_i e; obtain ⟨_, _, hd, _⟩ := H.blk _ _ e; exact hd
      · rename_i e; obtain ⟨_, _, _, hd, _⟩ := H.blk _ _ e; exact hd
      · exact hb.elim
    obtain ⟨h1, h2⟩ := hc
    exact .inl ⟨_, _, h1, fun _ => by simp [Ren.adr, hd], h2⟩
  · subst h; exact .inr ⟨rfl, hc⟩
  · obtain ⟨rfl, rfl, rfl⟩ := h
    obtain ⟨h1, h2, h3⟩ := hc
    rw [Nat.zero_mul] at h1
    rw [Nat.zero_add] at h2
    exact ⟨by rw [h1, h2], by omega⟩
  · rename_i i o n c z j p m
    obtain ⟨⟨rfl, rfl, rfl⟩, hb⟩ := h
    have hd : R.δ i = 0 := by
      split at hb
      · rename_i e; obtain ⟨_, _, hd, _⟩ := H.blk _ _ e; exact hd
      · exact hb.elim
    obtain ⟨h1, h2, h3⟩ := hc
    exact .inl ⟨_, _, h1, fun _ => by simp [Ren.adr, hd], h3⟩
  · exact h ▸ hc
theorem wkL_len : ∀ {xs ys : List AC}, wkL hp xs ys → xs.length = ys.length
  | [], [], _ => rfl
  | x :: xs, y :: ys, h => by simp [wkL_len h.2]
  | [], _ :: _, h => h.elim
  | _ :: _, [], h => h.elim
theorem wkL_get : ∀ {xs ys : List AC}, wkL hp xs ys → ∀ (i : Nat) (y : AC), ys[i]? = some y → ∃ x, xs[i]? = some x ∧ wkC hp x y
  | [], [], _, i, y, hi => by simp at hi
  | x :: xs, z :: ys, h, i, y, hi => by
    cases i with
    | zero => simp at hi; subst hi; exact ⟨x, rfl, h.1⟩
    | succ i => simp at hi; obtain ⟨x', a, b⟩ := wkL_get h.2 i y hi; exact ⟨x', by simpa using a, b⟩
  | [], _ :: _, h, _, _, _ => h.elim
  | _ :: _, [], h, _, _, _ => h.elim
theorem wkL_sound {xs ys : List AC} {vs : Array Value} {o : Nat} (h : xs = ys ∨ wkL hp xs ys) (H : HRel R hp w) (hc : conL R xs vs o) : conL R ys vs o ∧ xs.length = ys.length := by
  rcases h with rfl | h
  · exact ⟨hc, rfl⟩
  · refine ⟨fun i y hi => ?_, wkL_len h⟩
    obtain ⟨x, h1, h2⟩ := wkL_get h i y hi
    obtain ⟨v, h3, h4⟩ := hc i x h1
    exact ⟨v, h3, wkC_sound h2 H h4⟩
theorem wkE_sound {x y : AE} {v : Value} (h : wkE hp x y) (H : HRel R hp w) (hc : conE R x v) : conE R y v := by
  cases x <;> cases y <;> simp only [wkE] at h
  · exact wkC_sound h H hc
  · obtain ⟨vs, a, b, c⟩ := hc
    obtain ⟨d, e⟩ := wkL_sound h H c
    exact ⟨vs, a, by omega, d⟩
theorem wkEs_get : ∀ {xs ys : List AE}, wkEs hp xs ys → xs.length = ys.length ∧ ∀ (i : Nat) (y : AE), ys[i]? = some y → ∃ x, xs[i]? = some x ∧ wkE hp x y
  | [], [], _ => ⟨rfl, fun i y hi => by simp at hi⟩
  | x :: xs, z :: ys, h => by
    obtain ⟨h1, h2⟩ := wkEs_get h.2
    refine ⟨by simp [h1], fun i y hi => ?_⟩
    cases i with
    | zero => simp at hi; subst hi; exact ⟨x, rfl, h.1⟩
    | succ i => simp at hi; obtain ⟨x', a, b⟩ := h2 i y hi; exact ⟨x', by simpa using a, b⟩
  | [], _ :: _, h => h.elim
  | _ :: _, [], h => h.elim
theorem wkV_sound {x y : AV} {v : Value} (h : wkV hp x y) (H : HRel R hp w) (hc : conV R x v) : conV R y v := by
  cases x <;> cases y <;> simp only [wkV] at h
  · exact wkC_sound h H hc
  · obtain ⟨vs, a, b, c⟩ := hc
    obtain ⟨d, e⟩ := wkL_sound h H c
    exact ⟨vs, a, by omega, d⟩
  · obtain ⟨vs, a, b, c⟩ := hc
    obtain ⟨d, e⟩ := wkEs_get h
    refine ⟨vs, a, by omega, fun i y hi => ?_⟩
    obtain ⟨x, h1, h2⟩ := e i y hi
    obtain ⟨u, h3, h4⟩ := c i x h1
    exact ⟨u, h3, wkE_sound h2 H h4⟩
theorem wkVs_get : ∀ {xs ys : List AV}, wkVs hp xs ys → xs.length = ys.length ∧ ∀ (i : Nat) (y : AV), ys[i]? = some y → ∃ x, xs[i]? = some x ∧ wkV hp x y
  | [], [], _ => ⟨rfl, fun i y hi => by simp at hi⟩
  | x :: xs, z :: ys, h => by
    obtain ⟨h1, h2⟩ := wkVs_get h.2
    refine ⟨by simp [h1], fun i y hi => ?_⟩
    cases i with
    | zero => simp at hi; subst hi; exact ⟨x, rfl, h.1⟩
    | succ i => simp at hi; obtain ⟨x', a, b⟩ := h2 i y hi; exact ⟨x', by simpa using a, b⟩
  | [], _ :: _, h => h.elim
  | _ :: _, [], h => h.elim
theorem wkB_sound {x y : ABlk} {id : Nat} (h : wkB hp x y) (H : HRel R hp w) (hc : BRel R id w x) : BRel R id w y ∧ (y.wr = true → x.wr = true) := by
  unfold wkB at h
  split at h
  · obtain ⟨c, t, a, b, d, e⟩ := hc
    obtain ⟨f, g⟩ := wkL_sound h H e
    exact ⟨⟨c, t, a, b, by omega, f⟩, fun _ => rfl⟩
  · obtain ⟨⟨rfl, rfl⟩, h⟩ := h
    obtain ⟨c, a, b, d, e, e2, e3⟩ := hc
    obtain ⟨f, g⟩ := wkL_sound h H e3
    exact ⟨⟨c, a, b, d, e, by omega, f⟩, fun _ => rfl⟩
  · obtain ⟨c, t, z, a, b⟩ := hc
    exact ⟨⟨c, t, z, a, (wkL_sound h H b).1⟩, fun h => h⟩
  · obtain ⟨c, t, a, b, d, e⟩ := hc
    exact ⟨⟨c, t, _, a, (wkL_sound h H (by rw [b]; exact e)).1⟩, fun _ => rfl⟩
  · obtain ⟨c, a, b, d, e, e2, e3⟩ := hc
    exact ⟨⟨c, _, _, a, (wkL_sound h H (by rw [b]; exact e3)).1⟩, fun _ => rfl⟩
  · exact ⟨BRel.mi_iff.2 ⟨_, h, hc⟩, fun _ => rfl⟩
  · exact ⟨⟨_, h, hc⟩, fun _ => rfl⟩
  · subst h; exact ⟨hc, fun h => h⟩
theorem wkH_get : ∀ {l : List (Nat × ABlk)}, wkH hp l → ∀ i b, lk l i = some b → ∃ b', lk hp i = some b' ∧ wkB hp b' b
  | [], _, i, b, h => by cases h
  | (j, c) :: r, h, i, b, hi => by
    simp only [lk] at hi
    split at hi
    · rename_i e; subst e; injection hi with hi; subst hi
      have h1 := h.1
      split at h1
      · rename_i b' e; exact ⟨b', e, h1⟩
      · exact h1.elim
    · exact wkH_get h.2 i b hi
theorem wkH_sound {l : List (Nat × ABlk)} (h : wkH hp l) (H : HRel R hp w) : HRel R l w :=
  ⟨fun i b hb => by
      obtain ⟨b', h1, h2⟩ := wkH_get h i b hb
      exact (wkB_sound h2 H (H.blk _ _ h1)).1, fun i j b c hi hj hne hw => by
      obtain ⟨b', h1, h2⟩ := wkH_get h i b hi
      obtain ⟨c', h3, _⟩ := wkH_get h j c hj
      exact H.inj i j b' c' h1 h3 hne ((wkB_sound h2 H (H.blk _ _ h1)).2 hw), H.zw, fun i b hb hw => by
      obtain ⟨b', h1, h2⟩ := wkH_get h i b hb
      exact H.zn i b' h1 ((wkB_sound h2 H (H.blk _ _ h1)).2 hw)⟩

variable {P : Program} {f : FuncId} {args : List AV} {k : Nat} {Post : AV → List (Nat × ABlk) → Nat → Prop}

theorem FSpec.wk (h : FSpec P f args hp k Post) {args' : List AV} {hp' : List (Nat × ABlk)} (ha : wkVs hp' args' args) (hh : wkH hp' hp) : FSpec P f args' hp' k Post where
  call := h.call
  run := fun w R vs hok hsz hcon H => by
    obtain ⟨hl, hg⟩ := wkVs_get ha
    refine (h.run w R vs hok (by omega) (fun i v hi => ?_) (wkH_sound hh H)).mono ?_
    · obtain ⟨x, h1, h2⟩ := hg i v hi
      obtain ⟨u, h3, h4⟩ := hcon i x h1
      exact ⟨u, h3, wkV_sound h2 H h4⟩
    · rintro e w' ⟨u, r, hq, k', R', h1, h2, h3, h4, h5, h6, h7, h8, h9, h10, h11, h12⟩
      have up : ∀ i b, lk hp i = some b → b.wr = true → ∃ b', lk hp' i = some b' ∧ b'.wr = true := fun i b hb hw => by
        obtain ⟨b', g1, g2⟩ := wkH_get hh i b hb
        exact ⟨b', g1, (wkB_sound g2 H (H.blk _ _ g1)).2 hw⟩
      refine ⟨u, r, hq, k', R', h1, h2, h3, h4, h5, h6, h7, h8, h9, h10, fun i b hb hw => ?_, h12.1.mono ?_, fun b hb => (h12.2 b hb).imp id (Or.imp (fun ⟨i0, b0, g1, g2, g3⟩ => by obtain ⟨b', g4, g5⟩ := up i0 b0 g1 g2; exact ⟨i0, b', g4, g5, g3⟩) id)⟩
      · rcases h11 i b hb hw with ⟨i0, b0, g1, g2, g3⟩ | g
        · obtain ⟨b', g4, g5⟩ := up i0 b0 g1 g2
          exact .inl ⟨i0, b', g4, g5, g3⟩
        · exact .inr g
      · rintro j ⟨i, b, g1, g2, g3⟩
        obtain ⟨b', g4, g5⟩ := up i b g1 g2
        exact ⟨i, b', g4, g5, g3⟩
theorem FSpec.post (h : FSpec P f args hp k Post) {Post' : AV → List (Nat × ABlk) → Nat → Prop}
    (hp' : ∀ r hq k', Post r hq k' → ∃ r2 hq2, Post' r2 hq2 k' ∧ wkV hq r r2 ∧ wkH hq hq2 ∧ r2.lt k' ∧ hpLt k' hq2 ∧ (hq2.map Prod.fst).Nodup) : FSpec P f args hp k Post' where
  call := h.call
  run := fun w R vs hok hsz hcon H => by
    refine (h.run w R vs hok hsz hcon H).mono ?_
    rintro e w' ⟨u, r, hq, k', R', h1, h2, h3, h4, h5, h6, h7, h8, h9, h10, h11, h12⟩
    obtain ⟨r2, hq2, g1, g2, g3, g4, g5, g6⟩ := hp' r hq k' h2
    refine ⟨u, r2, hq2, k', R', h1, g1, h3, h4, h5, wkV_sound g2 h8 h6, g4, wkH_sound g3 h8, g6, fun i b hb => hpLt_get g5 hb, fun i b hb hw => ?_, h12⟩
    obtain ⟨b', e1, e2⟩ := wkH_get g3 i b hb
    exact h11 i b' e1 ((wkB_sound e2 h8 (h8.blk _ _ e1)).2 hw)
theorem FDet.post {r : AV} {hq : List (Nat × ABlk)} {k' : Nat} (h : FDet P f args hp k r hq k') (r2 : AV) (hq2 : List (Nat × ABlk)) (g2 : wkV hq r r2) (g3 : wkH hq hq2) (g4 : r2.lt k') (g5 : hpLt k' hq2) (g6 : nodB (hq2.map Prod.fst) = true) : FDet P f args hp k r2 hq2 k' :=
  FSpec.post h fun r0 hq0 k0 ⟨e1, e2, e3⟩ => by
    subst e1; subst e2; subst e3
    exact ⟨r2, hq2, ⟨rfl, rfl, rfl⟩, g2, g3, g4, g5, nodB_sound g6⟩
theorem FDet.wk {r : AV} {hq : List (Nat × ABlk)} {k' : Nat} (h : FDet P f args hp k r hq k') {args' : List AV} {hp' : List (Nat × ABlk)} (ha : wkVs hp' args' args) (hh : wkH hp' hp) : FDet P f args' hp' k r hq k' :=
  FSpec.wk h ha hh
theorem FSpec.imp (h : FSpec P f args hp k Post) {Post' : AV → List (Nat × ABlk) → Nat → Prop} (hi : ∀ r hq k', Post r hq k' → Post' r hq k') : FSpec P f args hp k Post' where
  call := h.call
  run := fun w R vs hok hsz hcon H => by
    refine (h.run w R vs hok hsz hcon H).mono ?_
    rintro e w' ⟨u, r, hq, k', R', h1, h2, h3⟩
    exact ⟨u, r, hq, k', R', h1, hi _ _ _ h2, h3⟩
theorem Fin.new {s : AS} {r : AV} {Post : AV → List (Nat × ABlk) → Nat → Prop} (l : List Nat) (r0 : AV) (hp' : List (Nat × ABlk)) (hpost : Post r0 hp' (s.k0 + l.length)) (hres : r0.ren (qf s.k0 l) = r) (hh : hpAll s.hp (qf s.k0 l) hp')
    (hb : (nodB (hp'.map fun p => qf s.k0 l p.1) && nodB (hp'.map Prod.fst) && Nat.ble (s.k0 + l.length) GB) = true) (rlt : r0.lt (s.k0 + l.length)) (hlt : hpLt (s.k0 + l.length) hp') : Fin s r Post := by
  simp only [Bool.and_eq_true] at hb
  exact Fin.mk l r0 hp' ⟨hpost, hres, hh, nodB_sound hb.1.1, nodB_sound hb.1.2, rlt, hlt, Nat.le_of_ble_eq_true hb.2⟩
theorem RoundOk.new {k : Nat} {s : AS} {hp' : List (Nat × ABlk)} (l : List (Nat × Nat)) (hf : (l.all fun p => Nat.ble k p.1 && Nat.blt p.1 GB) = true) (hh : hpAll s.hp (rn l) hp') (hn : nodB (hp'.map fun p => rn l p.1) = true) : RoundOk k s hp' :=
  RoundOk.mk l ⟨fun p hp => by
    have := List.all_eq_true.1 hf p hp
    simp only [Bool.and_eq_true] at this
    exact ⟨Nat.le_of_ble_eq_true this.1, Nat.le_of_ble_eq_true this.2⟩, hh, nodB_sound hn⟩
theorem CallQ.new {s : AS} {vs : List AV} {kq : AV → List (Nat × ABlk) → Nat → Prop} {hp0 : List (Nat × ABlk)} (l : List Nat) {r : AV} {hp1 : List (Nat × ABlk)} {k1 : Nat} (r' : AV) (nb : List (Nat × ABlk)) (h : FDet P f args hp0 l.length r hp1 k1) (ha : args.map (AV.ren (qq l s.nx)) = vs)
    (hb : (oldB s.nx l && allRo hp0 && nodB (hp0.map Prod.fst) && nodB (hp1.map Prod.fst) && (hp1.all fun p => Nat.ble l.length p.1 && Nat.blt p.1 k1 && p.2.wr) && Nat.ble l.length k1 && Nat.ble k1 GB && Nat.ble (s.nx + (k1 - l.length)) GB) = true)
    (hl : lies l s.nx s.hp hp0) (hr : r.ren (qq l s.nx) = r') (hn : (hp1.map fun p => (qq l s.nx p.1, p.2.ren (qq l s.nx))) = nb) (hk : s.on fun _ _ nx _ _ => kq r' nb (nx + (k1 - l.length))) : CallQ P f vs s kq := by
  simp only [Bool.and_eq_true] at hb
  obtain ⟨⟨⟨⟨⟨⟨⟨b1, b2⟩, b3⟩, b4⟩, b5⟩, b6⟩, b7⟩, b8⟩ := hb
  have b6 : l.length ≤ k1 := by simpa using b6
  have b7 : k1 ≤ GB := by simpa using b7
  have b8 : s.nx + (k1 - l.length) ≤ GB := by simpa using b8
  have hnew : ∀ p ∈ hp1, l.length ≤ p.1 ∧ p.1 < k1 ∧ p.2.wr = true := fun p hp => by
    have := List.all_eq_true.1 b5 p hp
    simp only [Bool.and_eq_true] at this
    exact ⟨Nat.le_of_ble_eq_true this.1.1, Nat.le_of_ble_eq_true this.1.2, this.2⟩
  have hGB : ∀ p ∈ hp1, p.1 < GB := fun p hp => by have := hnew p hp; omega
  refine callQ_intro args hp0 l r hp1 k1 hp1 ⟨h, oldB_sound b1, ha, lies_get hl, ?_, nodB_sound b4, ?_, (fun i b h => ?_), ⟨b6, b7⟩, nodB_sound b3, (fun p hp => .inl (hnew p hp).2.1), (fun p hp hw ho => ?_), b8⟩ ?_
  · intro i j b c hi _ _ hw
    rw [allRo_sound b2 i b hi] at hw; cases hw
  · intro i b hi hw
    rw [allRo_sound b2 i b hi] at hw; cases hw
  · have hm := mem_lk h
    obtain ⟨h1, h2, h3⟩ := hnew _ hm
    exact ⟨.inl ⟨h1, h2⟩, h3, h⟩
  · exfalso
    have h1 := hnew p hp
    have h2 := hGB p hp
    omega
  · rw [AS.on_eq] at hk; rw [hr, hn]; exact hk
theorem Sub.new {s t : AS} (l : List (Nat × Nat)) (h : t.nt = s.nt ∧ t.k0 = s.k0 ∧ (t.k0 ≤ t.nx ∧ t.nx ≤ s.nx)) (hf : (l.all fun p => Nat.ble s.k0 p.1 && Nat.blt p.1 GB) = true) (htm : lkAll s.tm (rn l) t.tm) (hhp : hpAll s.hp (rn l) t.hp)
    (hn : nodB (t.hp.map fun p => rn l p.1) = true) (h1 : tmLt t.nx t.tm) (h2 : hpLt t.nx t.hp) : Sub s t l :=
  ⟨h.1, h.2.1, h.2.2, fun p hp => by
    have := List.all_eq_true.1 hf p hp
    simp only [Bool.and_eq_true] at this
    exact ⟨Nat.le_of_ble_eq_true this.1, Nat.le_of_ble_eq_true this.2⟩, htm, hhp, nodB_sound hn, h1, h2⟩
def sameW (hp1 : List (Nat × ABlk)) : List (Nat × ABlk) → Prop
  | [] => True
  | (i, b) :: r => (match b.wr with | true => lk hp1 i = some b | false => True) ∧ sameW hp1 r
theorem sameW_get {hp1 : List (Nat × ABlk)} : ∀ {l : List (Nat × ABlk)}, sameW hp1 l → ∀ i b, lk l i = some b → b.wr = true → lk hp1 i = some b
  | [], _, i, b, h, _ => by cases h
  | (j, c) :: r, h, i, b, hi, hw => by
    simp only [lk] at hi
    split at hi
    · rename_i e; subst e; injection hi with hi; subst hi
      have h1 := h.1
      rw [hw] at h1; exact h1
    · exact sameW_get h.2 i b hi hw
def subW (hp0 : List (Nat × ABlk)) : List (Nat × ABlk) → Prop
  | [] => True
  | (i, b) :: r => lk hp0 i = some b ∧ subW hp0 r
theorem subW_get {hp0 : List (Nat × ABlk)} : ∀ {l : List (Nat × ABlk)}, subW hp0 l → ∀ p ∈ l, lk hp0 p.1 = some p.2
  | [], _, p, h => (List.not_mem_nil h).elim
  | (j, c) :: r, h, p, hp => by
    rcases List.mem_cons.1 hp with rfl | hp
    · exact h.1
    · exact subW_get h.2 p hp
theorem CallQ.keep {s : AS} {vs : List AV} {kq : AV → List (Nat × ABlk) → Nat → Prop} {hp0 : List (Nat × ABlk)} (l : List Nat) {r : AV} {hp1 : List (Nat × ABlk)} (r' : AV) (h : FDet P f args hp0 l.length r hp1 l.length) (ha : args.map (AV.ren (qq l s.nx)) = vs)
    (hb : (oldB s.nx l && nodB l && (l.all fun i => Nat.blt i GB) && nodB (hp0.map Prod.fst) && nodB (hp1.map Prod.fst) && Nat.ble s.nx GB && Nat.ble l.length GB) = true) (h1 : sameW hp1 hp0) (h2 : subW hp0 hp1)
    (hl : lies l s.nx s.hp hp0) (hr : r.ren (qq l s.nx) = r') (hk : s.on fun _ _ nx _ _ => kq r' [] nx) : CallQ P f vs s kq := by
  simp only [Bool.and_eq_true] at hb
  obtain ⟨⟨⟨⟨⟨⟨b1, b2⟩, b3⟩, b4⟩, b5⟩, b6⟩, b7⟩ := hb
  have b6 : s.nx ≤ GB := by simpa using b6
  have b7 : l.length ≤ GB := by simpa using b7
  have b3' : ∀ k ∈ l, k < GB := fun k hk => Nat.le_of_ble_eq_true (List.all_eq_true.1 b3 k hk)
  refine callQ_intro args hp0 l r hp1 l.length [] ⟨h, oldB_sound b1, ha, lies_get hl, ?_, nodB_sound b5, (fun i b hi hw => .inl (sameW_get h1 i b hi hw)), (fun i b h => by cases h), ⟨Nat.le_refl _, b7⟩, nodB_sound b4, (fun p hp => ?_), (fun p hp hw _ => ⟨_, subW_get h2 p hp, hw⟩), by simpa using b6⟩ ?_
  · intro i j b c hi hj hne _
    exact qq_inj b2 b3' (lies_get hl i b hi).1 (lies_get hl j c hj).1 hne
  · exact (lies_get hl p.1 p.2 (subW_get h2 p hp)).1
  · rw [AS.on_eq] at hk; simpa [hr] using hk
theorem prim_mp {m : List (List AC × AC)} (h : primM m) (n : Nat) : ABlk.lt n (.mp m) := fun p hp => ⟨fun x hx => prim_lt ((h p hp).1 x hx), prim_lt (h p hp).2⟩
theorem prim_ren {x : AC} (h : x.prim = true) (q : Nat → Nat) : x.ren q = x := by cases x <;> first | rfl | cases h
theorem mp_ren {m : List (List AC × AC)} (h : primM m) (q : Nat → Nat) : (ABlk.mp m).ren q = .mp m := by
  simp only [ABlk.ren]
  congr 1
  conv => rhs; rw [← List.map_id m]
  refine List.map_congr_left fun p hp => ?_
  obtain ⟨h1, h2⟩ := h p hp
  have : p.1.map (AC.ren q) = p.1 := by
    conv => rhs; rw [← List.map_id p.1]
    exact List.map_congr_left fun x hx => prim_ren (h1 x hx) q
  rw [this, prim_ren h2 q]; rfl
def openMi (i : Nat) (m : List (List AC × AC)) : List (Nat × ABlk) → List (Nat × ABlk)
  | [] => []
  | (j, b) :: r => if j = i then (j, .mp m) :: r else (j, b) :: openMi i m r
theorem lk_openMi (i : Nat) (m : List (List AC × AC)) : ∀ (hp : List (Nat × ABlk)) (j : Nat), lk (openMi i m hp) j = if j = i then (match lk hp i with | some _ => some (.mp m) | none => none) else lk hp j
  | [], j => by simp [openMi, lk]
  | (k, b) :: r, j => by
    simp only [openMi]
    by_cases h : k = i
    · subst h
      simp only [if_true, lk]
      by_cases h2 : k = j
      · subst h2; simp
      · simp [h2, Ne.symm h2]
    · simp only [if_neg h, lk]
      by_cases h2 : k = j
      · subst h2; simp [h]
      · simp only [if_neg h2]; exact lk_openMi i m r j
theorem FSpec.mi {hp : List (Nat × ABlk)} (i : Nat) {I : List (List AC × AC) → Prop} (hi : lk hp i = some (.mi I)) (hc : ∀ (vs : Array Value) (w : World), (callFunc f vs).run P w = .ok (.enter f vs) w) (h : ∀ m, I m → primM m → FSpec P f args (openMi i m hp) k Post) : FSpec P f args hp k Post where
  call := hc
  run := fun w R vs hok hsz hcon H => by
    obtain ⟨m, ⟨hI, hp'⟩, hB⟩ := BRel.mi_iff.1 (H.blk i _ hi)
    have H2 : HRel R (openMi i m hp) w := by
      refine ⟨fun j b hb => ?_, fun j j' b c hb hb' hne hw => ?_, H.zw, fun j b hb hw => ?_⟩
      · rw [lk_openMi] at hb
        split at hb
        · rename_i e; subst e; rw [hi] at hb; injection hb with hb; exact hb ▸ hB
        · exact H.blk j b hb
      · rw [lk_openMi] at hb hb'
        have hx : ∀ {j b}, (if j = i then (match lk hp i with | some _ => some (ABlk.mp m) | none => none) else lk hp j) = some b → ∃ b', lk hp j = some b' ∧ (b.wr = true → b'.wr = true) := by
          intro j b hb
          split at hb
          · rename_i e; subst e; exact ⟨_, hi, fun _ => rfl⟩
          · exact ⟨b, hb, fun h => h⟩
        obtain ⟨b1, e1, e2⟩ := hx hb
        obtain ⟨c1, e3, _⟩ := hx hb'
        exact H.inj j j' b1 c1 e1 e3 hne (e2 hw)
      · rw [lk_openMi] at hb
        split at hb
        · rename_i e; subst e; exact H.zn _ _ hi rfl
        · exact H.zn j b hb hw
    refine ((h m hI hp').run w R vs hok hsz hcon H2).mono ?_
    have up : ∀ j b, lk (openMi i m hp) j = some b → b.wr = true → ∃ b', lk hp j = some b' ∧ b'.wr = true := fun j b hb hw => by
      rw [lk_openMi] at hb
      split at hb
      · rename_i e; subst e; exact ⟨_, hi, rfl⟩
      · exact ⟨b, hb, hw⟩
    rintro e w' ⟨u, r, hq, k', R', h1, h2, h3, h4, h5, h6, h7, h8, h9, h10, h11, h12⟩
    refine ⟨u, r, hq, k', R', h1, h2, h3, h4, h5, h6, h7, h8, h9, h10, fun j b hb hw => ?_, h12.1.mono ?_, fun b hb => (h12.2 b hb).imp id (Or.imp (fun ⟨i0, b0, g1, g2, g3⟩ => by obtain ⟨b', g4, g5⟩ := up i0 b0 g1 g2; exact ⟨i0, b', g4, g5, g3⟩) id)⟩
    · rcases h11 j b hb hw with ⟨i0, b0, g1, g2, g3⟩ | g
      · obtain ⟨b', g4, g5⟩ := up i0 b0 g1 g2
        exact .inl ⟨i0, b', g4, g5, g3⟩
      · exact .inr g
    · rintro j ⟨i0, b, g1, g2, g3⟩
      obtain ⟨b', g4, g5⟩ := up i0 b g1 g2
      exact ⟨i0, b', g4, g5, g3⟩
theorem rowEq {e z : Nat} {q : Nat → Nat} {xs : List Int} {cs : List AC} (h : cs = ints xs) : some (ABlk.row e z cs) = some ((ABlk.row e z (ints xs)).ren q) := by
  simp only [ABlk.ren, ints_ren, h]
theorem ints_LA (p : Nat → Prop) (xs : List Int) : LA p (ints xs) ↔ True := ⟨fun _ => trivial, fun _ x hx => by
  obtain ⟨y, _, rfl⟩ := List.mem_map.1 hx; trivial⟩
theorem LA_nil (p : Nat → Prop) : LA p [] ↔ True := ⟨fun _ => trivial, fun _ x hx => (List.not_mem_nil hx).elim⟩
theorem LA_cons (p : Nat → Prop) (x : AC) (xs : List AC) : LA p (x :: xs) ↔ x.all p ∧ LA p xs :=
  ⟨fun h => ⟨h x (by simp), fun y hy => h y (by simp [hy])⟩, fun h y hy => by
    rcases List.mem_cons.1 hy with rfl | hy
    · exact h.1
    · exact h.2 y hy⟩
theorem nilsCond {a b m c : Nat} (h : (Nat.blt a b && decide ((m : Int) * (c : Int) ≤ 140737488355328) && Nat.ble m 9223372036854775807) = true) : a < b ∧ (m : Int) * (c : Int) ≤ 140737488355328 ∧ m ≤ 9223372036854775807 := by
  simp only [Bool.and_eq_true, decide_eq_true_eq] at h
  exact ⟨Nat.le_of_ble_eq_true h.1.1, h.1.2, Nat.le_of_ble_eq_true h.2⟩
theorem bsCond {a b c d e : Nat} (h : (Nat.blt a b && Nat.blt 0 c && Nat.beq d c && Nat.ble e 16777216) = true) : a < b ∧ 0 < c ∧ d = c ∧ e ≤ 16777216 := by
  simp only [Bool.and_eq_true] at h
  exact ⟨Nat.le_of_ble_eq_true h.1.1.1, Nat.le_of_ble_eq_true h.1.1.2, Nat.eq_of_beq_eq_true h.1.2, Nat.le_of_ble_eq_true h.2⟩
theorem LL_nil (n : Nat) : LL n [] ↔ True := ⟨fun _ => trivial, fun _ x hx => (List.not_mem_nil hx).elim⟩
theorem LL_cons (n : Nat) (x : AC) (xs : List AC) : LL n (x :: xs) ↔ x.lt n ∧ LL n xs :=
  ⟨fun h => ⟨h x (by simp), fun y hy => h y (by simp [hy])⟩, fun h y hy => by
    rcases List.mem_cons.1 hy with rfl | hy
    · exact h.1
    · exact h.2 y hy⟩
end Go.AH

/-
  A slice that is nil, where one is read.
-/
namespace Go.AH
open Go

variable {P : Program} {f : FuncId} {args : List AV} {hp : List (Nat × ABlk)}

theorem FDet.nil0 {r : AV} {k' : Nat} (h : FDet P f args ((0, .ro []) :: hp) 1 r [] k') (args' : List AV) (j : Nat) (cs : List AC) (hj : lk hp j = some (.ro cs)) (hw : wkVs ((0, .ro []) :: hp) args' args)
    (ha : ∀ v ∈ args', v.all (· ≠ 0)) (hb : ∀ p ∈ hp, p.1 ≠ 0 ∧ p.2.all (· ≠ 0)) (hr : r.all (· ≠ 0)) : FDet P f args' hp 1 r [] k' where
  call := h.call
  run := fun w R vs hok hsz hcon H => by
    have hb2 : ∀ i b, lk hp i = some b → i ≠ 0 ∧ b.all (· ≠ 0) := fun i b hi => hb _ (mem_lk hi)
    have hag : AgreeOn (· ≠ 0) R (R.set 0 (R.ρ j) 0 (R.κ j)) := ⟨fun i hi => by simp [Ren.set, hi], Zle.refl _⟩
    have H1 : HRel (R.set 0 (R.ρ j) 0 (R.κ j)) ((0, .ro []) :: hp) w := by
      refine ⟨fun i b hi => ?_, fun i i' b c hi hi' hne hwr => ?_, H.zw, fun i b hi hwr => ?_⟩
      · simp only [lk] at hi
        split at hi
        · rename_i e; subst e; injection hi with hi; subst hi
          obtain ⟨c, t, z, hh, _⟩ := H.blk j _ hj
          exact ⟨c, t, z, by simpa using hh, fun i x hx => by simp at hx⟩
        · obtain ⟨h1, h2⟩ := hb2 i b hi
          exact BRel.agreeOn hag h1 h2 (H.blk i b hi)
      · simp only [lk] at hi hi'
        split at hi
        · injection hi with hi; subst hi; cases hwr
        · have h1 := hb2 i b hi
          rw [(hag i h1.1).1]
          split at hi'
          · rename_i e; subst e
            rw [Ren.set_ρ]
            refine H.inj i j b _ hi hj ?_ hwr
            intro e; subst e; rw [hj] at hi; injection hi with hi; subst hi; cases hwr
          · have h2 := hb2 i' c hi'
            rw [(hag i' h2.1).1]
            exact H.inj i i' b c hi hi' hne hwr
      · simp only [lk] at hi
        split at hi
        · injection hi with hi; subst hi; cases hwr
        · rw [(hag i (hb2 i b hi).1).1]; exact H.zn i b hi hwr
    obtain ⟨hl, hg⟩ := wkVs_get hw
    refine (h.run w _ vs (Ren.set_ok 0 _ _ _ (by decide) hok) (by omega) (fun i v hi => ?_) H1).mono ?_
    · obtain ⟨x, h1, h2⟩ := hg i v hi
      obtain ⟨u, h3, h4⟩ := hcon i x h1
      exact ⟨u, h3, wkV_sound h2 H1 (conV.agreeOn hag (ha x (List.mem_of_getElem? h1)) h4)⟩
    · rintro e w' ⟨u, r', hq, k2, R', h1, ⟨e1, e2, e3⟩, h3, h4, h5, h6, h7, h8, h9, h10, h11, h12⟩
      subst e1; subst e2; subst e3
      have hag2 : AgreeOn (· ≠ 0) R' (R'.set 0 (R.ρ 0) (R.δ 0) (R.κ 0)) := ⟨fun i hi => by simp [Ren.set, hi], Zle.refl _⟩
      refine ⟨u, r', [], k2, R'.set 0 (R.ρ 0) (R.δ 0) (R.κ 0), h1, ⟨rfl, rfl, rfl⟩, Ren.set_ok 0 _ _ _ (by decide) h3, ⟨fun i hi => ?_, h4.zm⟩, h5, conV.agreeOn hag2 hr h6, h7, ⟨(fun i b hb => by cases hb), (fun i i' b c hi => by cases hi), h8.zw, (fun i b hb => by cases hb)⟩, h9, h10, (fun i b hb => by cases hb), h12.1.mono ?_, fun b hb => (h12.2 b hb).imp id (Or.imp ?_ id)⟩
      · by_cases h0 : i = 0
        · subst h0; simp
        · obtain ⟨a, b, c⟩ := h4 i hi
          obtain ⟨a2, b2, c2⟩ := hag i h0
          obtain ⟨a3, b3, c3⟩ := hag2 i h0
          exact ⟨by rw [a3, a, a2], by rw [b3, b, b2], by rw [c3, c, c2]⟩
      · rintro j' ⟨i, b, g1, g2, g3⟩
        simp only [lk] at g1
        split at g1
        · injection g1 with g1; subst g1; cases g2
        · exact ⟨i, b, g1, g2, by rw [← (hag i (hb2 i b g1).1).1]; exact g3⟩
      · rintro ⟨i, b, g1, g2, g3⟩
        simp only [lk] at g1
        split at g1
        · injection g1 with g1; subst g1; cases g2
        · exact ⟨i, b, g1, g2, by rw [← (hag i (hb2 i b g1).1).1]; exact g3⟩
end Go.AH

/-
  A call by a contract that says what comes back up to something unknown.
-/
namespace Go.AH
open Go

variable {P : Program} {f : FuncId} {vs : List AV} {s : AS} {kk : AV → AS → Prop}

theorem CallA.any {X : Type} {I : X → Prop} {args : List AV} {hp0 : List (Nat × ABlk)} (l : List Nat) {r : X → AV} {hp1 : X → List (Nat × ABlk)} {k1 : Nat} (r' : X → AV) (hp2 : X → List (Nat × ABlk))
    (h : FSpec P f args hp0 l.length (fun r2 hq k' => ∃ x, I x ∧ r2 = r x ∧ hq = hp1 x ∧ k' = k1)) (ha : args.map (AV.ren (qq l s.nx)) = vs)
    (hb : (oldB s.nx l && nodB l && (l.all fun i => Nat.blt i GB) && Nat.ble (s.nx + (k1 - l.length)) GB) = true)
    (hl : lies l s.nx s.hp hp0) (hr : ∀ x, (r x).ren (qq l s.nx) = r' x) (hh : ∀ x, behind l s.nx hp0 (hp1 x) (gone l s.nx hp0 s.hp) = hp2 x) (hk : ∀ x, I x → s.on fun tm hp nx nt k0 => kk (r' x) ⟨tm, hp2 x, nx + (k1 - l.length), nt, k0⟩) : CallA P f vs s kk := by
  simp only [Bool.and_eq_true] at hb
  obtain ⟨⟨⟨b1, b2⟩, b3⟩, b4⟩ := hb
  have b4 : s.nx + (k1 - l.length) ≤ GB := by simpa using b4
  have b3 : ∀ k ∈ l, k < GB := fun k hk => by simpa using List.all_eq_true.1 b3 k hk
  refine callA_intro (args := args) (hp0 := hp0) (l := l) ⟨h, oldB_sound b1, ha, lies_get hl, ?_, ?_⟩
  · intro i j b c hi hj hne _
    exact qq_inj b2 b3 (lies_get hl i b hi).1 (lies_get hl j c hj).1 hne
  · rintro r2 hp' k' ⟨x, hx, rfl, rfl, rfl⟩
    exact ⟨b4, by rw [hr, hh]; exact hk x hx⟩
end Go.AH

/-
  Short words for the steps of a walk: conditions that close themselves.
-/
namespace Go.AH
open Go

theorem Wk.and {p q : Prop} (hq : q) (hp : p := by (first | exact Nat.le_of_ble_eq_true rfl | exact ⟨rfl, Nat.le_of_ble_eq_true rfl⟩ | exact ⟨Nat.le_of_ble_eq_true rfl, rfl⟩ | exact ⟨rfl, rfl⟩ | (with_reducible assumption) | exact ⟨by with_reducible assumption, rfl⟩ | ((with_reducible refine bsCond ?_); rfl) | ((with_reducible refine nilsCond ?_); rfl) | omega | exact ⟨rfl, by omega⟩ | exact ⟨by omega, rfl⟩ | exact ⟨by omega, by omega, by omega, by omega, rfl⟩ | decide | (unfold I64; omega) | exact ⟨by omega, by omega, by unfold I64; omega⟩ | exact ⟨trivial, fun q hq => absurd hq List.not_mem_nil⟩ | (simp [AV.all, AC.all, AE.all, ABlk.all, avAll, holes, rgN, outside, ints_LA, LA_nil, LA_cons] <;> fail) | exact ⟨by omega, by show _ < (64 : Int); omega⟩)) : p ∧ q := ⟨hp, hq⟩
theorem Wk.yes {p q r s : Prop} (hq : q) (h : ¬ r := by decide) : (p → q) ∧ (r → s) := ⟨fun _ => hq, fun hr => absurd hr h⟩
theorem Wk.no {p q r s : Prop} (hs : s) (h : ¬ p := by decide) : (p → q) ∧ (r → s) := ⟨fun hp => absurd hp h, fun _ => hs⟩
structure Wkq (Q : Prop) : Prop where
  of : Q
theorem Wk.on {P Q : Prop} (q : Q) (h : Wkq Q → P := by intro h; (conv => whnf); (repeat ((first | (refine ⟨rfl, ?_⟩) | (refine ⟨trivial, ?_⟩) | (refine Wk.yes ?_) | (refine Wk.no ?_) | (refine Wk.and ?_)); (conv => whnf))); exact h.of) : P := h ⟨q⟩
end Go.AH

/-
  A row of which a law is known: opened at a function's entry.
-/
namespace Go.AH
open Go

variable {P : Program} {f : FuncId} {args : List AV} {k : Nat} {Post : AV → List (Nat × ABlk) → Nat → Prop}

def openB (i : Nat) (c : ABlk) : List (Nat × ABlk) → List (Nat × ABlk)
  | [] => []
  | (j, b) :: r => if j = i then (j, c) :: r else (j, b) :: openB i c r
theorem lk_openB (i : Nat) (c : ABlk) : ∀ (hp : List (Nat × ABlk)) (j : Nat), lk (openB i c hp) j = if j = i then (match lk hp i with | some _ => some c | none => none) else lk hp j
  | [], j => by simp [openB, lk]
  | (k, b) :: r, j => by
    simp only [openB]
    by_cases h : k = i
    · subst h
      simp only [if_true, lk]
      by_cases h2 : k = j
      · subst h2; simp
      · simp [h2, Ne.symm h2]
    · simp only [if_neg h, lk]
      by_cases h2 : k = j
      · subst h2; simp [h]
      · simp only [if_neg h2]; exact lk_openB i c r j
theorem FSpec.li {hp : List (Nat × ABlk)} (i : Nat) {I : List AC → Prop} (hi : lk hp i = some (.li I)) (hc : ∀ (vs : Array Value) (w : World), (callFunc f vs).run P w = .ok (.enter f vs) w) (h : ∀ cs, I cs → (∀ x ∈ cs, x.prim = true) → FSpec P f args (openB i (.own cs) hp) k Post) : FSpec P f args hp k Post where
  call := hc
  run := fun w R vs hok hsz hcon H => by
    obtain ⟨cs, ⟨hI, hp'⟩, hB⟩ := H.blk i _ hi
    have hB : BRel R i w (.own cs) := hB
    have H2 : HRel R (openB i (.own cs) hp) w := by
      refine ⟨fun j b hb => ?_, fun j j' b c hb hb' hne hw => ?_, H.zw, fun j b hb hw => ?_⟩
      · rw [lk_openB] at hb
        split at hb
        · rename_i e; subst e; rw [hi] at hb; injection hb with hb; exact hb ▸ hB
        · exact H.blk j b hb
      · rw [lk_openB] at hb hb'
        have hx : ∀ {j b}, (if j = i then (match lk hp i with | some _ => some (ABlk.own cs) | none => none) else lk hp j) = some b → ∃ b', lk hp j = some b' ∧ (b.wr = true → b'.wr = true) := by
          intro j b hb
          split at hb
          · rename_i e; subst e; exact ⟨_, hi, fun _ => rfl⟩
          · exact ⟨b, hb, fun h => h⟩
        obtain ⟨b1, e1, e2⟩ := hx hb
        obtain ⟨c1, e3, _⟩ := hx hb'
        exact H.inj j j' b1 c1 e1 e3 hne (e2 hw)
      · rw [lk_openB] at hb
        split at hb
        · rename_i e; subst e; exact H.zn _ _ hi rfl
        · exact H.zn j b hb hw
    refine ((h cs hI hp').run w R vs hok hsz hcon H2).mono ?_
    have up : ∀ j b, lk (openB i (.own cs) hp) j = some b → b.wr = true → ∃ b', lk hp j = some b' ∧ b'.wr = true := fun j b hb hw => by
      rw [lk_openB] at hb
      split at hb
      · rename_i e; subst e; exact ⟨_, hi, rfl⟩
      · exact ⟨b, hb, hw⟩
    rintro e w' ⟨u, r, hq, k', R', h1, h2, h3, h4, h5, h6, h7, h8, h9, h10, h11, h12⟩
    refine ⟨u, r, hq, k', R', h1, h2, h3, h4, h5, h6, h7, h8, h9, h10, fun j b hb hw => ?_, h12.1.mono ?_, fun b hb => (h12.2 b hb).imp id (Or.imp (fun ⟨i0, b0, g1, g2, g3⟩ => by obtain ⟨b', g4, g5⟩ := up i0 b0 g1 g2; exact ⟨i0, b', g4, g5, g3⟩) id)⟩
    · rcases h11 j b hb hw with ⟨i0, b0, g1, g2, g3⟩ | g
      · obtain ⟨b', g4, g5⟩ := up i0 b0 g1 g2
        exact .inl ⟨i0, b', g4, g5, g3⟩
      · exact .inr g
    · rintro j ⟨i0, b, g1, g2, g3⟩
      obtain ⟨b', g4, g5⟩ := up i0 b g1 g2
      exact ⟨i0, b', g4, g5, g3⟩
end Go.AH

/-
  A slice that is nil, where one is read: contracts that give blocks.
-/
namespace Go.AH
open Go

variable {P : Program} {f : FuncId} {args : List AV} {hp : List (Nat × ABlk)}

end Go.AH

/-
  A state that says less, of blocks under other numbers: at a loop's head.
-/
namespace Go.AH
open Go.RowKit

def wkB2 (hp : List (Nat × ABlk)) (b' b : ABlk) : Prop := b' = b ∨ wkB hp b' b ∨ (b = .ro [] ∧ b'.cells.isSome = true)
def wkTA (hp : List (Nat × ABlk)) (tm : List (Nat × AV)) (q : Nat → Nat) : List (Nat × AV) → Prop
  | [] => True
  | (t, v) :: r => (match lk tm t with | some u => u = v.ren q ∨ wkV hp u (v.ren q) | none => False) ∧ wkTA hp tm q r
def wkHA (hp : List (Nat × ABlk)) (q : Nat → Nat) : List (Nat × ABlk) → Prop
  | [] => True
  | (i, b) :: r => (match lk hp (q i) with | some b' => wkB2 hp b' (b.ren q) | none => False) ∧ wkHA hp q r
theorem wkTA_get {hp : List (Nat × ABlk)} {tm : List (Nat × AV)} {q : Nat → Nat} : ∀ {l : List (Nat × AV)} {t : Nat} {v : AV}, wkTA hp tm q l → lk l t = some v → ∃ u, lk tm t = some u ∧ (u = v.ren q ∨ wkV hp u (v.ren q))
  | (t', v') :: r, t, v, h, hv => by
    simp only [lk] at hv
    split at hv
    · rename_i e; subst e; injection hv with hv; subst hv
      have h1 := h.1
      split at h1
      · rename_i u e; exact ⟨u, e, h1⟩
      · exact h1.elim
    · exact wkTA_get h.2 hv
theorem wkHA_get {hp : List (Nat × ABlk)} {q : Nat → Nat} : ∀ {l : List (Nat × ABlk)} {i : Nat} {b : ABlk}, wkHA hp q l → lk l i = some b → ∃ b', lk hp (q i) = some b' ∧ wkB2 hp b' (b.ren q)
  | (t', v') :: r, t, v, h, hv => by
    simp only [lk] at hv
    split at hv
    · rename_i e; subst e; injection hv with hv; subst hv
      have h1 := h.1
      split at h1
      · rename_i u e; exact ⟨u, e, h1⟩
      · exact h1.elim
    · exact wkHA_get h.2 hv
theorem wkB2_sound {R : Ren} {hp : List (Nat × ABlk)} {w : World} {x y : ABlk} {id : Nat} (h : wkB2 hp x y) (H : HRel R hp w) (hc : BRel R id w x) : BRel R id w y ∧ (y.wr = true → x.wr = true) := by
  rcases h with rfl | h | ⟨rfl, h⟩
  · exact ⟨hc, fun h => h⟩
  · exact wkB_sound h H hc
  · obtain ⟨cs, hcs⟩ := Option.isSome_iff_exists.1 h
    exact ⟨Gives.rel (.inr ⟨[], cs, rfl, hcs, .inr rfl⟩) hc, fun h => by cases h⟩
structure SubW (s t : AS) (l : List (Nat × Nat)) : Prop where
  nt : t.nt = s.nt
  k0 : t.k0 = s.k0
  k : t.k0 ≤ t.nx ∧ t.nx ≤ GB
  fix : ∀ p ∈ l, s.k0 ≤ p.1 ∧ p.1 < GB
  tm : wkTA s.hp s.tm (rn l) t.tm
  hp : wkHA s.hp (rn l) t.hp
  inj : (t.hp.map fun p => rn l p.1).Nodup
  tlt : tmLt t.nx t.tm
  hlt : hpLt t.nx t.hp
variable {s t : AS}
theorem SubW.under {l : List (Nat × Nat)} (S : SubW s t l) : Under s t := fun E R a w F => ⟨R.comp (rn l), {
  ok := by
    have : ∀ i, rn l (GB + i) = GB + i := fun i => by
      unfold rn; rw [lk_none_lt fun p hp => by have := (S.fix p hp).2; omega]; rfl
    exact ⟨fun i => by simp [Ren.comp, this, F.ok.g], fun i => by simp [Ren.comp, this, F.ok.d], fun i => by simp [Ren.comp, this, F.ok.c]⟩
  nt := by rw [S.nt]; exact F.nt
  tm := fun t' v hv => by
    obtain ⟨u', h1, h2⟩ := wkTA_get S.tm hv
    obtain ⟨u, hu, hc⟩ := F.tm t' _ h1
    refine ⟨u, hu, conV_ren.1 ?_⟩
    rcases h2 with rfl | h2
    · exact hc
    · exact wkV_sound h2 F.hp hc
  hp := ⟨fun id b hb => by
      obtain ⟨b', h1, h2⟩ := wkHA_get S.hp hb
      exact BRel_ren.1 (wkB2_sound h2 F.hp (F.hp.blk _ _ h1)).1, fun i j b c hi hj hne hw => by
      obtain ⟨b', h1, h2⟩ := wkHA_get S.hp hi
      obtain ⟨c', h3, _⟩ := wkHA_get S.hp hj
      exact F.hp.inj _ _ _ _ h1 h3 (nodup_inj S.inj hi hj hne) ((wkB2_sound h2 F.hp (F.hp.blk _ _ h1)).2 (by rw [ABlk.ren_wr]; exact hw)), F.hp.zw, fun i b hb hw => by
      obtain ⟨b', h1, h2⟩ := wkHA_get S.hp hb
      exact F.hp.zn _ _ h1 ((wkB2_sound h2 F.hp (F.hp.blk _ _ h1)).2 (by rw [ABlk.ren_wr]; exact hw))⟩
  old := fun i hi => by
    have : rn l i = i := by
      unfold rn; rw [lk_none_lt fun p hp => by have := (S.fix p hp).1; have := F.kk; omega]; rfl
    simp only [Ren.comp, this]; exact F.old i hi
  wr := fun id b hb hw => by
    obtain ⟨b', h1, h2⟩ := wkHA_get S.hp hb
    exact F.wr _ _ h1 ((wkB2_sound h2 F.hp (F.hp.blk _ _ h1)).2 (by rw [ABlk.ren_wr]; exact hw))
  nx := fun id b hb => (hpLt_get S.hlt hb).1
  nk := ⟨by have := S.k.1; have := F.kk; have := S.k0; omega, S.k.2⟩
  kk := by rw [S.k0]; exact F.kk
  fr := F.fr
  zg := F.zg
  df := F.df
  wf := ⟨fun t' v hv => tmLt_get S.tlt hv, fun i b hb => hpLt_get S.hlt hb⟩ }⟩
theorem Under.wk (l : List (Nat × Nat)) (h : t.nt = s.nt ∧ t.k0 = s.k0 ∧ (t.k0 ≤ t.nx ∧ t.nx ≤ GB)) (hf : (l.all fun p => Nat.ble s.k0 p.1 && Nat.blt p.1 GB) = true) (htm : wkTA s.hp s.tm (rn l) t.tm) (hhp : wkHA s.hp (rn l) t.hp)
    (hn : nodB (t.hp.map fun p => rn l p.1) = true) (h1 : tmLt t.nx t.tm) (h2 : hpLt t.nx t.hp) : Under s t :=
  SubW.under (l := l) ⟨h.1, h.2.1, h.2.2, fun p hp => by
    have := List.all_eq_true.1 hf p hp
    simp only [Bool.and_eq_true] at this
    exact ⟨Nat.le_of_ble_eq_true this.1, Nat.le_of_ble_eq_true this.2⟩, htm, hhp, nodB_sound hn, h1, h2⟩
end Go.AH

/-
  A call in a region that draws its order that turns a block.
-/
namespace Go.AH
open Go.RowKit
variable {P : Program} {f : FuncId} {args : List AV}

def wrIn (hp0 : List (Nat × ABlk)) (i : Nat) : Bool := match lk hp0 i with | some b => b.wr | none => false
theorem wrIn_get {hp0 : List (Nat × ABlk)} {i : Nat} (h : wrIn hp0 i = true) : ∃ c0, lk hp0 i = some c0 ∧ c0.wr = true := by
  unfold wrIn at h
  split at h
  · rename_i b hb; exact ⟨b, hb, h⟩
  · cases h
theorem CallQ.turn {s : AS} {vs : List AV} {kq : AV → List (Nat × ABlk) → Nat → Prop} {hp0 : List (Nat × ABlk)} (l : List Nat) {r : AV} {hp1 : List (Nat × ABlk)} {k1 : Nat} (r' : AV) (nb : List (Nat × ABlk)) (h : FDet P f args hp0 l.length r hp1 k1) (ha : args.map (AV.ren (qq l s.nx)) = vs)
    (hb : (oldB s.nx l && nodB l && (l.all fun i => Nat.blt i GB) && nodB (hp0.map Prod.fst) && nodB (hp1.map Prod.fst) && (hp1.all fun p => p.2.wr && ((Nat.ble l.length p.1 && Nat.blt p.1 k1) || wrIn hp0 p.1)) && (hp0.all fun p => !p.2.wr || (lk hp1 p.1).isSome) && Nat.ble l.length k1 && Nat.ble k1 GB && Nat.ble (s.nx + (k1 - l.length)) GB) = true)
    (hl : lies l s.nx s.hp hp0) (hr : r.ren (qq l s.nx) = r') (hn : (hp1.map fun p => (qq l s.nx p.1, p.2.ren (qq l s.nx))) = nb) (hk : s.on fun _ _ nx _ _ => kq r' nb (nx + (k1 - l.length))) : CallQ P f vs s kq := by
  simp only [Bool.and_eq_true] at hb
  obtain ⟨⟨⟨⟨⟨⟨⟨⟨⟨b1, b2⟩, b3⟩, b4⟩, b5⟩, b6⟩, b7⟩, b8⟩, b9⟩, b10⟩ := hb
  have b8 : l.length ≤ k1 := by simpa using b8
  have b9 : k1 ≤ GB := by simpa using b9
  have b10 : s.nx + (k1 - l.length) ≤ GB := by simpa using b10
  have b3' : ∀ k ∈ l, k < GB := fun k hk => Nat.le_of_ble_eq_true (List.all_eq_true.1 b3 k hk)
  have hp : ∀ p ∈ hp1, p.2.wr = true ∧ ((l.length ≤ p.1 ∧ p.1 < k1) ∨ ∃ c0, lk hp0 p.1 = some c0 ∧ c0.wr = true) := fun p hp => by
    have := List.all_eq_true.1 b6 p hp
    simp only [Bool.and_eq_true, Bool.or_eq_true] at this
    refine ⟨this.1, this.2.imp (fun h => ⟨Nat.le_of_ble_eq_true h.1, Nat.le_of_ble_eq_true h.2⟩) wrIn_get⟩
  refine callQ_intro args hp0 l r hp1 k1 hp1 ⟨h, oldB_sound b1, ha, lies_get hl, ?_, nodB_sound b5, (fun i b hi hw => ?_), (fun i b h => ?_), ⟨b8, b9⟩, nodB_sound b4, (fun p hp' => ?_), (fun p hp' hw ho => ?_), b10⟩ ?_
  · intro i j b c hi hj hne _
    exact qq_inj b2 b3' (lies_get hl i b hi).1 (lies_get hl j c hj).1 hne
  · right
    have := List.all_eq_true.1 b7 (i, b) (mem_lk hi)
    rw [hw] at this
    exact Option.isSome_iff_exists.1 (by simpa using this)
  · obtain ⟨h1, h2⟩ := hp _ (mem_lk h)
    exact ⟨h2, h1, h⟩
  · rcases (hp p hp').2 with h | ⟨c0, h, _⟩
    · exact .inl h.2
    · rcases (lies_get hl p.1 c0 h).1 with h | h
      · left; omega
      · exact .inr h
  · rcases (hp p hp').2 with h | h
    · exfalso; omega
    · exact h
  · rw [AS.on_eq] at hk; rw [hr, hn]; exact hk
end Go.AH

/-
  Rows whose capacity is asked; what comes back as new; a call that the model itself answers.
-/
namespace Go.AH
open Go.RowKit
variable {P : Program} {f : FuncId} {args : List AV}

end Go.AH

/-
  Short words for calls, a function's beginning and its end: conditions that close themselves.
-/
namespace Go.AH
open Go.RowKit
variable {P : Program} {f : FuncId} {vs : List AV} {s : AS} {kk : AV → AS → Prop} {kq : AV → List (Nat × ABlk) → Nat → Prop}

class RenC (cs : List AC) : Prop where
  r : ∀ q, cs.map (AC.ren q) = cs
  ll : ∀ n, LL n cs
instance (xs : List Int) : RenC (ints xs) := ⟨fun q => ints_ren q xs, fun n => ints_LL n xs⟩

theorem CallA.det2 {args : List AV} {hp0 : List (Nat × ABlk)} (l : List Nat) {r : AV} {hp1 : List (Nat × ABlk)} {k1 : Nat} (r' : AV) (hp2 : List (Nat × ABlk)) (h : FDet P f args hp0 l.length r hp1 k1) (hk : s.on fun tm hp nx nt k0 => kk r' ⟨tm, hp2, nx + (k1 - l.length), nt, k0⟩)
    (ha : args.map (AV.ren (qq l s.nx)) = vs := by first | rfl | exact congrArg AV.g (RenC.r _) | (simp [RenC.r, AV.ren, ABlk.ren, AC.ren, AE.ren, qq]; done))
    (hb : (oldB s.nx l && nodB l && (l.all fun i => Nat.blt i GB) && Nat.ble (s.nx + (k1 - l.length)) GB) = true := by rfl)
    (hl : lies l s.nx s.hp hp0 := by repeat (first | exact trivial | refine ⟨⟨(by first | exact .inl (by decide) | exact .inr (by decide)), (by first | exact Or.inl rfl | rfl | exact Or.inl (congrArg some (RenC.r _).symm) | exact congrArg ABlk.own (RenC.r _).symm | exact congrArg (ABlk.row _ _) (RenC.r _).symm | exact Or.inr ⟨rfl, rfl⟩)⟩, ?_⟩))
    (hr : r.ren (qq l s.nx) = r' := by first | rfl | exact congrArg AV.g (RenC.r _) | (simp [RenC.r, AV.ren, ABlk.ren, AC.ren, AE.ren, qq]; done))
    (hh : behind l s.nx hp0 hp1 (gone l s.nx hp0 s.hp) = hp2 := by first | rfl | (simp [behind, gone, lk, up, del, qq, ABlk.wr, GB, RenC.r, AV.ren, ABlk.ren, AC.ren, AE.ren]; done) | (simp [behind, gone, lk, up, del, qq, ABlk.wr, GB, RenC.r, AV.ren, ABlk.ren, AC.ren, AE.ren]; rfl)) : CallA P f vs s kk :=
  CallA.det l r' hp2 h ha hb hl hr hh hk
theorem CallA.ro2 {args : List AV} {hp0 : List (Nat × ABlk)} (l : List Nat) {r : AV} (r' : AV) (h : FDet P f args hp0 l.length r [] l.length) (hk : kk r' s)
    (ha : args.map (AV.ren (qq l s.nx)) = vs := by first | rfl | exact congrArg AV.g (RenC.r _) | (simp [RenC.r, AV.ren, ABlk.ren, AC.ren, AE.ren, qq]; done))
    (hb : (oldB s.nx l && allRo hp0 && Nat.ble s.nx GB) = true := by rfl)
    (hl : lies l s.nx s.hp hp0 := by repeat (first | exact trivial | refine ⟨⟨(by first | exact .inl (by decide) | exact .inr (by decide)), (by first | exact Or.inl rfl | rfl | exact Or.inl (congrArg some (RenC.r _).symm) | exact congrArg ABlk.own (RenC.r _).symm | exact congrArg (ABlk.row _ _) (RenC.r _).symm | exact Or.inr ⟨rfl, rfl⟩)⟩, ?_⟩))
    (hr : r.ren (qq l s.nx) = r' := by first | rfl | exact congrArg AV.g (RenC.r _) | (simp [RenC.r, AV.ren, ABlk.ren, AC.ren, AE.ren, qq]; done)) : CallA P f vs s kk :=
  CallA.ro l r' h ha hb hl hr hk
theorem CallQ.ro2 {args : List AV} {hp0 : List (Nat × ABlk)} (l : List Nat) {r : AV} (r' : AV) (h : FDet P f args hp0 l.length r [] l.length) (hk : s.on fun _ _ nx _ _ => kq r' [] nx)
    (ha : args.map (AV.ren (qq l s.nx)) = vs := by first | rfl | exact congrArg AV.g (RenC.r _) | (simp [RenC.r, AV.ren, ABlk.ren, AC.ren, AE.ren, qq]; done))
    (hb : (oldB s.nx l && allRo hp0 && nodB (hp0.map Prod.fst) && Nat.ble s.nx GB && Nat.ble l.length GB) = true := by rfl)
    (hl : lies l s.nx s.hp hp0 := by repeat (first | exact trivial | refine ⟨⟨(by first | exact .inl (by decide) | exact .inr (by decide)), (by first | exact Or.inl rfl | rfl | exact Or.inl (congrArg some (RenC.r _).symm) | exact congrArg ABlk.own (RenC.r _).symm | exact congrArg (ABlk.row _ _) (RenC.r _).symm | exact Or.inr ⟨rfl, rfl⟩)⟩, ?_⟩))
    (hr : r.ren (qq l s.nx) = r' := by first | rfl | exact congrArg AV.g (RenC.r _) | (simp [RenC.r, AV.ren, ABlk.ren, AC.ren, AE.ren, qq]; done)) : CallQ P f vs s kq :=
  CallQ.ro l r' h ha hb hl hr hk
theorem Fin.nil2 {s : AS} {r : AV} {Post : AV → List (Nat × ABlk) → Nat → Prop} (hpost : Post r [] s.k0)
    (hr : r.lt s.k0 := by first | exact trivial | (simp [tupA, hpLt, tmLt, AV.lt, AE.lt, AC.lt, LL_cons, LL_nil, idOk, ABlk.lt, RenC.ll, GB]; done) | (simp [tupA, hpLt, tmLt, AV.lt, AE.lt, AC.lt, LL_cons, LL_nil, idOk, ABlk.lt, RenC.ll, GB, rdn, wrn]; done))
    (hk : s.k0 ≤ GB := by simp [GB]) : Fin s r Post := Fin.nil [] hpost hr trivial trivial rfl hk
end Go.AH

/-
  A row of which less is said; a row that is not nil.
-/
namespace Go.AH
open Go.RowKit
variable {P : Program} {f : FuncId} {args : List AV}

end Go.AH

/-
  Frozen slices: one is read as a block again; a row that is finished is frozen.
-/
namespace Go.AH
open Go.RowKit
variable {s : AS}

theorem KR.frozen {Z : Nat → Option (Array Value)} {t : RT} {v : Value} (h : KR Z t v) (h0 : 0 < t.len) {b o n cp : Nat} (hv : v = .slice (some ⟨b, o, none⟩) n cp) : Z b ≠ none := by
  cases t with
  | leaf z m xs =>
    rw [KR] at h
    simp only [RT.len] at h0
    rcases h.2 with ⟨b', o', cp', c, e, _, h2, _⟩ | ⟨h1, _⟩
    · rw [e] at hv; injection hv with hv; injection hv with hv; injection hv with hv; subst hv; rw [h2]; simp
    · omega
  | node ks =>
    rw [KR] at h
    simp only [RT.len] at h0
    rcases h with ⟨b', o', cp', c, e, _, h2, _⟩ | ⟨h1, _⟩
    · rw [e] at hv; injection hv with hv; injection hv with hv; injection hv with hv; subst hv; rw [h2]; simp
    · omega

theorem Under.thaw {t0 : Nat} {T0 : RT} (h : lk s.tm t0 = some (.c (.tv T0))) (h0 : 0 < T0.len) (hG : s.nx < GB) : Under s ⟨up s.tm t0 (.c (.rs s.nx 0 T0.len)), (s.nx, .ro T0.cs) :: s.hp, s.nx + 1, s.nt, s.k0⟩ := fun E R a w F => by
  obtain ⟨u, hu, hc⟩ := F.tm _ _ h
  have hc : KR R.z T0 u := hc
  obtain ⟨b, o, cp, hv, hle, hB⟩ := hc.blk F.hp.zw h0
  have hz := hc.frozen h0 hv
  have hag := Ren.set_agree R s.nx b o 0 hG
  have F1 := F.ren (m := s.nx + 1) hag (Ren.set_ok _ _ _ _ hG F.ok) (Nat.le_succ _) hG
  have hold : ∀ i c, lk s.hp i = some c → (R.set s.nx b o 0).ρ i = R.ρ i := fun i c hi => (hag i (F.wf.hp i c hi).1).1
  refine ⟨R.set s.nx b o 0, {
    ok := F1.ok
    nt := F1.nt
    tm := fun t v hv' => ?_
    hp := ⟨fun i c hi => ?_, fun i j c d hi hj hne hw => ?_, F1.hp.zw, fun i c hi hw => ?_⟩
    old := F1.old
    wr := fun i c hi hw => ?_
    nx := fun i c hi => ?_
    nk := F1.nk
    kk := F1.kk
    fr := F1.fr
    zg := F1.zg
    df := F1.df
    wf := ⟨fun t v hv' => ?_, fun i c hi => ?_⟩ }⟩
  · simp only [lk_up] at hv'
    split at hv'
    · rename_i e; subst e; injection hv' with hv'; subst hv'
      refine ⟨u, hu, .inl ⟨⟨b, o, none⟩, cp, hv, fun _ => ?_, hle⟩⟩
      simp [Ren.adr]
    · exact F1.tm t v hv'
  · simp only [lk] at hi
    split at hi
    · rename_i e; subst e; injection hi with hi; subst hi
      exact hB _ _ (by simp) (by simp) rfl
    · exact F1.hp.blk i c hi
  · simp only [lk] at hi hj
    split at hi
    · injection hi with hi; subst hi; cases hw
    · split at hj
      · rename_i e; subst e
        intro e2
        rw [hold i c hi, Ren.set_ρ] at e2
        exact hz (e2 ▸ F.hp.zn i c hi hw)
      · exact F1.hp.inj i j c d hi hj hne hw
  · simp only [lk] at hi
    split at hi
    · injection hi with hi; subst hi; cases hw
    · exact F1.hp.zn i c hi hw
  · simp only [lk] at hi
    split at hi
    · injection hi with hi; subst hi; cases hw
    · exact F1.wr i c hi hw
  · simp only [lk] at hi
    split at hi
    · rename_i e; subst e; exact .inl (Nat.lt_succ_self _)
    · exact F1.nx i c hi
  · simp only [lk_up] at hv'
    split at hv'
    · injection hv' with hv'; subst hv'; exact .inl (Nat.lt_succ_self _)
    · exact F1.wf.tm t v hv'
  · simp only [lk] at hi
    split at hi
    · rename_i e; subst e; injection hi with hi; subst hi
      exact ⟨.inl (Nat.lt_succ_self _), RT.cs_lt⟩
    · exact F1.wf.hp i c hi

end Go.AH

/-
  Rows in a block are frozen when they come back; a frozen slice is handed over as a block.
-/
namespace Go.AH
open Go.RowKit
variable {P : Program} {f : FuncId} {args : List AV} {hp : List (Nat × ABlk)} {k : Nat} {Post : AV → List (Nat × ABlk) → Nat → Prop}

def Ren.withZ (R : Ren) (Z : Nat → Option (Array Value)) : Ren := ⟨R.ρ, R.δ, R.κ, Z⟩
theorem Ren.withZ_agree (R : Ren) {Z : Nat → Option (Array Value)} (h : Zle R.z Z) (n : Nat) : Agree n R (R.withZ Z) := ⟨fun _ _ => ⟨rfl, rfl, rfl⟩, h⟩
theorem FSpec.frz (h : FSpec P f args hp k Post) {Post' : AV → List (Nat × ABlk) → Nat → Prop}
    (hc : ∀ (R : Ren) (w : World) (u : Value) (r : AV) (hp' : List (Nat × ABlk)) (k' : Nat), Post r hp' k' → HRel R hp' w → conV R r u → r.lt k' → (hp'.map Prod.fst).Nodup → (∀ i b, lk hp' i = some b → (i < k' ∨ GB ≤ i) ∧ b.lt k') →
      ∃ (Z : Nat → Option (Array Value)) (r2 : AV) (hp2 : List (Nat × ABlk)), Zle R.z Z ∧ (∀ b, Z b ≠ none → R.z b ≠ none ∨ ∃ i blk, lk hp' i = some blk ∧ blk.wr = true ∧ R.ρ i = b) ∧ Post' r2 hp2 k' ∧ conV (R.withZ Z) r2 u ∧ r2.lt k' ∧ HRel (R.withZ Z) hp2 w ∧ (hp2.map Prod.fst).Nodup ∧
        (∀ i b, lk hp2 i = some b → (i < k' ∨ GB ≤ i) ∧ b.lt k') ∧ ∀ i b, lk hp2 i = some b → b.wr = true → ∃ b', lk hp' i = some b' ∧ b'.wr = true) : FSpec P f args hp k Post' where
  call := h.call
  run := fun w R vs hok hsz hcon H => by
    refine (h.run w R vs hok hsz hcon H).mono ?_
    rintro e w' ⟨u, r, hq, k', R', h1, h2, h3, h4, h5, h6, h7, h8, h9, h10, h11, h12, h13⟩
    obtain ⟨Z, r2, hp2, g1, g2, g3, g4, g5, g6, g7, g8, g9⟩ := hc R' w' u r hq k' h2 h8 h6 h7 h9 h10
    refine ⟨u, r2, hp2, k', R'.withZ Z, h1, g3, ⟨h3.g, h3.d, h3.c⟩, h4.trans (R'.withZ_agree g1 k) (Nat.le_refl _), h5, g4, g5, g6, g7, g8, fun i b hb hw => ?_, h12, fun b hb => ?_⟩
    · obtain ⟨b', e1, e2⟩ := g9 i b hb hw
      exact h11 i b' e1 e2
    · rcases g2 b hb with h | ⟨i, blk, e1, e2, e3⟩
      · exact h13 b h
      · subst e3
        rcases h11 i blk e1 e2 with ⟨i0, b0, q1, q2, q3⟩ | q
        · exact .inr (.inl ⟨i0, b0, q1, q2, q3⟩)
        · exact .inr (.inr q)
theorem HRel.freezeZ {R : Ren} {w : World} (H : HRel R hp w) (F : List Nat) (hF : ∀ i ∈ F, ∃ blk cs, lk hp i = some blk ∧ blk.wr = true ∧ blk.cells = some cs) :
    ∃ Z, Zle R.z Z ∧ Zok Z w ∧ (∀ b, Z b ≠ none → R.z b ≠ none ∨ ∃ i ∈ F, R.ρ i = b) ∧ (∀ i ∈ F, ∃ c t v, w.heap[R.ρ i]? = some (.cells c t v) ∧ Z (R.ρ i) = some c) ∧ ∀ i b, lk hp i = some b → b.wr = true → i ∉ F → Z (R.ρ i) = none := by
  let Z : Nat → Option (Array Value) := fun b => if b ∈ F.map R.ρ then (match w.heap[b]? with | some (.cells c _ _) => some c | _ => none) else R.z b
  have hin : ∀ i ∈ F, ∃ c t v, w.heap[R.ρ i]? = some (.cells c t v) := fun i hi => by
    obtain ⟨blk, cs, h1, _, h2⟩ := hF i hi
    obtain ⟨c, t, v, h3, _⟩ := (H.blk i blk h1).cell h2
    exact ⟨c, t, v, h3⟩
  have hZin : ∀ i ∈ F, ∃ c t v, w.heap[R.ρ i]? = some (.cells c t v) ∧ Z (R.ρ i) = some c := fun i hi => by
    obtain ⟨c, t, v, h⟩ := hin i hi
    refine ⟨c, t, v, h, ?_⟩
    show (if R.ρ i ∈ F.map R.ρ then _ else _) = some c
    rw [if_pos (List.mem_map.2 ⟨i, hi, rfl⟩), h]
  have hz0 : ∀ i ∈ F, R.z (R.ρ i) = none := fun i hi => by
    obtain ⟨blk, cs, h1, h2, _⟩ := hF i hi
    exact H.zn i blk h1 h2
  refine ⟨Z, fun b c hb => ?_, fun b c hb => ?_, fun b hb => ?_, hZin, fun i b hb hw hn => ?_⟩
  · show (if b ∈ F.map R.ρ then _ else R.z b) = some c
    rw [if_neg]
    · exact hb
    · intro hm
      obtain ⟨i, hi, rfl⟩ := List.mem_map.1 hm
      rw [hz0 i hi] at hb; cases hb
  · have hb2 : (if b ∈ F.map R.ρ then (match w.heap[b]? with | some (.cells c _ _) => some c | _ => none) else R.z b) = some c := hb
    split at hb2
    · rename_i hm
      obtain ⟨i, hi, rfl⟩ := List.mem_map.1 hm
      obtain ⟨c', t, v, h⟩ := hin i hi
      rw [h] at hb2
      injection hb2 with hb2; subst hb2
      exact ⟨t, v, h⟩
    · exact H.zw b c hb2
  · have hb2 : (if b ∈ F.map R.ρ then (match w.heap[b]? with | some (.cells c _ _) => some c | _ => none) else R.z b) ≠ none := hb
    split at hb2
    · rename_i hm
      obtain ⟨i, hi, rfl⟩ := List.mem_map.1 hm
      exact .inr ⟨i, hi, rfl⟩
    · exact .inl hb2
  · show (if R.ρ i ∈ F.map R.ρ then _ else R.z (R.ρ i)) = none
    rw [if_neg]
    · exact H.zn i b hb hw
    · intro hm
      obtain ⟨j, hj, e⟩ := List.mem_map.1 hm
      obtain ⟨blk, cs, h1, h2, _⟩ := hF j hj
      exact H.inj j i blk b h1 hb (fun e2 => hn (e2 ▸ hj)) h2 e
theorem KR.ofRow {R : Ren} {w : World} {n e : Nat} {xs : List Int} {u : Value} {c : Array Value} {t : TypeId} {v : Nat × Nat} {Z : Nat → Option (Array Value)} (hc : conC R (.row n xs.length) u) (hB : BRel R n w (.row e 1 (ints xs))) (hh : w.heap[R.ρ n]? = some (.cells c t v)) (hz : Z (R.ρ n) = some c) : KR Z (.leaf 1 xs.length xs) u := by
  obtain ⟨hv, hle⟩ := (show u = .slice (some ⟨R.ρ n, 0, none⟩) xs.length (R.κ n) ∧ xs.length ≤ R.κ n from hc)
  obtain ⟨c', g1, _, _, _, _, g6⟩ := hB
  rw [hh] at g1
  injection g1 with g1
  injection g1 with g1 _ _
  subst g1
  rw [KR]
  refine ⟨by omega, .inl ⟨_, 0, _, c, hv, hle, hz, fun i x hi => ?_⟩⟩
  obtain ⟨v2, h1, h2⟩ := g6 i (.int .i64 x) (by simp [ints, hi])
  rw [h1]; exact congrArg some h2
theorem HRel.freezeRows {R : Ren} {w : World} (H : HRel R hp w) {o n : Nat} (rows : List (Nat × List Int)) (rest : List (Nat × ABlk)) (ho : lk hp o = some (.own (rows.map fun p => AC.row p.1 p.2.length))) (hr : ∀ p ∈ rows, ∃ e, lk hp p.1 = some (.row e 1 (ints p.2)))
    (hrest : ∀ i b, lk rest i = some b → lk hp i = some b ∧ i ∉ rows.map Prod.fst) (hlt : ∀ i b, lk hp i = some b → (i < n ∨ GB ≤ i) ∧ b.lt n) (hoR : o ∉ rows.map Prod.fst) :
    ∃ Z, Zle R.z Z ∧ (∀ b, Z b ≠ none → R.z b ≠ none ∨ ∃ i blk, lk hp i = some blk ∧ blk.wr = true ∧ R.ρ i = b) ∧ HRel (R.withZ Z) ((o, .own (rows.map fun p => AC.tv (.leaf 1 p.2.length p.2))) :: rest) w := by
  have hF : ∀ i ∈ rows.map Prod.fst, ∃ blk cs, lk hp i = some blk ∧ blk.wr = true ∧ blk.cells = some cs := fun i hi => by
    obtain ⟨p, hp', rfl⟩ := List.mem_map.1 hi
    obtain ⟨e, he⟩ := hr p hp'
    exact ⟨_, _, he, rfl, rfl⟩
  obtain ⟨Z, z1, z2, z3, z4, z5⟩ := H.freezeZ (rows.map Prod.fst) hF
  have hag := R.withZ_agree z1 n
  have old : ∀ i b, lk ((o, ABlk.own (rows.map fun p => AC.tv (.leaf 1 p.2.length p.2))) :: rest) i = some b → b.wr = true → ∃ b', lk hp i = some b' ∧ b'.wr = true ∧ i ∉ rows.map Prod.fst := fun i b hb hw => by
    simp only [lk] at hb
    split at hb
    · rename_i e; subst e
      exact ⟨_, ho, rfl, hoR⟩
    · exact ⟨b, (hrest i b hb).1, hw, (hrest i b hb).2⟩
  refine ⟨Z, z1, fun b hb => (z3 b hb).imp id (by rintro ⟨i, hi, e⟩; obtain ⟨blk, _, h1, h2, _⟩ := hF i hi; exact ⟨i, blk, h1, h2, e⟩), ⟨fun i b hb => ?_, fun i j b c hi hj hne hw => ?_, z2, fun i b hb hw => ?_⟩⟩
  · simp only [lk] at hb
    split at hb
    · rename_i e; subst e
      injection hb with hb; subst hb
      obtain ⟨c, t, g1, g2, g3, g4⟩ := H.blk o _ ho
      refine ⟨c, t, g1, g2, by rw [List.length_map]; rw [List.length_map] at g3; exact g3, fun j x hj => ?_⟩
      rw [List.getElem?_map] at hj
      cases hq : rows[j]? with
      | none => rw [hq] at hj; cases hj
      | some p =>
        rw [hq] at hj
        injection hj with hj; subst hj
        obtain ⟨u, h1, h2⟩ := g4 j (.row p.1 p.2.length) (by rw [List.getElem?_map, hq]; rfl)
        have hm : p ∈ rows := List.mem_of_getElem? hq
        obtain ⟨e, he⟩ := hr p hm
        obtain ⟨c', t', v', k1, k2⟩ := z4 p.1 (List.mem_map.2 ⟨p, hm, rfl⟩)
        exact ⟨u, h1, KR.ofRow h2 (H.blk p.1 _ he) k1 k2⟩
    · obtain ⟨h1, _⟩ := hrest i b hb
      obtain ⟨h2, h3⟩ := hlt i b h1
      exact BRel.agree hag h2 h3 (H.blk i b h1)
  · have key : ∀ i b, lk ((o, ABlk.own (rows.map fun p => AC.tv (.leaf 1 p.2.length p.2))) :: rest) i = some b → ∃ b', lk hp i = some b' ∧ (b.wr = true → b'.wr = true) := fun i b hb => by
      simp only [lk] at hb
      split at hb
      · rename_i e; subst e
        exact ⟨_, ho, fun _ => rfl⟩
      · exact ⟨b, (hrest i b hb).1, id⟩
    obtain ⟨b', h1, h2⟩ := key i b hi
    obtain ⟨c', h3, _⟩ := key j c hj
    exact H.inj i j b' c' h1 h3 hne (h2 hw)
  · obtain ⟨b', h1, h2, h3⟩ := old i b hb hw
    exact z5 i b' h1 h2 h3
theorem FDet.thaw {r : AV} {T0 : RT} (i0 : Nat) (h0 : 0 < T0.len) (hk : k < GB) (hi : args[i0]? = some (.c (.tv T0))) (hal : ∀ v ∈ args, v.lt k) (hhl : hpLt k hp) (hr : r.lt 0)
    (h : FDet P f (args.set i0 (.c (.rs k 0 T0.len))) ((k, .ro T0.cs) :: hp) (k + 1) r [] (k + 1)) : FDet P f args hp k r [] k where
  call := h.call
  run := fun w R vs hok hsz hcon H => by
    obtain ⟨u0, hu0, hc0⟩ := hcon i0 _ hi
    have hc0 : KR R.z T0 u0 := hc0
    obtain ⟨b, o, cp, hv, hle, hB⟩ := hc0.blk H.zw h0
    have hz := hc0.frozen h0 hv
    have hag := Ren.set_agree R k b o 0 hk
    have hne : ∀ i c, lk hp i = some c → i ≠ k := fun i c hc e => by
      have := (hpLt_get hhl hc).1
      unfold idOk at this; omega
    have hold : ∀ i c, lk hp i = some c → (R.set k b o 0).ρ i = R.ρ i := fun i c hc => (hag.1 i (hpLt_get hhl hc).1).1
    have H2 : HRel (R.set k b o 0) ((k, .ro T0.cs) :: hp) w := by
      refine ⟨fun i c hc => ?_, fun i j c d hc hd hij hw => ?_, H.zw, fun i c hc hw => ?_⟩
      · simp only [lk] at hc
        split at hc
        · rename_i e; subst e; injection hc with hc; subst hc
          exact hB _ _ (Ren.set_ρ ..) (Ren.set_δ ..) rfl
        · exact BRel.agree hag (hpLt_get hhl hc).1 (hpLt_get hhl hc).2 (H.blk i c hc)
      · simp only [lk] at hc hd
        split at hc
        · injection hc with hc; subst hc; cases hw
        · split at hd
          · rename_i e; subst e
            intro e2
            rw [hold i c hc, Ren.set_ρ] at e2
            exact hz (e2 ▸ H.zn i c hc hw)
          · rw [hold i c hc, hold j d hd]
            exact H.inj i j c d hc hd hij hw
      · simp only [lk] at hc
        split at hc
        · injection hc with hc; subst hc; cases hw
        · rw [hold i c hc]; exact H.zn i c hc hw
    refine (h.run w (R.set k b o 0) vs (Ren.set_ok _ _ _ _ hk hok) (by rw [hsz, List.length_set]) (fun i v hv' => ?_) H2).mono ?_
    · rw [List.getElem?_set] at hv'
      split at hv'
      · rename_i e; subst e
        split at hv'
        · injection hv' with hv'; subst hv'
          refine ⟨u0, hu0, .inl ⟨⟨b, o, none⟩, cp, hv, fun _ => ?_, hle⟩⟩
          simp [Ren.adr]
        · cases hv'
      · obtain ⟨u, hu, hcu⟩ := hcon i v hv'
        exact ⟨u, hu, conV.agree hag (hal v (List.mem_of_getElem? hv')) hcu⟩
    · have wrs : ∀ j, (∃ i c, lk ((k, ABlk.ro T0.cs) :: hp) i = some c ∧ c.wr = true ∧ (R.set k b o 0).ρ i = j) → ∃ i c, lk hp i = some c ∧ c.wr = true ∧ R.ρ i = j := by
        rintro j ⟨i, c, e1, e2, e3⟩
        simp only [lk] at e1
        split at e1
        · injection e1 with e1; subst e1; cases e2
        · exact ⟨i, c, e1, e2, (hold i c e1) ▸ e3⟩
      rintro e w' ⟨u, r', hp', k', R', h1, ⟨rfl, rfl, rfl⟩, h3, h4, h5, h6, h7, h8, h9, h10, h11, h12, h13⟩
      refine ⟨u, _, _, _, R', h1, ⟨rfl, rfl, rfl⟩, h3, hag.trans h4 (Nat.le_succ _), Nat.le_refl _, h6, hr.mono (Nat.zero_le _), h8, h9, fun i c hc => by simp [lk] at hc, fun i c hc => by simp [lk] at hc, h12.mono wrs, fun b' hb' => ?_⟩
      rcases h13 b' hb' with q | q | q
      · exact .inl q
      · exact .inr (.inl (wrs b' q))
      · exact .inr (.inr q)
end Go.AH

/-
  A row's capacity, opened before a region.
-/
namespace Go.AH
open Go.RowKit
variable {P : Program} {s : AS}
theorem Tr.cap (j q z : Nat) {id n : Nat} {cs : List AC} {C : Code} {Q : Exit → AS → Prop} (hj : lk s.hp j = some (.own cs)) (hq : cs[q]? = some (.row id n))
    (h : ∀ c, n ≤ c → Tr P C ⟨s.tm, up s.hp j (.own (cs.set q (.rp id 0 n c z))), s.nx, s.nt, s.k0⟩ Q) : Tr P C s Q := Tr.intro fun E R a w n' r F ht => by
  have hB := F.hp.blk j _ hj
  obtain ⟨cv, t, h1, h2, h3, h4⟩ := hB
  obtain ⟨v, hv1, hv2⟩ := h4 q _ hq
  obtain ⟨hv3, hle⟩ := (show v = .slice (some ⟨R.ρ id, 0, none⟩) n (R.κ id) ∧ n ≤ R.κ id from hv2)
  have get : ∀ i b, lk (up s.hp j (.own (cs.set q (.rp id 0 n (R.κ id) z)))) i = some b → (i = j ∧ b = .own (cs.set q (.rp id 0 n (R.κ id) z))) ∨ lk s.hp i = some b := fun i b hb => by
    rw [lk_up] at hb
    split at hb
    · rename_i e; injection hb with hb; exact .inl ⟨e.symm, hb.symm⟩
    · exact .inr hb
  have old : ∀ i b, lk (up s.hp j (.own (cs.set q (.rp id 0 n (R.κ id) z)))) i = some b → ∃ b', lk s.hp i = some b' ∧ (b.wr = true → b'.wr = true) := fun i b hb => by
    rcases get i b hb with ⟨rfl, rfl⟩ | h
    · exact ⟨_, hj, fun _ => rfl⟩
    · exact ⟨b, h, _root_.id⟩
  have F' : Fit E R ⟨s.tm, up s.hp j (.own (cs.set q (.rp id 0 n (R.κ id) z))), s.nx, s.nt, s.k0⟩ a w := {
    ok := F.ok, nt := F.nt, tm := F.tm
    hp := ⟨fun i b hb => by
        rcases get i b hb with ⟨rfl, rfl⟩ | h
        · refine ⟨cv, t, h1, h2, by rw [List.length_set]; exact h3, fun i x hi => ?_⟩
          rw [List.getElem?_set] at hi
          split at hi
          · rename_i e; subst e
            split at hi
            · injection hi with hi; subst hi
              exact ⟨v, hv1, by rw [Nat.zero_mul]; exact hv3, by rw [Nat.zero_add], hle⟩
            · cases hi
          · exact h4 i x hi
        · exact F.hp.blk i b h,
      fun i k b c hi hk hne hw => by
        obtain ⟨b', g1, g2⟩ := old i b hi
        obtain ⟨c', g3, _⟩ := old k c hk
        exact F.hp.inj i k b' c' g1 g3 hne (g2 hw),
      F.hp.zw, fun i b hb hw => by
        obtain ⟨b', g1, g2⟩ := old i b hb
        exact F.hp.zn i b' g1 (g2 hw)⟩
    old := F.old
    wr := fun i b hb hw => by
      obtain ⟨b', g1, g2⟩ := old i b hb
      exact F.wr i b' g1 (g2 hw)
    nx := fun i b hb => by
      obtain ⟨b', g1, _⟩ := old i b hb
      exact F.nx i b' g1
    nk := F.nk, kk := F.kk, fr := F.fr, zg := F.zg, df := F.df
    wf := ⟨F.wf.tm, fun i b hb => by
      rcases get i b hb with ⟨rfl, rfl⟩ | h
      · obtain ⟨g1, g2⟩ := F.wf.hp i _ hj
        refine ⟨g1, fun x hx => ?_⟩
        rcases List.mem_or_eq_of_mem_set hx with hx | rfl
        · exact g2 x hx
        · exact g2 (.row id n) (List.mem_of_getElem? hq)
      · exact F.wf.hp i b h⟩ }
  exact (h (R.κ id) hle).elim F' ht
end Go.AH

/-
  What is known, told anew in the middle of a walk; rows that come back are frozen.
-/
namespace Go.AH
open Go.RowKit
variable {P : Program} {T : Nat → Option TI} {md : Bool} {f : FuncId} {args : List AV} {hp : List (Nat × ABlk)} {k : Nat} {s t : AS}
theorem Tr.tell {c : Code} {Q : Exit → AS → Prop} (hU : Under s t) (h : Tr P c t Q) : Tr P c s Q := Tr.intro fun E R a w n r F ht => by
  obtain ⟨R', F'⟩ := hU E R a w F
  exact h.elim F' ht
theorem Tr.post {c : Code} {Q : Exit → AS → Prop} (h : Tr P c s fun e s' => ∃ t, Under s' t ∧ Q e t) : Tr P c s Q := Tr.intro fun E R a w n r F ht => by
  refine wpIn_mono (h.elim F ht) ?_
  rintro e a' w' ⟨R', s', ⟨t, hu, hq⟩, F'⟩
  obtain ⟨R2, F2⟩ := hu E R' a' w' F'
  exact ⟨R2, t, hq, F2⟩
theorem Under.refl (s : AS) : Under s s := fun _ R _ _ F => ⟨R, F⟩
theorem Under.trans {u : AS} (h : Under s t) (g : Under t u) : Under s u := fun E R a w F => by
  obtain ⟨R1, F1⟩ := h E R a w F
  exact g E R1 a w F1
theorem Tr.of (hT : TOk P T) {c : Code} {Q : Exit → AS → Prop} (h : wpC P T md c s Q) : Tr P c s Q := wpC_sound hT c s Q h
theorem FDet.low {r : AV} {k1 : Nat} (h : FDet P f args hp k r [] k1) (hr : r.lt 0 := by trivial) : FDet P f args hp k r [] k where
  call := h.call
  run := fun w R vs hok hsz hcon H => by
    refine (h.run w R vs hok hsz hcon H).mono ?_
    rintro e w' ⟨u, r', hp', k', R', h1, ⟨rfl, rfl, rfl⟩, h3, h4, h5, h6, h7, h8, h9, h10, h11, h12, h13⟩
    exact ⟨u, _, _, k, R', h1, ⟨rfl, rfl, rfl⟩, h3, h4, Nat.le_refl _, h6, hr.mono (Nat.zero_le _), h8, h9, fun i b hb => by simp [lk] at hb, h11, h12, h13⟩
theorem KR.of_row {R : Ren} {w : World} {n e z len : Nat} {cs : List AC} {u : Value} {c : Array Value} {ty : TypeId} {v : Nat × Nat} {Z : Nat → Option (Array Value)} (T0 : RT) (hcs : T0.cs = cs) (hl : T0.len = len) (hz : cs.length = len * T0.z) (hzl : Zle R.z Z)
    (hc : conC R (.row n len) u) (hB : BRel R n w (.row e z cs)) (hh : w.heap[R.ρ n]? = some (.cells c ty v)) (hzc : Z (R.ρ n) = some c) : KR Z T0 u := by
  obtain ⟨hv, hle⟩ := (show u = .slice (some ⟨R.ρ n, 0, none⟩) len (R.κ n) ∧ len ≤ R.κ n from hc)
  obtain ⟨c', g1, _, _, _, _, g6⟩ := hB
  rw [hh] at g1
  injection g1 with g1
  injection g1 with g1 _ _
  subst g1
  subst hcs
  cases T0 with
  | leaf z0 m xs =>
    simp only [RT.len] at hl; subst hl
    rw [KR]
    refine ⟨by simpa [RT.cs, RT.z] using hz, .inl ⟨_, 0, _, c, hv, hle, hzc, fun i x hi => ?_⟩⟩
    obtain ⟨v, h1, h2⟩ := g6 i (.int .i64 x) (by simp [RT.cs, hi])
    rw [h1]; exact congrArg some h2
  | node ks =>
    simp only [RT.len] at hl; subst hl
    rw [KR]
    refine .inl ⟨_, 0, _, c, hv, hle, hzc, KRs_of fun i k hi => ?_⟩
    obtain ⟨v, h1, h2⟩ := g6 i (.tv k) (by simp [RT.cs, hi])
    exact ⟨v, h1, KR.mono hzl _ _ h2⟩
theorem FDet.frz1 {j n e z k1 : Nat} {cs : List AC} (T0 : RT) (h : FDet P f args hp k (.c (.row j n)) [(j, .row e z cs)] k1) (hcs : T0.cs = cs) (hl : T0.len = n) (hz : cs.length = n * T0.z) : FDet P f args hp k (.c (.tv T0)) [] k := by
  refine FDet.low (k1 := k1) (FSpec.frz h ?_) trivial
  rintro R w u r hp' k' ⟨rfl, rfl, rfl⟩ H hcv hrl hnd hlt'
  have hj : lk [(j, ABlk.row e z cs)] j = some (.row e z cs) := by simp [lk]
  obtain ⟨Z, z1, z2, z3, z4, _⟩ := H.freezeZ [j] (fun i hi => by simp only [List.mem_singleton] at hi; subst hi; exact ⟨_, _, hj, rfl, rfl⟩)
  obtain ⟨c, ty, v, g1, g2⟩ := z4 j (by simp)
  refine ⟨Z, _, [], z1, fun b hb => (z3 b hb).imp id fun ⟨i, hi, e2⟩ => by simp only [List.mem_singleton] at hi; subst hi; exact ⟨i, _, hj, rfl, e2⟩, ⟨rfl, rfl, rfl⟩, ?_, trivial, ⟨fun i b hb => by simp [lk] at hb, fun i j b c hi => by simp [lk] at hi, z2, fun i b hb => by simp [lk] at hb⟩, List.nodup_nil, fun i b hb => by simp [lk] at hb, fun i b hb => by simp [lk] at hb⟩
  exact KR.of_row T0 hcs hl hz z1 hcv (H.blk j _ hj) g1 g2
theorem FDet.frzN {k1 : Nat} (z : Nat) (h : FDet P f args hp k (.c .nils) [] k1) : FDet P f args hp k (.c (.tv (.leaf z 0 []))) [] k := by
  refine FDet.low (k1 := k1) (FSpec.frz h ?_) trivial
  rintro R w u r hp' k' ⟨rfl, rfl, rfl⟩ H hcv hrl hnd hlt'
  refine ⟨R.z, _, [], Zle.refl _, fun b hb => .inl hb, ⟨rfl, rfl, rfl⟩, ?_, trivial, H, List.nodup_nil, fun i b hb => by simp [lk] at hb, fun i b hb => by simp [lk] at hb⟩
  have hu : u = .slice none 0 0 := hcv
  subst hu
  show KR _ _ _
  rw [KR]
  exact ⟨by simp, .inr ⟨rfl, .inl rfl⟩⟩
end Go.AH

/-
  Frozen slices that a block holds are read as blocks; rows that a row holds are frozen.
-/
namespace Go.AH
open Go.RowKit
variable {P : Program} {f : FuncId} {args : List AV} {hp : List (Nat × ABlk)} {k : Nat} {s : AS}
theorem FDet.rs0 {r : AV} {hp1 : List (Nat × ABlk)} {k1 z : Nat} {xs : List Int} (i0 j : Nat) (hi : args[i0]? = some (.c (.tv (.leaf z 0 xs)))) (h : FDet P f (args.set i0 (.c (.rs j 0 0))) hp k r hp1 k1) : FDet P f args hp k r hp1 k1 where
  call := h.call
  run := fun w R vs hok hsz hcon H => by
    refine h.run w R vs hok (by rw [hsz, List.length_set]) (fun i v hv => ?_) H
    rw [List.getElem?_set] at hv
    split at hv
    · rename_i e; subst e
      split at hv
      · injection hv with hv; subst hv
        obtain ⟨u, hu, hc⟩ := hcon _ _ hi
        have hc : KR R.z (.leaf z 0 xs) u := hc
        refine ⟨u, hu, ?_⟩
        rcases hc.zero rfl with rfl | ⟨a, cp, rfl⟩
        · exact .inr ⟨rfl, rfl⟩
        · exact .inl ⟨a, cp, rfl, fun h => absurd h (Nat.lt_irrefl 0), Nat.zero_le _⟩
      · cases hv
    · exact hcon i v hv
theorem Under.empty {j0 : Nat} {c0 : List AC} (hj : lk s.hp j0 = some (.ro c0)) (hG : s.nx < GB) : Under s ⟨s.tm, (s.nx, .ro []) :: s.hp, s.nx + 1, s.nt, s.k0⟩ := fun E R a w F => by
  obtain ⟨c, t, z, h1, _⟩ := (show BRel R j0 w (.ro c0) from F.hp.blk j0 _ hj)
  have hag := Ren.set_agree R s.nx (R.ρ j0) (R.δ j0) 0 hG
  have F1 := F.ren (m := s.nx + 1) hag (Ren.set_ok _ _ _ _ hG F.ok) (Nat.le_succ _) hG
  have hold : ∀ i c, lk s.hp i = some c → (R.set s.nx (R.ρ j0) (R.δ j0) 0).ρ i = R.ρ i := fun i c hi => (hag i (F.wf.hp i c hi).1).1
  refine ⟨_, F1.add (id := s.nx) (b := .ro []) ?_ ⟨c, t, z, by rw [Ren.set_ρ]; exact h1, fun i x hx => by simp at hx⟩ (fun h => by cases h) (fun j d hd hw => ?_) (.inl (Nat.lt_succ_self _)) (fun x hx => absurd hx List.not_mem_nil) (fun h => by cases h)⟩
  · cases hq : lk s.hp s.nx with
    | none => rfl
    | some b => have := (F.wf.hp _ b hq).1; unfold idOk at this; omega
  · rw [Ren.set_ρ, hold j d hd]
    rcases hw with hw | hw
    · cases hw
    · exact (F.hp.inj j j0 d _ hd hj (fun e => by subst e; rw [hj] at hd; injection hd with hd; subst hd; cases hw) hw).symm
theorem Under.thawIn {o q j0 : Nat} {cs c0 : List AC} {T0 : RT} (ho : lk s.hp o = some (.own cs)) (hq : cs[q]? = some (.tv T0)) (hj : lk s.hp j0 = some (.ro c0)) (hG : s.nx < GB) :
    Under s ⟨s.tm, (s.nx, .ro T0.cs) :: up s.hp o (.own (cs.set q (.rs s.nx 0 T0.len))), s.nx + 1, s.nt, s.k0⟩ := fun E R a w F => by
  obtain ⟨c, t, g1, g2, g3, g4⟩ := (show BRel R o w (.own cs) from F.hp.blk o _ ho)
  obtain ⟨u, hu, hc⟩ := g4 q _ hq
  have hc : KR R.z T0 u := hc
  obtain ⟨b, off, hB, hC, hN⟩ : ∃ b off, (∀ (R1 : Ren) (i : Nat), R1.ρ i = b → R1.δ i = off → R1.z = R.z → BRel R1 i w (.ro T0.cs)) ∧ (∀ R1 : Ren, R1.ρ s.nx = b → R1.δ s.nx = off → conC R1 (.rs s.nx 0 T0.len) u) ∧ ∀ j d, lk s.hp j = some d → d.wr = true → b ≠ R.ρ j := by
    by_cases h0 : 0 < T0.len
    · obtain ⟨b, off, cp, hv, hle, hB⟩ := hc.blk F.hp.zw h0
      have hz := hc.frozen h0 hv
      refine ⟨b, off, hB, fun R1 e1 e2 => .inl ⟨⟨b, off, none⟩, cp, hv, fun _ => by unfold Ren.adr; rw [e1, e2]; rfl, hle⟩, fun j d hd hw e => hz (e ▸ F.hp.zn j d hd hw)⟩
    · have h0 : T0.len = 0 := by omega
      have hl := hc.cs_len
      rw [h0, Nat.zero_mul] at hl
      have hcs := List.length_eq_zero_iff.1 hl
      obtain ⟨c', t', z', h1, _⟩ := (show BRel R j0 w (.ro c0) from F.hp.blk j0 _ hj)
      refine ⟨R.ρ j0, R.δ j0, fun R1 i e1 e2 _ => ⟨c', t', z', by rw [e1]; exact h1, fun i x hx => by rw [hcs] at hx; simp at hx⟩, fun R1 e1 e2 => ?_, fun j d hd hw e => F.hp.inj j j0 d _ hd hj (fun e => by subst e; rw [hj] at hd; injection hd with hd; subst hd; cases hw) hw e.symm⟩
      rw [h0]
      rcases hc.zero h0 with rfl | ⟨a', cp, rfl⟩
      · exact .inr ⟨rfl, rfl⟩
      · exact .inl ⟨a', cp, rfl, fun h => absurd h (Nat.lt_irrefl 0), Nat.zero_le _⟩
  have hag := Ren.set_agree R s.nx b off 0 hG
  have F1 := F.ren (m := s.nx + 1) hag (Ren.set_ok _ _ _ _ hG F.ok) (Nat.le_succ _) hG
  have hold : ∀ i c, lk s.hp i = some c → (R.set s.nx b off 0).ρ i = R.ρ i := fun i c hi => (hag i (F.wf.hp i c hi).1).1
  have hne : ∀ i d, lk s.hp i = some d → i ≠ s.nx := fun i d hd e => by have := (F.wf.hp i d hd).1; unfold idOk at this; omega
  have hlk : ∀ i d, lk ((s.nx, ABlk.ro T0.cs) :: up s.hp o (.own (cs.set q (.rs s.nx 0 T0.len)))) i = some d → (i = s.nx ∧ d = .ro T0.cs) ∨ (i = o ∧ d = .own (cs.set q (.rs s.nx 0 T0.len))) ∨ (i ≠ o ∧ lk s.hp i = some d) := fun i d hd => by
    simp only [lk] at hd
    split at hd
    · rename_i e; injection hd with hd; exact .inl ⟨e.symm, hd.symm⟩
    · rw [lk_up] at hd
      split at hd
      · rename_i e; injection hd with hd; exact .inr (.inl ⟨e.symm, hd.symm⟩)
      · rename_i e; exact .inr (.inr ⟨fun h => e h.symm, hd⟩)
  have hwr : ∀ i d, lk ((s.nx, ABlk.ro T0.cs) :: up s.hp o (.own (cs.set q (.rs s.nx 0 T0.len)))) i = some d → d.wr = true → ∃ d', lk s.hp i = some d' ∧ d'.wr = true := fun i d hd hw => by
    rcases hlk i d hd with ⟨_, rfl⟩ | ⟨rfl, _⟩ | ⟨_, h⟩
    · cases hw
    · exact ⟨_, ho, rfl⟩
    · exact ⟨d, h, hw⟩
  have hlt := (F.wf.hp o _ ho).2
  refine ⟨_, F1.adds (hp' := (s.nx, ABlk.ro T0.cs) :: up s.hp o (.own (cs.set q (.rs s.nx 0 T0.len)))) (fun i d hd => ⟨?_, fun hw => ?_, ?_, ?_⟩) (fun i j d e hd he hij hw => ?_) (fun i d hd hw => ?_)⟩
  · rcases hlk i d hd with ⟨rfl, rfl⟩ | ⟨rfl, rfl⟩ | ⟨_, h⟩
    · exact hB _ _ (Ren.set_ρ ..) (Ren.set_δ ..) rfl
    · refine ⟨c, t, by rw [hold _ _ ho]; exact g1, by rw [(hag i (F.wf.hp _ _ ho).1).2.1]; exact g2, by rw [List.length_set]; exact g3, fun j x hx => ?_⟩
      rw [List.getElem?_set] at hx
      split at hx
      · rename_i e; subst e
        split at hx
        · injection hx with hx; subst hx
          exact ⟨u, hu, hC _ (Ren.set_ρ ..) (Ren.set_δ ..)⟩
        · cases hx
      · obtain ⟨v, h1, h2⟩ := g4 j x hx
        exact ⟨v, h1, conC.agree hag (hlt x (List.mem_of_getElem? hx)) h2⟩
    · exact F1.hp.blk i d h
  · obtain ⟨d', h1, h2⟩ := hwr i d hd hw
    exact F1.wr i d' h1 h2
  · rcases hlk i d hd with ⟨rfl, rfl⟩ | ⟨rfl, rfl⟩ | ⟨_, h⟩
    · exact .inl (Nat.lt_succ_self _)
    · exact (F1.wf.hp _ _ ho).1
    · exact (F1.wf.hp i d h).1
  · rcases hlk i d hd with ⟨rfl, rfl⟩ | ⟨rfl, rfl⟩ | ⟨_, h⟩
    · exact RT.cs_lt
    · intro x hx
      obtain ⟨j, hj'⟩ := List.getElem?_of_mem hx
      rw [List.getElem?_set] at hj'
      split at hj'
      · split at hj'
        · injection hj' with hj'; subst hj'; exact .inl (Nat.lt_succ_self _)
        · cases hj'
      · exact AC.lt.mono (hlt x (List.mem_of_getElem? hj')) (Nat.le_succ _)
    · exact (F1.wf.hp i d h).2
  · obtain ⟨d', h1, h2⟩ := hwr i d hd hw
    rcases hlk j e he with ⟨rfl, rfl⟩ | ⟨rfl, rfl⟩ | ⟨_, h⟩
    · rw [hold i d' h1, Ren.set_ρ]
      exact (hN i d' h1 h2).symm
    · exact F1.hp.inj i _ d' _ h1 ho hij h2
    · exact F1.hp.inj i j d' e h1 h hij h2
  · obtain ⟨d', h1, h2⟩ := hwr i d hd hw
    exact F1.hp.zn i d' h1 h2
theorem Under.freezeRows {o e : Nat} (rows : List (Nat × List Int)) (rest : List (Nat × ABlk)) (ho : lk s.hp o = some (.row e 1 (rows.map fun p => AC.row p.1 p.2.length))) (hr : ∀ p ∈ rows, ∃ e, lk s.hp p.1 = some (.row e 1 (ints p.2)))
    (hrest : ∀ i b, lk rest i = some b → lk s.hp i = some b ∧ i ∉ rows.map Prod.fst ∧ i ≠ o) (hoR : o ∉ rows.map Prod.fst) :
    Under s ⟨s.tm, (o, .row e 1 (rows.map fun p => AC.tv (.leaf 1 p.2.length p.2))) :: rest, s.nx, s.nt, s.k0⟩ := fun E R a w F => by
  have hF : ∀ i ∈ rows.map Prod.fst, ∃ blk cs, lk s.hp i = some blk ∧ blk.wr = true ∧ blk.cells = some cs := fun i hi => by
    obtain ⟨p, hp', rfl⟩ := List.mem_map.1 hi
    obtain ⟨e, he⟩ := hr p hp'
    exact ⟨_, _, he, rfl, rfl⟩
  obtain ⟨Z, z1, z2, z3, z4, z5⟩ := F.hp.freezeZ (rows.map Prod.fst) hF
  have hag := R.withZ_agree z1 s.nx
  have hsub : ∀ i b, lk ((o, ABlk.row e 1 (rows.map fun p => AC.row p.1 p.2.length)) :: rest) i = some b → lk s.hp i = some b ∧ i ∉ rows.map Prod.fst := fun i b hb => by
    simp only [lk] at hb
    split at hb
    · rename_i e2; subst e2; injection hb with hb; subst hb; exact ⟨ho, hoR⟩
    · exact ⟨(hrest i b hb).1, (hrest i b hb).2.1⟩
  have F0 := F.hp_sub (hp' := (o, ABlk.row e 1 (rows.map fun p => AC.row p.1 p.2.length)) :: rest) fun i b hb => (hsub i b hb).1
  have F1 := F0.renZ (m := s.nx) (R' := R.withZ Z) hag ⟨F.ok.g, F.ok.d, F.ok.c⟩ (Nat.le_refl _) F.nk.2 z2 (fun i b hb hw => z5 i b (hsub i b hb).1 hw (hsub i b hb).2) (fun b hb => (z3 b hb).imp id (by
    rintro ⟨i, hi, e2⟩
    obtain ⟨blk, _, h1, h2, _⟩ := hF i hi
    exact e2 ▸ F.wr i blk h1 h2))
  have hlk : ∀ i d, lk ((o, ABlk.row e 1 (rows.map fun p => AC.tv (.leaf 1 p.2.length p.2))) :: rest) i = some d → (i = o ∧ d = .row e 1 (rows.map fun p => AC.tv (.leaf 1 p.2.length p.2))) ∨ lk ((o, ABlk.row e 1 (rows.map fun p => AC.row p.1 p.2.length)) :: rest) i = some d := fun i d hd => by
    simp only [lk] at hd ⊢
    split at hd
    · rename_i e2; injection hd with hd; exact .inl ⟨e2.symm, hd.symm⟩
    · rename_i e2; rw [if_neg e2]; exact .inr hd
  have ho1 : lk ((o, ABlk.row e 1 (rows.map fun p => AC.row p.1 p.2.length)) :: rest) o = some (.row e 1 (rows.map fun p => AC.row p.1 p.2.length)) := by simp [lk]
  have hwr : ∀ i d, lk ((o, ABlk.row e 1 (rows.map fun p => AC.tv (.leaf 1 p.2.length p.2))) :: rest) i = some d → ∃ d', lk ((o, ABlk.row e 1 (rows.map fun p => AC.row p.1 p.2.length)) :: rest) i = some d' ∧ (d.wr = true → d'.wr = true) := fun i d hd => by
    rcases hlk i d hd with ⟨rfl, _⟩ | h
    · exact ⟨_, ho1, fun _ => rfl⟩
    · exact ⟨d, h, id⟩
  refine ⟨R.withZ Z, F1.adds (hp' := (o, ABlk.row e 1 (rows.map fun p => AC.tv (.leaf 1 p.2.length p.2))) :: rest) (fun i d hd => ⟨?_, fun hw => ?_, ?_, ?_⟩) (fun i j d d2 hd he hij hw => ?_) (fun i d hd hw => ?_)⟩
  · rcases hlk i d hd with ⟨rfl, rfl⟩ | h
    · obtain ⟨c, g1, g2, g3, g4, g5, g6⟩ := (show BRel R i w (.row e 1 (rows.map fun p => AC.row p.1 p.2.length)) from F.hp.blk i _ ho)
      refine ⟨c, g1, g2, g3, g4, by rw [List.length_map] at g5 ⊢; exact g5, fun j x hj => ?_⟩
      rw [List.getElem?_map] at hj
      cases hq : rows[j]? with
      | none => rw [hq] at hj; cases hj
      | some p =>
        rw [hq] at hj
        injection hj with hj; subst hj
        obtain ⟨u, h1, h2⟩ := g6 j (.row p.1 p.2.length) (by rw [List.getElem?_map, hq]; rfl)
        have hm : p ∈ rows := List.mem_of_getElem? hq
        obtain ⟨e', he'⟩ := hr p hm
        obtain ⟨c', t', v', k1, k2⟩ := z4 p.1 (List.mem_map.2 ⟨p, hm, rfl⟩)
        exact ⟨u, h1, KR.ofRow h2 (F.hp.blk p.1 _ he') k1 k2⟩
    · exact F1.hp.blk i d h
  · obtain ⟨d', h1, h2⟩ := hwr i d hd
    exact F1.wr i d' h1 (h2 hw)
  · obtain ⟨d', h1, _⟩ := hwr i d hd
    exact (F1.wf.hp i d' h1).1
  · rcases hlk i d hd with ⟨rfl, rfl⟩ | h
    · intro x hx
      obtain ⟨p, _, rfl⟩ := List.mem_map.1 hx
      trivial
    · exact (F1.wf.hp i d h).2
  · obtain ⟨d', h1, h2⟩ := hwr i d hd
    obtain ⟨e', h3, _⟩ := hwr j d2 he
    exact F1.hp.inj i j d' e' h1 h3 hij (h2 hw)
  · obtain ⟨d', h1, h2⟩ := hwr i d hd
    exact F1.hp.zn i d' h1 (h2 hw)
end Go.AH
