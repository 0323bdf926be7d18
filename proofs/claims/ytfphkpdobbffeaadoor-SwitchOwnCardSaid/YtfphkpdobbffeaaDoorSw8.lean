/-
  SwitchOwn: the loop that writes into the wires of the game without one.
-/
import Derived.Test.YtfphkpdobbffeaaDoorSw7
import Derived.Test.YtfphkpdobbffeaaDoorSw1
import Derived.Test.YtfphkpdobbffeaaDoorAh6
set_option linter.unusedSimpArgs false
set_option linter.unusedVariables false
namespace Go.Proofs.YtfphkpdobbffeaaDoor
open Go Go.AH
set_option maxRecDepth 100000
set_option maxHeartbeats 4000000

noncomputable def own4 : Code := ((Tryd.f8.body.map loopsC).getD []).getD 4 .skip
def LP (n s t : Int) (m : Nat) (L : List Int) (fx : List (Nat × ABlk)) : List (Nat × ABlk) := (61, .row 60 2 (ints L)) :: (60, .own [.int .i64 n, .int .i64 s, .int .i64 t, .row 61 m]) :: fx
structure Fx6 (fx : List (Nat × ABlk)) : Prop where
  n : (fx.map Prod.fst).Nodup
  k : ∀ p ∈ fx, p.1 < 60 ∨ GB ≤ p.1
  l : hpLt 70 fx
theorem own_back6 {s : AS} {tm : List (Nat × AV)} {HP : List (Nat × ABlk)} (hn : (HP.map Prod.fst).Nodup) (hl : hpLt 70 HP) (ht : tmLt 70 tm) (hh : s.hp = HP) (htm : eqT s.tm tm) (h1 : s.nt = 150) (h2 : s.k0 = 1) (h3 : 70 ≤ s.nx) : Sub s ⟨tm, HP, 70, 150, 1⟩ [] :=
  Sub.nil ⟨h1.symm, h2.symm, ⟨by show 1 ≤ 70; omega, h3⟩, nodB_of hn, ht, hl⟩ htm (by rw [hh]; exact eqH_self (front := []) hn)
theorem LP_n {n s t : Int} {m : Nat} {L : List Int} {fx : List (Nat × ABlk)} (hf : Fx6 fx) : ((LP n s t m L fx).map Prod.fst).Nodup := by
  have key : ∀ i, i = 60 ∨ i = 61 → i ∉ fx.map Prod.fst := fun i hi h => by
    obtain ⟨p, hp, e⟩ := List.mem_map.1 h
    have := hf.k p hp
    unfold GB at this; omega
  show (61 :: 60 :: fx.map Prod.fst).Nodup
  rw [List.nodup_cons, List.nodup_cons]
  refine ⟨fun h => ?_, key 60 (.inl rfl), hf.n⟩
  rcases List.mem_cons.1 h with h | h
  · omega
  · exact key 61 (.inr rfl) h
theorem LP_l {n s t : Int} {m : Nat} {L : List Int} {fx : List (Nat × ABlk)} (hf : Fx6 fx) : hpLt 70 (LP n s t m L fx) :=
  ⟨.inl (by omega), ints_LL _ _, .inl (by omega), by simp [ABlk.lt, LL_cons, LL_nil, AC.lt, idOk], hf.l⟩
theorem own_l4 {n s t : Int} {m : Nat} {L0 : List Int} (hL : L0.length = m * 2) (hm : m ≤ 10) {fx : List (Nat × ABlk)} (hf : Fx6 fx) (v5 v6 v9 v12 v15 : AV) (hl : tmLt 70 [(5, v5), (6, v6), (9, v9), (12, v12), (15, v15)]) {Q : Exit → AS → Prop}
    (hQ : ∀ L : List Int, Q (.exit 8) ⟨[(102, .c (.bool false)), (101, .c (.int .i64 m)), (100, .c (.row 61 m)), (99, .c (.ptr 60 3)), (98, .c (.int .i64 m)), (14, .c (.ptr 60 0)), (22, .c (.int .i64 m)), (5, v5), (6, v6), (9, v9), (12, v12), (15, v15)], LP n s t m L fx, 70, 150, 1⟩) :
    Tr Tryd.prog own4 ⟨[(14, .c (.ptr 60 0)), (22, .c (.int .i64 0)), (5, v5), (6, v6), (9, v9), (12, v12), (15, v15)], LP n s t m L0 fx, 70, 150, 1⟩ Q := by
  refine Tr.loop (md := true) (X := Nat × List Int) (st := fun x => ⟨[(14, .c (.ptr 60 0)), (22, .c (.int .i64 x.1)), (5, v5), (6, v6), (9, v9), (12, v12), (15, v15)], LP n s t m x.2 fx, 70, 150, 1⟩) (inv := fun x => x.1 ≤ m ∧ x.2.length = m * 2) (μ := fun x => m - x.1) (x0 := (0, L0)) (l := []) tok ⟨by omega, hL⟩ ?_ ?_
  · exact own_back6 (LP_n hf) (LP_l hf) ⟨.inl (by omega), trivial, hl⟩ rfl ⟨rfl, rfl, rfl, rfl, rfl, rfl, rfl, trivial⟩ rfl rfl (Nat.le_refl 70)
  · rintro ⟨i, L⟩ ⟨g1, g2⟩
    dsimp only at g1 g2 ⊢
    by_cases hi : i < m
    · refine Wk.on ?_
      rw [decide_eq_true (show ((i : Nat) : Int) < ((m : Nat) : Int) by omega)]
      refine Wk.on ?_
      refine ⟨⟨rfl, by rw [Int.toNat_natCast, ints_len, g2]; show i * 2 + 2 ≤ m * 2; omega⟩, ?_⟩
      refine Wk.on ?_
      have hw : wrn (ints L) (((i : Nat) : Int).toNat * 2) [.int .i64 (-1), .int .i64 (-1)] = ints ((L.set (i * 2) (-1)).set (i * 2 + 1) (-1)) := by rw [Int.toNat_natCast]; simp [wrn, ints]
      refine Again.mk (i + 1, (L.set (i * 2) (-1)).set (i * 2 + 1) (-1)) (own_back6 (LP_n hf) (LP_l hf) ⟨.inl (by omega), trivial, hl⟩ (congrArg (fun c => (61, ABlk.row 60 2 c) :: (60, .own [.int .i64 n, .int .i64 s, .int .i64 t, .row 61 m]) :: fx) hw) ⟨rfl, rfl, rfl, rfl, rfl, rfl, rfl, trivial⟩ rfl rfl (Nat.le_refl 70)) ⟨by show i + 1 ≤ m; omega, by simp only [List.length_set]; exact g2⟩ (by show m - (i + 1) < m - i; omega)
    · have hie : i = m := by omega
      subst hie
      refine Wk.on ?_
      rw [decide_eq_false (show ¬ ((i : Nat) : Int) < ((i : Nat) : Int) by omega)]
      refine Wk.on ?_
      intro _
      exact hQ L
end Go.Proofs.YtfphkpdobbffeaaDoor

/-
  SwitchOwn: the loop that writes into the lists of two trees.
-/
namespace Go.Proofs.YtfphkpdobbffeaaDoor
open Go Go.AH
set_option maxRecDepth 100000
set_option maxHeartbeats 4000000

noncomputable def own0 : Code := ((Tryd.f8.body.map loopsC).getD []).getD 0 .skip
def TP (A B : List Int) (fx : List (Nat × ABlk)) : List (Nat × ABlk) := (51, .row 3 1 (ints A)) :: (52, .row 3 1 (ints B)) :: (50, .own [.row 51 A.length, .row 52 B.length]) :: fx
structure Fx5 (fx : List (Nat × ABlk)) : Prop where
  n : (fx.map Prod.fst).Nodup
  k : ∀ p ∈ fx, p.1 < 50 ∨ GB ≤ p.1
  l : hpLt 60 fx
theorem own_back5 {s : AS} {tm : List (Nat × AV)} {HP : List (Nat × ABlk)} (hn : (HP.map Prod.fst).Nodup) (hl : hpLt 60 HP) (ht : tmLt 60 tm) (hh : s.hp = HP) (htm : eqT s.tm tm) (h1 : s.nt = 150) (h2 : s.k0 = 1) (h3 : 60 ≤ s.nx) : Sub s ⟨tm, HP, 60, 150, 1⟩ [] :=
  Sub.nil ⟨h1.symm, h2.symm, ⟨by show 1 ≤ 60; omega, h3⟩, nodB_of hn, ht, hl⟩ htm (by rw [hh]; exact eqH_self (front := []) hn)
theorem TP_n {A B : List Int} {fx : List (Nat × ABlk)} (hf : Fx5 fx) : ((TP A B fx).map Prod.fst).Nodup := by
  have key : ∀ i, i = 50 ∨ i = 51 ∨ i = 52 → i ∉ fx.map Prod.fst := fun i hi h => by
    obtain ⟨p, hp, e⟩ := List.mem_map.1 h
    have := hf.k p hp
    unfold GB at this; omega
  show (51 :: 52 :: 50 :: fx.map Prod.fst).Nodup
  rw [List.nodup_cons, List.nodup_cons, List.nodup_cons]
  refine ⟨fun h => ?_, fun h => ?_, key 50 (.inl rfl), hf.n⟩
  · rcases List.mem_cons.1 h with h | h
    · omega
    · rcases List.mem_cons.1 h with h | h
      · omega
      · exact key 51 (.inr (.inl rfl)) h
  · rcases List.mem_cons.1 h with h | h
    · omega
    · exact key 52 (.inr (.inr rfl)) h
theorem TP_l {A B : List Int} {fx : List (Nat × ABlk)} (hf : Fx5 fx) : hpLt 60 (TP A B fx) :=
  ⟨.inl (by omega), ints_LL _ _, .inl (by omega), ints_LL _ _, .inl (by omega), by simp [ABlk.lt, LL_cons, LL_nil, AC.lt, idOk], hf.l⟩
theorem own_l0 {A0 B0 : List Int} (hA : A0.length ≤ 10) (hB : B0.length ≤ 10) {fx : List (Nat × ABlk)} (hf : Fx5 fx) (v5 v6 v9 v10 v12 v14 v15 : AV) (hl : tmLt 60 [(5, v5), (6, v6), (9, v9), (10, v10), (12, v12), (14, v14), (15, v15)]) {Q : Exit → AS → Prop}
    (hQ : ∀ A B : List Int, Q (.exit 0) ⟨[(59, .c (.bool false)), (58, .c (.int .i64 2)), (7, .c (.ptr 50 0)), (16, .c (.int .i64 2)), (5, v5), (6, v6), (9, v9), (10, v10), (12, v12), (14, v14), (15, v15)], TP A B fx, 60, 150, 1⟩) :
    Tr Tryd.prog own0 ⟨[(7, .c (.ptr 50 0)), (16, .c (.int .i64 0)), (5, v5), (6, v6), (9, v9), (10, v10), (12, v12), (14, v14), (15, v15)], TP A0 B0 fx, 60, 150, 1⟩ Q := by
  refine Tr.loop (md := true) (X := Nat × List Int × List Int) (st := fun x => ⟨[(7, .c (.ptr 50 0)), (16, .c (.int .i64 x.1)), (5, v5), (6, v6), (9, v9), (10, v10), (12, v12), (14, v14), (15, v15)], TP x.2.1 x.2.2 fx, 60, 150, 1⟩) (inv := fun x => x.1 ≤ 2 ∧ x.2.1.length ≤ 10 ∧ x.2.2.length ≤ 10) (μ := fun x => 2 - x.1) (x0 := (0, A0, B0)) (l := []) tok ⟨by omega, hA, hB⟩ ?_ ?_
  · exact own_back5 (TP_n hf) (TP_l hf) ⟨.inl (by omega), trivial, hl⟩ rfl ⟨rfl, rfl, rfl, rfl, rfl, rfl, rfl, rfl, rfl, trivial⟩ rfl rfl (Nat.le_refl 60)
  · rintro ⟨i, A, B⟩ ⟨g1, g2, g3⟩
    dsimp only at g1 g2 g3 ⊢
    rcases i with _ | _ | _ | i
    · refine Wk.on ?_
      refine Tr.loop (md := true) (X := Nat × List Int) (st := fun x => ⟨[(7, .c (.ptr 50 0)), (16, .c (.int .i64 (0 : Nat))), (17, .c (.int .i64 x.1)), (5, v5), (6, v6), (9, v9), (10, v10), (12, v12), (14, v14), (15, v15)], TP x.2 B fx, 60, 150, 1⟩) (inv := fun x => x.1 ≤ A.length ∧ x.2.length = A.length) (μ := fun x => A.length - x.1) (x0 := (0, A)) (l := []) tok ⟨by omega, rfl⟩ ?_ ?_
      · exact own_back5 (TP_n hf) (TP_l hf) ⟨.inl (by omega), trivial, trivial, hl⟩ rfl ⟨rfl, rfl, rfl, rfl, rfl, rfl, rfl, rfl, rfl, rfl, trivial⟩ rfl rfl (Nat.le_refl 60)
      · rintro ⟨k, a⟩ ⟨k1, k2⟩
        dsimp only at k1 k2 ⊢
        by_cases hk : k < a.length
        · refine Wk.on ?_
          rw [decide_eq_true (show ((k : Nat) : Int) < ((a.length : Nat) : Int) by omega)]
          refine Wk.on ?_
          refine ⟨⟨rfl, by rw [Int.toNat_natCast, ints_len]; omega⟩, ?_⟩
          refine Wk.on ?_
          have hset : (ints a).set (((k : Nat) : Int).toNat * 1) (.int .i64 (-1)) = ints (a.set k (-1)) := by rw [Int.toNat_natCast, Nat.mul_one]; simp [ints]
          have hle : (a.set k (-1)).length = a.length := List.length_set
          rw [hset]
          refine Again.mk (k + 1, a.set k (-1)) (own_back5 (TP_n hf) (TP_l hf) ⟨.inl (by omega), trivial, trivial, hl⟩ (by simp only [TP, hle]; rfl) ⟨rfl, rfl, rfl, rfl, rfl, rfl, rfl, rfl, rfl, rfl, trivial⟩ rfl rfl (Nat.le_refl 60)) ⟨by show k + 1 ≤ A.length; omega, by rw [hle]; exact k2⟩ (by show A.length - (k + 1) < A.length - k; omega)
        · have hke : k = a.length := by omega
          subst hke
          refine Wk.on ?_
          rw [decide_eq_false (show ¬ ((a.length : Nat) : Int) < ((a.length : Nat) : Int) by omega)]
          refine Wk.on ?_
          intro _
          refine Wk.on ?_
          exact Again.mk (0 + 1, a, B) (own_back5 (TP_n hf) (TP_l hf) ⟨.inl (by omega), trivial, hl⟩ rfl ⟨rfl, rfl, rfl, rfl, rfl, rfl, rfl, rfl, rfl, trivial⟩ rfl rfl (Nat.le_refl 60)) ⟨by show 0 + 1 ≤ 2; omega, by show a.length ≤ 10; omega, by show B.length ≤ 10; omega⟩ (by show 2 - (0 + 1) < 2 - 0; omega)
    · refine Wk.on ?_
      refine Tr.loop (md := true) (X := Nat × List Int) (st := fun x => ⟨[(7, .c (.ptr 50 0)), (16, .c (.int .i64 (1 : Nat))), (17, .c (.int .i64 x.1)), (5, v5), (6, v6), (9, v9), (10, v10), (12, v12), (14, v14), (15, v15)], TP A x.2 fx, 60, 150, 1⟩) (inv := fun x => x.1 ≤ B.length ∧ x.2.length = B.length) (μ := fun x => B.length - x.1) (x0 := (0, B)) (l := []) tok ⟨by omega, rfl⟩ ?_ ?_
      · exact own_back5 (TP_n hf) (TP_l hf) ⟨.inl (by omega), trivial, trivial, hl⟩ rfl ⟨rfl, rfl, rfl, rfl, rfl, rfl, rfl, rfl, rfl, rfl, trivial⟩ rfl rfl (Nat.le_refl 60)
      · rintro ⟨k, a⟩ ⟨k1, k2⟩
        dsimp only at k1 k2 ⊢
        by_cases hk : k < a.length
        · refine Wk.on ?_
          rw [decide_eq_true (show ((k : Nat) : Int) < ((a.length : Nat) : Int) by omega)]
          refine Wk.on ?_
          refine ⟨⟨rfl, by rw [Int.toNat_natCast, ints_len]; omega⟩, ?_⟩
          refine Wk.on ?_
          have hset : (ints a).set (((k : Nat) : Int).toNat * 1) (.int .i64 (-1)) = ints (a.set k (-1)) := by rw [Int.toNat_natCast, Nat.mul_one]; simp [ints]
          have hle : (a.set k (-1)).length = a.length := List.length_set
          rw [hset]
          refine Again.mk (k + 1, a.set k (-1)) (own_back5 (TP_n hf) (TP_l hf) ⟨.inl (by omega), trivial, trivial, hl⟩ (by simp only [TP, hle]; rfl) ⟨rfl, rfl, rfl, rfl, rfl, rfl, rfl, rfl, rfl, rfl, trivial⟩ rfl rfl (Nat.le_refl 60)) ⟨by show k + 1 ≤ B.length; omega, by rw [hle]; exact k2⟩ (by show B.length - (k + 1) < B.length - k; omega)
        · have hke : k = a.length := by omega
          subst hke
          refine Wk.on ?_
          rw [decide_eq_false (show ¬ ((a.length : Nat) : Int) < ((a.length : Nat) : Int) by omega)]
          refine Wk.on ?_
          intro _
          refine Wk.on ?_
          exact Again.mk (1 + 1, A, a) (own_back5 (TP_n hf) (TP_l hf) ⟨.inl (by omega), trivial, hl⟩ rfl ⟨rfl, rfl, rfl, rfl, rfl, rfl, rfl, rfl, rfl, trivial⟩ rfl rfl (Nat.le_refl 60)) ⟨by show 1 + 1 ≤ 2; omega, by show A.length ≤ 10; omega, by show a.length ≤ 10; omega⟩ (by show 2 - (1 + 1) < 2 - 1; omega)
    · refine Wk.on ?_
      exact hQ A B
    · omega
def TPn (fx : List (Nat × ABlk)) : List (Nat × ABlk) := (50, .own [.nils, .nils]) :: fx
theorem TPn_n {fx : List (Nat × ABlk)} (hf : Fx5 fx) : ((TPn fx).map Prod.fst).Nodup := by
  show (50 :: fx.map Prod.fst).Nodup
  rw [List.nodup_cons]
  refine ⟨fun h => ?_, hf.n⟩
  obtain ⟨p, hp, e⟩ := List.mem_map.1 h
  have := hf.k p hp
  unfold GB at this; omega
theorem TPn_l {fx : List (Nat × ABlk)} (hf : Fx5 fx) : hpLt 60 (TPn fx) := ⟨.inl (by omega), by simp [ABlk.lt, LL_cons, LL_nil, AC.lt, idOk], hf.l⟩
theorem own_l0n {fx : List (Nat × ABlk)} (hf : Fx5 fx) (v5 v6 v9 v10 v12 v14 v15 : AV) (hl : tmLt 60 [(5, v5), (6, v6), (9, v9), (10, v10), (12, v12), (14, v14), (15, v15)]) {Q : Exit → AS → Prop}
    (hQ : Q (.exit 0) ⟨[(59, .c (.bool false)), (58, .c (.int .i64 2)), (7, .c (.ptr 50 0)), (16, .c (.int .i64 2)), (5, v5), (6, v6), (9, v9), (10, v10), (12, v12), (14, v14), (15, v15)], TPn fx, 60, 150, 1⟩) :
    Tr Tryd.prog own0 ⟨[(7, .c (.ptr 50 0)), (16, .c (.int .i64 0)), (5, v5), (6, v6), (9, v9), (10, v10), (12, v12), (14, v14), (15, v15)], TPn fx, 60, 150, 1⟩ Q := by
  refine Tr.loop (md := true) (X := Nat) (st := fun x => ⟨[(7, .c (.ptr 50 0)), (16, .c (.int .i64 x)), (5, v5), (6, v6), (9, v9), (10, v10), (12, v12), (14, v14), (15, v15)], TPn fx, 60, 150, 1⟩) (inv := fun x => x ≤ 2) (μ := fun x => 2 - x) (x0 := 0) (l := []) tok (by omega) ?_ ?_
  · exact own_back5 (TPn_n hf) (TPn_l hf) ⟨.inl (by omega), trivial, hl⟩ rfl ⟨rfl, rfl, rfl, rfl, rfl, rfl, rfl, rfl, rfl, trivial⟩ rfl rfl (Nat.le_refl 60)
  · rintro i g1
    rcases i with _ | _ | _ | i
    · refine Wk.on ?_
      refine Tr.loop (md := true) (X := Unit) (st := fun _ => ⟨[(7, .c (.ptr 50 0)), (16, .c (.int .i64 (0 : Nat))), (17, .c (.int .i64 0)), (5, v5), (6, v6), (9, v9), (10, v10), (12, v12), (14, v14), (15, v15)], TPn fx, 60, 150, 1⟩) (inv := fun _ => True) (μ := fun _ => 0) (x0 := ()) (l := []) tok trivial ?_ ?_
      · exact own_back5 (TPn_n hf) (TPn_l hf) ⟨.inl (by omega), trivial, trivial, hl⟩ rfl ⟨rfl, rfl, rfl, rfl, rfl, rfl, rfl, rfl, rfl, rfl, trivial⟩ rfl rfl (Nat.le_refl 60)
      · rintro _ _
        refine Wk.on ?_
        exact Again.mk (0 + 1) (own_back5 (TPn_n hf) (TPn_l hf) ⟨.inl (by omega), trivial, hl⟩ rfl ⟨rfl, rfl, rfl, rfl, rfl, rfl, rfl, rfl, rfl, trivial⟩ rfl rfl (Nat.le_refl 60)) (by show 0 + 1 ≤ 2; omega) (by show 2 - (0 + 1) < 2 - 0; omega)
    · refine Wk.on ?_
      refine Tr.loop (md := true) (X := Unit) (st := fun _ => ⟨[(7, .c (.ptr 50 0)), (16, .c (.int .i64 (1 : Nat))), (17, .c (.int .i64 0)), (5, v5), (6, v6), (9, v9), (10, v10), (12, v12), (14, v14), (15, v15)], TPn fx, 60, 150, 1⟩) (inv := fun _ => True) (μ := fun _ => 0) (x0 := ()) (l := []) tok trivial ?_ ?_
      · exact own_back5 (TPn_n hf) (TPn_l hf) ⟨.inl (by omega), trivial, trivial, hl⟩ rfl ⟨rfl, rfl, rfl, rfl, rfl, rfl, rfl, rfl, rfl, rfl, trivial⟩ rfl rfl (Nat.le_refl 60)
      · rintro _ _
        refine Wk.on ?_
        exact Again.mk (1 + 1) (own_back5 (TPn_n hf) (TPn_l hf) ⟨.inl (by omega), trivial, hl⟩ rfl ⟨rfl, rfl, rfl, rfl, rfl, rfl, rfl, rfl, rfl, trivial⟩ rfl rfl (Nat.le_refl 60)) (by show 1 + 1 ≤ 2; omega) (by show 2 - (1 + 1) < 2 - 1; omega)
    · refine Wk.on ?_
      exact hQ
    · omega
end Go.Proofs.YtfphkpdobbffeaaDoor

/-
  SwitchOwn: a loop begun at a state that is told anew.
-/
namespace Go.Proofs.YtfphkpdobbffeaaDoor
open Go Go.AH

theorem Tr.under {P : Program} {c : Code} {s t : AS} {Q : Exit → AS → Prop} (hU : Under s t) (h : Tr P c t Q) : Tr P c s Q := Tr.intro fun E R a w n r F ht => by
  obtain ⟨R', F'⟩ := hU E R a w F
  exact h.elim F' ht
theorem rg_look {b : Nat} {V : List (List Int)} {F : List (Nat × ABlk)} {R : List (Nat × ABlk)} (hF : ∀ p ∈ F, p.1 < b ∨ b + V.length ≤ p.1) {p : Nat × ABlk} (h : p ∈ rg b V) : lk (F ++ (rg b V).reverse ++ R) p.1 = some p.2 := by
  rw [List.append_assoc, lk_append, lk_none_of fun q hq e => by have := hF q hq; have := rg_mem h; omega, lk_append, rg_lk h]
  rfl
theorem rg_past {b : Nat} {V : List (List Int)} {F R : List (Nat × ABlk)} {i : Nat} (hF : lk F i = none) (hi : i < b ∨ b + V.length ≤ i) : lk (F ++ (rg b V).reverse ++ R) i = lk R i := by
  rw [List.append_assoc, lk_append, hF, lk_append, lk_none_of fun q hq e => by have := rg_mem (List.mem_reverse.1 hq); omega]
  rfl
theorem rgL_n {b : Nat} {V : List (List Int)} {FL : List (Nat × ABlk)} (hn : (FL.map Prod.fst).Nodup) (hd : ∀ p ∈ FL, p.1 < b ∨ b + V.length ≤ p.1) : ((rg b V ++ FL).map Prod.fst).Nodup := by
  rw [List.map_append, List.nodup_append]
  refine ⟨rg_nodup V b, hn, fun x hx y hy e => ?_⟩
  obtain ⟨p, hp, rfl⟩ := List.mem_map.1 hx
  obtain ⟨q, hq, rfl⟩ := List.mem_map.1 hy
  have h1 := rg_mem hp
  have h2 := hd q hq
  omega
theorem Fx5_of {b : Nat} {V : List (List Int)} {FL : List (Nat × ABlk)} (hb : b + V.length ≤ 50) (hn : (FL.map Prod.fst).Nodup) (hd : ∀ p ∈ FL, p.1 < b ∨ b + V.length ≤ p.1) (hk : ∀ p ∈ FL, p.1 < 50 ∨ GB ≤ p.1) (hl : hpLt 60 FL) : Fx5 (rg b V ++ FL) where
  n := rgL_n hn hd
  k := fun p hp => by
    rcases List.mem_append.1 hp with hp | hp
    · have := rg_mem hp; omega
    · exact hk p hp
  l := rg_lt V b (by omega) hl
end Go.Proofs.YtfphkpdobbffeaaDoor

/-
  Plain: the table of 64 names no block.
-/
namespace Go.Proofs.YtfphkpdobbffeaaDoor
open Go Go.AH
instance : RenC tab64 := ⟨tab64_ren, fun n => by simp [tab64_LL]⟩
end Go.Proofs.YtfphkpdobbffeaaDoor

/-
  Contracts: a copy of wires, one wire taken away; the game without a wire, by the program.
-/
namespace Go.Proofs.YtfphkpdobbffeaaDoor
open Go Go.AH
set_option maxRecDepth 100000
set_option maxHeartbeats 1000000

def lessG (g : Gm) (w : Nat) : Gm := ⟨g.n, g.s, g.t, g.ws.take w ++ g.ws.drop (w + 1)⟩
theorem clone_spec {ws : List (Nat × Nat)} (h : 0 < ws.length) (h10 : ws.length ≤ 10) : FDet Tryd.prog 79 [.c (.rs 0 0 ws.length)] [(0, .ro (ints (fl ws)))] 1 (.c (.row 1 ws.length)) [(1, .row 60 2 (ints (fl ws)))] 2 := by
  have hl : (ints (fl ws)).length = ws.length * 2 := by rw [ints_len, fl_len]
  have ht : ((ints (fl ws)).drop 0).take (ws.length * 2) = ints (fl ws) := by rw [List.drop_zero, ← hl, List.take_length]
  refine FSpec.of_body tok true Tryd.func79 rfl (by kernel_rfl) (by decide) (by simp [tupA, hpLt, tmLt, AV.lt, AE.lt, AC.lt, LL_cons, LL_nil, idOk, ABlk.lt, ints_LL, GB, tab64_LL, gC, wB, giC, noneB, gst, tC, pC, gN, gR, rC, rB]) (by simp [tupA, hpLt, tmLt, AV.lt, AE.lt, AC.lt, LL_cons, LL_nil, idOk, ABlk.lt, ints_LL, GB, tab64_LL, gC, wB, giC, noneB, gst, tC, pC, gN, gR, rC, rB]) (by show 1 ≤ _; decide) ?_
  refine Wk.on ?_
  refine ⟨by rw [hl]; show 0 + ws.length * 2 ≤ _; omega, ?_⟩
  refine Wk.on ?_
  refine ⟨⟨Nat.le_of_ble_eq_true rfl, by show 0 < 0 + ws.length; omega, Nat.le_of_ble_eq_true rfl, by show ((0 + ws.length : Nat) : Int) * 16 ≤ _; omega, by show 0 + ws.length ≤ _; omega⟩, ?_⟩
  rw [show (((rep 0 [AC.int .i64 0, AC.int .i64 0]).drop 0).take (0 * 2) ++ ((ints (fl ws)).drop 0).take (ws.length * 2)) = ints (fl ws) from ht, Nat.zero_add]
  refine Wk.on ?_
  exact AH.Fin.new [2] _ _ ⟨rfl, rfl, rfl⟩ rfl ⟨by show some _ = some _; exact congrArg (fun l => some (ABlk.row 60 2 l)) (ints_ren _ _).symm, trivial⟩ rfl (by simp [tupA, hpLt, tmLt, AV.lt, AE.lt, AC.lt, LL_cons, LL_nil, idOk, ABlk.lt, ints_LL, GB, tab64_LL, gC, wB, giC, noneB, gst, tC, pC, gN, gR, rC, rB]) (by simp [tupA, hpLt, tmLt, AV.lt, AE.lt, AC.lt, LL_cons, LL_nil, idOk, ABlk.lt, ints_LL, GB, tab64_LL, gC, wB, giC, noneB, gst, tC, pC, gN, gR, rC, rB])
theorem openWire_ok {g : Gm} (hg : g.game) {i : Nat} (hi : i < g.ws.length) : FDet Tryd.prog 77 [.g (gC g 0), .c (.int .i64 i)] [(0, wB g)] 1 (.c (.int .i64 0)) [] 1 := by
  have hc := check_ok hg
  refine FSpec.of_body tok true Tryd.func77 rfl (by kernel_rfl) (by decide) (by simp [tupA, hpLt, tmLt, AV.lt, AE.lt, AC.lt, LL_cons, LL_nil, idOk, ABlk.lt, ints_LL, GB, tab64_LL, gC, wB, giC, noneB, gst, tC, pC, gN, gR, rC, rB]) (by simp [tupA, hpLt, tmLt, AV.lt, AE.lt, AC.lt, LL_cons, LL_nil, idOk, ABlk.lt, ints_LL, GB, tab64_LL, gC, wB, giC, noneB, gst, tC, pC, gN, gR, rC, rB]) (by show 2 ≤ _; decide) ?_
  refine Wk.on ?_
  refine CallA.ro2 [0] (.c (.int .i64 0)) (hc) ?_
  refine Wk.on ?_
  rw [decide_eq_false (show ¬ ((i : Nat) : Int) < 0 by omega)]
  refine Wk.on ?_
  rw [decide_eq_false (show ¬ ((g.ws.length : Nat) : Int) ≤ ((i : Nat) : Int) by omega)]
  refine Wk.on ?_
  exact AH.Fin.nil2 ⟨rfl, rfl, rfl⟩
theorem openWire_bad {g : Gm} (hg : g.game) {n : Int} (h : n < 0 ∨ (g.ws.length : Int) ≤ n) : FDet Tryd.prog 77 [.g (gC g 0), .c (.int .i64 n)] [(0, wB g)] 1 (.c (.int .i64 1)) [] 1 := by
  have hc := check_ok hg
  by_cases h0 : n < 0
  · skip
    refine FSpec.of_body tok true Tryd.func77 rfl (by kernel_rfl) (by decide) (by simp [tupA, hpLt, tmLt, AV.lt, AE.lt, AC.lt, LL_cons, LL_nil, idOk, ABlk.lt, ints_LL, GB, tab64_LL, gC, wB, giC, noneB, gst, tC, pC, gN, gR, rC, rB]) (by simp [tupA, hpLt, tmLt, AV.lt, AE.lt, AC.lt, LL_cons, LL_nil, idOk, ABlk.lt, ints_LL, GB, tab64_LL, gC, wB, giC, noneB, gst, tC, pC, gN, gR, rC, rB]) (by show 2 ≤ _; decide) ?_
    refine Wk.on ?_
    refine CallA.ro2 [0] (.c (.int .i64 0)) (hc) ?_
    refine Wk.on ?_
    rw [decide_eq_true h0]
    refine Wk.on ?_
    exact AH.Fin.nil2 ⟨rfl, rfl, rfl⟩
  · have h1 : (g.ws.length : Int) ≤ n := by omega
    refine FSpec.of_body tok true Tryd.func77 rfl (by kernel_rfl) (by decide) (by simp [tupA, hpLt, tmLt, AV.lt, AE.lt, AC.lt, LL_cons, LL_nil, idOk, ABlk.lt, ints_LL, GB, tab64_LL, gC, wB, giC, noneB, gst, tC, pC, gN, gR, rC, rB]) (by simp [tupA, hpLt, tmLt, AV.lt, AE.lt, AC.lt, LL_cons, LL_nil, idOk, ABlk.lt, ints_LL, GB, tab64_LL, gC, wB, giC, noneB, gst, tC, pC, gN, gR, rC, rB]) (by show 2 ≤ _; decide) ?_
    refine Wk.on ?_
    refine CallA.ro2 [0] (.c (.int .i64 0)) (hc) ?_
    refine Wk.on ?_
    rw [decide_eq_false h0]
    refine Wk.on ?_
    rw [decide_eq_true h1]
    refine Wk.on ?_
    exact AH.Fin.nil2 ⟨rfl, rfl, rfl⟩
theorem lessG_len {g : Gm} {w : Nat} (hw : w < g.ws.length) : (lessG g w).ws.length = g.ws.length - 1 := by
  show (g.ws.take w ++ g.ws.drop (w + 1)).length = _
  rw [List.length_append, List.length_take, List.length_drop]; omega
theorem cutZ {M Z P : List AC} {k : Nat} (hM : M.length = k) (hZ : Z.length ≤ 2) : (M ++ Z).take k ++ P ++ (M ++ Z).drop (k + 2) = M ++ P := by
  rw [← hM, List.take_left, List.drop_of_length_le (by rw [List.length_append]; omega), List.append_nil]
theorem del_cells (W : List (Nat × Nat)) (i d : Nat) (hd : W.length = i + 1 + d) (P : List AC) : ((ints (fl W)).take (i * 2) ++ ((ints (fl W)).drop ((i + 1) * 2)).take (d * 2) ++ (ints (fl W)).drop (i * 2 + d * 2)).take ((i + d) * 2) ++ P ++ ((ints (fl W)).take (i * 2) ++ ((ints (fl W)).drop ((i + 1) * 2)).take (d * 2) ++ (ints (fl W)).drop (i * 2 + d * 2)).drop ((i + d) * 2 + 2) = ints (fl (W.take i ++ W.drop (i + 1))) ++ P := by
  have hl : (ints (fl W)).length = W.length * 2 := by rw [ints_len, fl_len]
  have e1 : (ints (fl W)).take (i * 2) = ints (fl (W.take i)) := by rw [fl_take]; simp [ints]
  have e2 : ((ints (fl W)).drop ((i + 1) * 2)).take (d * 2) = ints (fl (W.drop (i + 1))) := by
    rw [List.take_of_length_le (by rw [List.length_drop, hl]; omega), fl_drop]; simp [ints]
  have e3 : ints (fl (W.take i)) ++ ints (fl (W.drop (i + 1))) = ints (fl (W.take i ++ W.drop (i + 1))) := by simp [ints, fl]
  rw [e1, e2, e3]
  exact cutZ (by rw [ints_len, fl_len, List.length_append, List.length_take, List.length_drop]; omega) (by rw [List.length_drop, hl]; omega)
theorem delete_spec (W : List (Nat × Nat)) (hW : W.length ≤ 10) (i : Nat) (hi : i < W.length) : FDet Tryd.prog 78 [.c (.row 0 W.length), .c (.int .i64 i), .c (.int .i64 ((i : Int) + 1))] [(0, .row 60 2 (ints (fl W)))] 1 (.c (.row 0 (W.length - 1))) [(0, .row 60 2 (ints (fl (W.take i ++ W.drop (i + 1)))))] 1 := by
  have hl : (ints (fl W)).length = W.length * 2 := by rw [ints_len, fl_len]
  obtain ⟨d, hd⟩ : ∃ d, W.length = i + 1 + d := ⟨W.length - (i + 1), by omega⟩
  have hdc := del_cells W i d hd (ints [0, 0])
  refine FDet.cutRow (ys := ints [0, 0]) ?_
  have hcat : ints (fl (W.take i ++ W.drop (i + 1))) ++ ints [0, 0] = ints (fl (W.take i ++ W.drop (i + 1)) ++ [0, 0]) := by simp [ints]
  rw [hcat] at hdc ⊢
  have hDL : LL 1 (ints (fl (W.take i ++ W.drop (i + 1)) ++ [0, 0])) := ints_LL _ _
  generalize ints (fl (W.take i ++ W.drop (i + 1)) ++ [0, 0]) = D at *
  generalize hX : ints (fl W) = X at *
  have hXL : LL 1 X := hX ▸ ints_LL _ _
  clear hX hcat
  rw [hd] at hl hW ⊢
  clear hd hi
  have e2 : i + 1 + d - (i + 1) = d := by omega
  refine FSpec.capRow (z := 2) rfl (Go.Proofs.enters_of Tryd.func78 (by kernel_rfl) rfl) fun c hc1 hc2 => ?_
  refine FDet.post (r := .c (.rp 0 0 (i + 1 + d - 1) c 2)) (hq := [(0, .row 60 2 D)]) (k' := 1) ?_ _ _ ⟨rfl, rfl, rfl⟩ ⟨⟨⟨rfl, rfl⟩, .inl rfl⟩, trivial⟩ (by simp [tupA, hpLt, tmLt, AV.lt, AE.lt, AC.lt, LL_cons, LL_nil, idOk, ABlk.lt, ints_LL, GB, tab64_LL, gC, wB, giC, noneB, gst, tC, pC, gN, gR, rC, rB]) ⟨.inl (by decide), hDL, trivial⟩ rfl
  show FDet Tryd.prog 78 [.c (.rp 0 0 (i + 1 + d) c 2), .c (.int .i64 i), .c (.int .i64 ((i : Int) + 1))] _ 1 _ _ 1
  refine FSpec.of_body tok true Tryd.func78 rfl (by kernel_rfl) (by decide) (by simp [tupA, hpLt, tmLt, AV.lt, AE.lt, AC.lt, LL_cons, LL_nil, idOk, ABlk.lt, ints_LL, GB, tab64_LL, gC, wB, giC, noneB, gst, tC, pC, gN, gR, rC, rB]) ⟨.inl (by decide), hXL, trivial⟩ (by show 3 ≤ _; decide) ?_
  refine Wk.on ?_
  refine ⟨⟨rfl, rfl, by show (0 : Int) ≤ i; omega, by show (i : Int) ≤ i + 1; omega, by omega, by omega⟩, ?_⟩
  refine Wk.on ?_
  rw [decide_eq_false (show ¬ ((i : Nat) : Int) = ((i : Nat) : Int) + 1 by omega)]
  refine Wk.on ?_
  refine Tr.draw (md := true) [⟨[], [21, 23, 24, 25], [], [], []⟩, ⟨[], [20, 23, 24, 25], [0], [], []⟩, ⟨[0, 1], [23, 24, 25], [], [], []⟩, ⟨[], [20, 21, 22, 24], [0, 1, 2], [], []⟩, ⟨[], [20, 21, 22, 23], [0, 1, 2, 3], [], []⟩, ⟨[3, 4], [20, 21, 22], [0, 1, 2], [], []⟩] tok (by kernel_rfl) (by kernel_rfl) ?_
  refine Wk.on ?_
  refine ⟨⟨rfl, Int.le_refl 0, by show (0 : Int) ≤ i; omega, by show (i : Int) ≤ c; omega⟩, fun _ => ?_, fun h => absurd (Or.inl rfl) h⟩
  refine Wk.on ?_
  refine ⟨⟨rfl, by show (0 : Int) ≤ (i : Int) + 1; omega, by show (i : Int) + 1 ≤ ((i + 1 + d : Nat) : Int); omega, by show ((i + 1 + d : Nat) : Int) ≤ c; omega⟩, fun hlo => ?_, fun hlo => ?_⟩
  · have e1 : ((i : Int) + 1).toNat = i + 1 := by omega
    refine Wk.on ?_
    simp only [Option.getD_some, Option.getD_none, Int.toNat_natCast, Int.toNat_zero, Nat.sub_zero, Nat.zero_add, e1, e2]
    refine ⟨⟨by first | rfl | trivial, by show (i + 1) * 2 + d * 2 ≤ X.length; omega⟩, ?_⟩
    refine Wk.on ?_
    refine ⟨⟨by first | rfl | trivial, by first | rfl | trivial, by first | rfl | trivial, by show 0 * 2 + i * 2 ≤ X.length; omega⟩, fun _ => ?_, fun h => by (exfalso; omega)⟩
    refine Wk.on ?_
    refine ⟨⟨rfl, by show (0 : Int) ≤ ((i + d : Nat) : Int); omega, by show ((i + d : Nat) : Int) ≤ ((i + 1 + d : Nat) : Int); omega, by show ((i + 1 + d : Nat) : Int) ≤ c; omega⟩, fun _ => ?_, fun h => absurd (Or.inr (by show ((i + d : Nat) : Int) < c; omega)) h⟩
    refine Wk.on ?_
    have e3 : i + 1 + d - (i + d) = 1 := by omega
    simp only [Option.getD_some, Option.getD_none, Int.toNat_natCast, Int.toNat_zero, Nat.sub_zero, Nat.zero_add, Nat.zero_mul, e3]
    refine ⟨⟨by first | rfl | trivial, by first | rfl | trivial, by simp only [List.length_append, List.length_take, List.length_drop]; show (i + d) * 2 ≤ _; omega⟩, ?_⟩
    refine Wk.on ?_
    exact Fin.nil [(0, .row 60 2 D)] ⟨by rw [show i + 1 + d - 1 = i + d by omega]; rfl, rfl, rfl⟩ (Or.inl (by show 0 < 1; omega)) ⟨congrArg (ABlk.row 60 2) hdc, trivial⟩ ⟨.inl (by show 0 < 1; omega), hDL, trivial⟩ rfl (by simp [GB])
  · obtain ⟨rfl, rfl⟩ : d = 0 ∧ c = i + 1 := by
      have h1 : ¬ ((i : Int) + 1 = 0 ∨ (i : Int) + 1 < c) := hlo
      omega
    refine Wk.on ?_
    simp only [Option.getD_some, Option.getD_none, Int.toNat_natCast, Int.toNat_zero, Nat.sub_zero, Nat.zero_add, Nat.zero_mul, Nat.add_zero]
    refine ⟨⟨by first | rfl | trivial, by first | rfl | trivial, by first | rfl | trivial, by show i * 2 ≤ X.length; omega⟩, fun _ => ?_, fun h => by (exfalso; omega)⟩
    refine Wk.on ?_
    refine ⟨⟨by first | rfl | trivial, by show (0 : Int) ≤ ((i : Nat) : Int); omega, by show ((i : Nat) : Int) ≤ ((i + 1 : Nat) : Int); omega, by show ((i + 1 : Nat) : Int) ≤ ((i + 1 : Nat) : Int); omega⟩, fun _ => ?_, fun h => absurd (Or.inr (by show ((i : Nat) : Int) < ((i + 1 : Nat) : Int); omega)) h⟩
    refine Wk.on ?_
    have e3 : i + 1 - i = 1 := by omega
    simp only [Option.getD_some, Option.getD_none, Int.toNat_natCast, Int.toNat_zero, Nat.sub_zero, Nat.zero_add, Nat.zero_mul, e3]
    refine ⟨⟨by first | rfl | trivial, by first | rfl | trivial, by simp only [List.length_append, List.length_take, List.length_drop]; show i * 2 ≤ _; omega⟩, ?_⟩
    refine Wk.on ?_
    exact Fin.nil [(0, .row 60 2 D)] ⟨rfl, rfl, rfl⟩ (Or.inl (by show 0 < 1; omega)) ⟨by show ABlk.row 60 2 _ = ABlk.row 60 2 D; rw [← hdc]; simp; rfl, trivial⟩ ⟨.inl (by show 0 < 1; omega), hDL, trivial⟩ rfl (by simp [GB])
theorem without_ok {g : Gm} (hg : g.game) {i : Nat} (hi : i < g.ws.length) : FDet Tryd.prog 37 [.g (gC g 0), .c (.int .i64 i)] [(0, wB g)] 1 (.t [.g (gR (lessG g i) 1), .c (.int .i64 0)]) [(1, .row 60 2 (ints (fl (lessG g i).ws)))] 2 := by
  have hl10 := hg.ok.len
  have hc := clone_spec (ws := g.ws) (by omega) hl10
  have hd := delete_spec g.ws hl10 i hi
  rw [← lessG_len hi] at hd
  change FDet Tryd.prog _ _ _ _ _ [(0, .row 60 2 (ints (fl (lessG g i).ws)))] _ at hd
  have h3 : (lessG g i).n = g.n ∧ (lessG g i).s = g.s ∧ (lessG g i).t = g.t := ⟨rfl, rfl, rfl⟩
  show FDet Tryd.prog _ _ _ _ (.t [.g [.int .i64 g.n, .int .i64 g.s, .int .i64 g.t, .row 1 (lessG g i).ws.length], .c (.int .i64 0)]) _ _
  generalize (lessG g i).ws = L at *
  refine FSpec.of_body tok true Tryd.func37 rfl (by kernel_rfl) (by decide) (by simp [tupA, hpLt, tmLt, AV.lt, AE.lt, AC.lt, LL_cons, LL_nil, idOk, ABlk.lt, ints_LL, GB, tab64_LL, gC, wB, giC, noneB, gst, tC, pC, gN, gR, rC, rB]) (by simp [tupA, hpLt, tmLt, AV.lt, AE.lt, AC.lt, LL_cons, LL_nil, idOk, ABlk.lt, ints_LL, GB, tab64_LL, gC, wB, giC, noneB, gst, tC, pC, gN, gR, rC, rB]) (by show 2 ≤ _; decide) ?_
  refine Wk.on ?_
  refine CallA.ro2 [0] (.c (.int .i64 0)) (openWire_ok hg hi) ?_
  refine Wk.on ?_
  refine Tr.draw (md := true) [⟨[], [16, 17, 18, 19, 20, 21, 22, 23, 24, 25, 26], [], [], [3]⟩, ⟨[0], [16, 17, 18, 19, 20, 21, 22, 23, 24, 25, 26], [], [], [3]⟩, ⟨[], [14, 15, 18, 19, 20, 21, 22, 23, 24, 25, 26], [0, 1], [], [3]⟩, ⟨[2], [14, 15, 18, 19, 20, 21, 22, 23, 24, 25, 26], [0, 1], [], [3]⟩, ⟨[], [14, 15, 16, 17, 20, 21, 22, 23, 24, 25, 26], [0, 1, 2, 3], [], [3]⟩, ⟨[4], [14, 15, 16, 17, 20, 21, 22, 23, 24, 25, 26], [0, 1, 2, 3], [], [3]⟩, ⟨[], [14, 15, 16, 17, 18, 19, 23, 24, 25], [0, 1, 2, 3, 4, 5], [], []⟩, ⟨[6], [14, 15, 16, 17, 18, 19, 23, 24, 25], [0, 1, 2, 3, 4, 5], [], []⟩, ⟨[6, 7], [14, 15, 16, 17, 18, 19, 23, 24, 25], [0, 1, 2, 3, 4, 5], [], []⟩, ⟨[], [14, 15, 16, 17, 18, 19, 20, 21, 22, 24, 25], [0, 1, 2, 3, 4, 5, 6, 7, 8], [], []⟩, ⟨[], [14, 15, 16, 17, 18, 19, 20, 21, 22, 23], [0, 1, 2, 3, 4, 5, 6, 7, 8, 9], [], []⟩, ⟨[10], [14, 15, 16, 17, 18, 19, 20, 21, 22, 23], [0, 1, 2, 3, 4, 5, 6, 7, 8, 9], [], []⟩, ⟨[6, 7, 8, 9, 10, 11], [14, 15, 16, 17, 18, 19], [0, 1, 2, 3, 4, 5], [3], []⟩] tok (by kernel_rfl) (by kernel_rfl) ?_
  refine Wk.on ?_
  refine CallQ.new [0] (.c (.row 3 g.ws.length)) ([(3, .row 60 2 (ints (fl g.ws)))]) (hc) (by first | rfl | exact congrArg AV.g (ints_ren _ _) | (simp [ints_ren, AV.ren, ABlk.ren, AC.ren, AE.ren, qq]; done)) rfl (by (repeat (first | exact trivial | refine ⟨⟨(by first | exact .inl (by decide) | exact .inr (by decide)), (by first | (refine Or.inl ?_; first | rfl | exact congrArg some (ints_ren _ _).symm | exact congrArg ABlk.own (ints_ren _ _).symm | exact congrArg some (tab64_ren _).symm | exact congrArg (ABlk.row _ _) (ints_ren _ _).symm) | rfl | exact congrArg some (ints_ren _ _).symm | exact congrArg ABlk.own (ints_ren _ _).symm | exact congrArg some (tab64_ren _).symm | exact congrArg (ABlk.row _ _) (ints_ren _ _).symm | exact Or.inr ⟨rfl, rfl⟩)⟩, ?_⟩))) (by first | rfl | exact congrArg AV.g (ints_ren _ _) | (simp [ints_ren, AV.ren, ABlk.ren, AC.ren, AE.ren, qq]; done)) (by first | rfl | (simp [behind, gone, lk, up, del, qq, ABlk.wr, GB, ints_ren, AV.ren, ABlk.ren, AC.ren, AE.ren]; done) | (simp [behind, gone, lk, up, del, qq, ABlk.wr, GB, ints_ren, AV.ren, ABlk.ren, AC.ren, AE.ren]; rfl)) ?_
  refine Wk.on ?_
  refine CallQ.turn [3] (.c (.row 3 L.length)) ([(3, .row 60 2 (ints (fl L)))]) (hd) (by first | rfl | exact congrArg AV.g (ints_ren _ _) | (simp [ints_ren, AV.ren, ABlk.ren, AC.ren, AE.ren, qq]; done)) rfl (by (repeat (first | exact trivial | refine ⟨⟨(by first | exact .inl (by decide) | exact .inr (by decide)), (by first | (refine Or.inl ?_; first | rfl | exact congrArg some (ints_ren _ _).symm | exact congrArg ABlk.own (ints_ren _ _).symm | exact congrArg some (tab64_ren _).symm | exact congrArg (ABlk.row _ _) (ints_ren _ _).symm) | rfl | exact congrArg some (ints_ren _ _).symm | exact congrArg ABlk.own (ints_ren _ _).symm | exact congrArg some (tab64_ren _).symm | exact congrArg (ABlk.row _ _) (ints_ren _ _).symm | exact Or.inr ⟨rfl, rfl⟩)⟩, ?_⟩))) (by first | rfl | exact congrArg AV.g (ints_ren _ _) | (simp [ints_ren, AV.ren, ABlk.ren, AC.ren, AE.ren, qq]; done)) (by first | rfl | (simp [qq, GB, ints_ren, AV.ren, ABlk.ren, AC.ren, AE.ren]; done) | (simp [qq, GB, ints_ren, AV.ren, ABlk.ren, AC.ren, AE.ren]; rfl)) ?_
  refine Wk.on ?_
  exact AH.Fin.new [3] _ _ ⟨rfl, rfl, rfl⟩ rfl ⟨by show some _ = some _; exact congrArg (fun l => some (ABlk.row 60 2 l)) (ints_ren _ _).symm, trivial⟩ rfl (by simp [tupA, hpLt, tmLt, AV.lt, AE.lt, AC.lt, LL_cons, LL_nil, idOk, ABlk.lt, ints_LL, GB, tab64_LL, gC, wB, giC, noneB, gst, tC, pC, gN, gR, rC, rB]) (by simp [tupA, hpLt, tmLt, AV.lt, AE.lt, AC.lt, LL_cons, LL_nil, idOk, ABlk.lt, ints_LL, GB, tab64_LL, gC, wB, giC, noneB, gst, tC, pC, gN, gR, rC, rB])
def zeroT : AV := .t [.g [.int .i64 0, .int .i64 0, .int .i64 0, .nils], .c (.int .i64 1)]
theorem without_bad {g : Gm} (hg : g.game) {n : Int} (h : n < 0 ∨ (g.ws.length : Int) ≤ n) : FDet Tryd.prog 37 [.g (gC g 0), .c (.int .i64 n)] [(0, wB g)] 1 zeroT [] 1 := by
  refine FSpec.of_body tok true Tryd.func37 rfl (by kernel_rfl) (by decide) (by simp [tupA, hpLt, tmLt, AV.lt, AE.lt, AC.lt, LL_cons, LL_nil, idOk, ABlk.lt, ints_LL, GB, tab64_LL, gC, wB, giC, noneB, gst, tC, pC, gN, gR, rC, rB]) (by simp [tupA, hpLt, tmLt, AV.lt, AE.lt, AC.lt, LL_cons, LL_nil, idOk, ABlk.lt, ints_LL, GB, tab64_LL, gC, wB, giC, noneB, gst, tC, pC, gN, gR, rC, rB]) (by show 2 ≤ _; decide) ?_
  refine Wk.on ?_
  refine CallA.ro2 [0] (.c (.int .i64 1)) (openWire_bad hg h) ?_
  refine Wk.on ?_
  exact AH.Fin.nil2 ⟨rfl, rfl, rfl⟩
/-! Games. -/
theorem Tm.sub {n : Nat} {l l' : List (Nat × Nat)} (h : Tm n l) (hs : l'.Sublist l) : Tm n l' := ⟨fun w hw => h.1 w (hs.subset hw), h.2.sublist hs⟩
end Go.Proofs.YtfphkpdobbffeaaDoor

/-
  Contracts: the reference's game without a wire; games copied and compared.
-/
namespace Go.Proofs.YtfphkpdobbffeaaDoor
open Go Go.AH
set_option maxRecDepth 100000
set_option maxHeartbeats 1000000

theorem flc_take (ws : List (Nat × Nat)) (k n : Nat) : ((ints (fl ws)).drop 0).take (k * 2) = ints (fl (ws.take k)) := by
  rw [List.drop_zero, fl_take]; simp [ints]
theorem own_nilN (g : Gm) : FDet Tryd.prog 81 [.g (gN g)] [] 0 (.g (gN g)) [] 0 := by
  refine FSpec.of_body tok true Tryd.func81 rfl (by kernel_rfl) (by decide) (by simp [tupA, hpLt, tmLt, AV.lt, AE.lt, AC.lt, LL_cons, LL_nil, idOk, ABlk.lt, ints_LL, GB, tab64_LL, gC, wB, giC, noneB, gst, tC, pC, gN, gR, rC, rB, tameH, tameR]) (by simp [tupA, hpLt, tmLt, AV.lt, AE.lt, AC.lt, LL_cons, LL_nil, idOk, ABlk.lt, ints_LL, GB, tab64_LL, gC, wB, giC, noneB, gst, tC, pC, gN, gR, rC, rB, tameH, tameR]) (by show 1 ≤ _; decide) ?_
  refine Wk.on ?_
  exact AH.Fin.nil [] ⟨rfl, rfl, rfl⟩ (by first | exact trivial | (simp [tupA, hpLt, tmLt, AV.lt, AE.lt, AC.lt, LL_cons, LL_nil, idOk, ABlk.lt, ints_LL, GB, tab64_LL, gC, wB, giC, noneB, gst, tC, pC, gN, gR, rC, rB, tameH, tameR]; done) | (simp [tupA, hpLt, tmLt, AV.lt, AE.lt, AC.lt, LL_cons, LL_nil, idOk, ABlk.lt, ints_LL, GB, tab64_LL, gC, wB, giC, noneB, gst, tC, pC, gN, gR, rC, rB, tameH, tameR, rdn, wrn]; done)) trivial trivial rfl (by simp [GB])
theorem own_rs {g : Gm} (h : 0 < g.ws.length) (hl10 : g.ws.length ≤ 10) : FDet Tryd.prog 81 [.g (gC g 0)] [(0, wB g)] 1 (.g (gC g 1)) [(1, .row 60 2 (ints (fl g.ws)))] 2 := by
  have hl : (ints (fl g.ws)).length = g.ws.length * 2 := by rw [ints_len, fl_len]
  have hm : (min (g.ws.length : Int) 11).toNat = g.ws.length := by omega
  have e1 := flc_take g.ws g.ws.length 0
  rw [List.take_length] at e1
  refine FDet.post (r := .g (gR g 1)) (hq := [(1, .row 60 2 (ints (fl g.ws)))]) (k' := 2) ?_ _ _ (.inr ⟨rfl, rfl, rfl, ⟨⟨rfl, rfl, rfl⟩, trivial⟩, trivial⟩) ⟨⟨⟨rfl, rfl⟩, .inl rfl⟩, trivial⟩ (gC_LL (.inl (by decide))) (by simp [tupA, hpLt, tmLt, AV.lt, AE.lt, AC.lt, LL_cons, LL_nil, idOk, ABlk.lt, ints_LL, GB, tab64_LL, gC, wB, giC, noneB, gst, tC, pC, gN, gR, rC, rB, tameH, tameR]) rfl
  show FDet _ _ _ _ _ _ _ _
  refine FSpec.of_body tok true Tryd.func81 rfl (by kernel_rfl) (by decide) (by simp [tupA, hpLt, tmLt, AV.lt, AE.lt, AC.lt, LL_cons, LL_nil, idOk, ABlk.lt, ints_LL, GB, tab64_LL, gC, wB, giC, noneB, gst, tC, pC, gN, gR, rC, rB, tameH, tameR]) (by simp [tupA, hpLt, tmLt, AV.lt, AE.lt, AC.lt, LL_cons, LL_nil, idOk, ABlk.lt, ints_LL, GB, tab64_LL, gC, wB, giC, noneB, gst, tC, pC, gN, gR, rC, rB, tameH, tameR]) (by show 1 ≤ _; decide) ?_
  refine Wk.on ?_
  simp only [Option.getD_some, Option.getD_none, Int.toNat_natCast, Int.toNat_zero, Nat.sub_zero, Nat.zero_add, Nat.zero_mul]
  rw [hm]
  refine ⟨⟨by omega, by omega, .inl (by omega)⟩, ?_⟩
  refine Wk.on ?_
  refine ⟨by rw [hl]; show 0 + _ * 2 ≤ _; omega, ?_⟩
  refine Wk.on ?_
  refine ⟨⟨Nat.le_of_ble_eq_true rfl, by show ((g.ws.length : Nat) : Int) * 16 ≤ _; omega, by omega⟩, fun h0 => by (exfalso; omega), fun h0 => ?_⟩
  refine Wk.on ?_
  exact AH.Fin.new [4] _ _ ⟨rfl, rfl, rfl⟩ rfl ⟨by show some _ = some (ABlk.row 60 2 ((ints _).map _)); rw [ints_ren]; exact congrArg (fun l => some (ABlk.row 60 2 l)) e1, trivial⟩ rfl (by simp [tupA, hpLt, tmLt, AV.lt, AE.lt, AC.lt, LL_cons, LL_nil, idOk, ABlk.lt, ints_LL, GB, tab64_LL, gC, wB, giC, noneB, gst, tC, pC, gN, gR, rC, rB, tameH, tameR]) (by simp [tupA, hpLt, tmLt, AV.lt, AE.lt, AC.lt, LL_cons, LL_nil, idOk, ABlk.lt, ints_LL, GB, tab64_LL, gC, wB, giC, noneB, gst, tC, pC, gN, gR, rC, rB, tameH, tameR])
theorem rdn_fl2 (V : List (Nat × Nat)) (i : Nat) : rdn (ints (fl V)) (i * 2) [.int .i64 0, .int .i64 0] = [.int .i64 ((V.getD i (0, 0)).1 : Nat), .int .i64 ((V.getD i (0, 0)).2 : Nat)] := by
  have := wgetW V i
  rw [Nat.zero_add] at this
  exact this
theorem sameR_nil (g : Gm) : FDet Tryd.prog 80 [.g (gN g), .g (gN g)] [] 0 (.c (.bool true)) [] 0 := by
  refine FSpec.of_body tok true Tryd.func80 rfl (by kernel_rfl) (by decide) (by simp [tupA, hpLt, tmLt, AV.lt, AE.lt, AC.lt, LL_cons, LL_nil, idOk, ABlk.lt, ints_LL, GB, tab64_LL, gC, wB, giC, noneB, gst, tC, pC, gN, gR, rC, rB, tameH, tameR]) (by simp [tupA, hpLt, tmLt, AV.lt, AE.lt, AC.lt, LL_cons, LL_nil, idOk, ABlk.lt, ints_LL, GB, tab64_LL, gC, wB, giC, noneB, gst, tC, pC, gN, gR, rC, rB, tameH, tameR]) (by show 2 ≤ _; decide) ?_
  refine Wk.on ?_
  rw [decide_eq_false (show ¬ (((g.n : Int) : Int) ≠ ((g.n : Int) : Int)) from fun h => h rfl)]
  refine Wk.on ?_
  rw [decide_eq_false (show ¬ (((g.s : Int) : Int) ≠ ((g.s : Int) : Int)) from fun h => h rfl)]
  refine Wk.on ?_
  rw [decide_eq_false (show ¬ (((g.t : Int) : Int) ≠ ((g.t : Int) : Int)) from fun h => h rfl)]
  refine Wk.on ?_
  refine Tr.loop (md := true) (X := Unit) (st := fun _ => ⟨[(2, .c (.ptr 0 0)), (3, .c (.ptr 1 0)), (5, .c (.int .i64 0))], [(1, .own (gN g)), (0, .own (gN g))], 2, 52, 0⟩) (inv := fun _ => True) (μ := fun _ => 0) (x0 := ()) (l := []) tok trivial ?_ ?_
  · exact Sub.nil ⟨rfl, rfl, (by simp [tab64_LL, gC, wB, giC, noneB, gst, tC, pC, gN, gR, rC, rB, tameH, tameR]), rfl, (by simp [tupA, hpLt, tmLt, AV.lt, AE.lt, AC.lt, LL_cons, LL_nil, idOk, ABlk.lt, ints_LL, GB, tab64_LL, gC, wB, giC, noneB, gst, tC, pC, gN, gR, rC, rB, tameH, tameR]), (by simp [tupA, hpLt, tmLt, AV.lt, AE.lt, AC.lt, LL_cons, LL_nil, idOk, ABlk.lt, ints_LL, GB, tab64_LL, gC, wB, giC, noneB, gst, tC, pC, gN, gR, rC, rB, tameH, tameR])⟩ (by (repeat (first | exact trivial | refine ⟨trivial, ?_⟩ | refine ⟨rfl, ?_⟩))) (by (repeat (first | exact trivial | refine ⟨trivial, ?_⟩ | refine ⟨rfl, ?_⟩)))
  · intro _ _
    refine Wk.on ?_
    exact AH.Fin.nil [] ⟨rfl, rfl, rfl⟩ (by first | exact trivial | (simp [tupA, hpLt, tmLt, AV.lt, AE.lt, AC.lt, LL_cons, LL_nil, idOk, ABlk.lt, ints_LL, GB, tab64_LL, gC, wB, giC, noneB, gst, tC, pC, gN, gR, rC, rB, tameH, tameR]; done) | (simp [tupA, hpLt, tmLt, AV.lt, AE.lt, AC.lt, LL_cons, LL_nil, idOk, ABlk.lt, ints_LL, GB, tab64_LL, gC, wB, giC, noneB, gst, tC, pC, gN, gR, rC, rB, tameH, tameR, rdn, wrn]; done)) trivial trivial rfl (by simp [GB])
theorem sameR_rs {g : Gm} (hg : g.ok) : FDet Tryd.prog 80 [.g (gC g 0), .g (gC g 1)] [(0, wB g), (1, wB g)] 2 (.c (.bool true)) [] 2 := by
  have hl : (ints (fl g.ws)).length = g.ws.length * 2 := by rw [ints_len, fl_len]
  have h8 := hg.n8
  have hl10 := hg.len
  refine FSpec.of_body tok true Tryd.func80 rfl (by kernel_rfl) (by decide) (by simp [tupA, hpLt, tmLt, AV.lt, AE.lt, AC.lt, LL_cons, LL_nil, idOk, ABlk.lt, ints_LL, GB, tab64_LL, gC, wB, giC, noneB, gst, tC, pC, gN, gR, rC, rB, tameH, tameR]) (by simp [tupA, hpLt, tmLt, AV.lt, AE.lt, AC.lt, LL_cons, LL_nil, idOk, ABlk.lt, ints_LL, GB, tab64_LL, gC, wB, giC, noneB, gst, tC, pC, gN, gR, rC, rB, tameH, tameR]) (by show 2 ≤ _; decide) ?_
  refine Wk.on ?_
  rw [decide_eq_false (show ¬ (((g.n : Int) : Int) ≠ ((g.n : Int) : Int)) from fun h => h rfl)]
  refine Wk.on ?_
  rw [decide_eq_false (show ¬ (((g.s : Int) : Int) ≠ ((g.s : Int) : Int)) from fun h => h rfl)]
  refine Wk.on ?_
  rw [decide_eq_false (show ¬ (((g.t : Int) : Int) ≠ ((g.t : Int) : Int)) from fun h => h rfl)]
  refine Wk.on ?_
  rw [decide_eq_false (show ¬ (((g.ws.length : Nat) : Int) ≠ ((g.ws.length : Nat) : Int)) from fun h => h rfl)]
  refine Wk.on ?_
  intro _
  refine Wk.on ?_
  refine Tr.loop (md := true) (X := Nat) (st := fun i => ⟨[(2, .c (.ptr 2 0)), (3, .c (.ptr 3 0)), (5, .c (.int .i64 i))], [(3, .own (gC g 1)), (2, .own (gC g 0)), (0, wB g), (1, wB g)], 4, 52, 2⟩) (inv := fun i => i ≤ g.ws.length) (μ := fun i => g.ws.length - i) (x0 := 0) (l := []) tok (Nat.zero_le _) ?_ ?_
  · exact Sub.nil ⟨rfl, rfl, (by simp [tab64_LL, gC, wB, giC, noneB, gst, tC, pC, gN, gR, rC, rB, tameH, tameR]), rfl, (by simp [tupA, hpLt, tmLt, AV.lt, AE.lt, AC.lt, LL_cons, LL_nil, idOk, ABlk.lt, ints_LL, GB, tab64_LL, gC, wB, giC, noneB, gst, tC, pC, gN, gR, rC, rB, tameH, tameR]), (by simp [tupA, hpLt, tmLt, AV.lt, AE.lt, AC.lt, LL_cons, LL_nil, idOk, ABlk.lt, ints_LL, GB, tab64_LL, gC, wB, giC, noneB, gst, tC, pC, gN, gR, rC, rB, tameH, tameR])⟩ (by (repeat (first | exact trivial | refine ⟨trivial, ?_⟩ | refine ⟨rfl, ?_⟩))) (by (repeat (first | exact trivial | refine ⟨trivial, ?_⟩ | refine ⟨rfl, ?_⟩)))
  · intro i hi
    by_cases hil : i < g.ws.length
    · have hr := rdn_fl2 g.ws i
      have hen := hg.ends i hil
      generalize g.ws.getD i (0, 0) = w at *
      refine Wk.on ?_
      rw [decide_eq_true (show ((i : Nat) : Int) < ((g.ws.length : Nat) : Int) by omega)]
      refine Wk.on ?_
      refine Tr.draw (md := true) [⟨[], [43, 46, 47, 48, 49, 50], [], [], []⟩, ⟨[0], [43, 46, 47, 48, 49, 50], [], [], []⟩, ⟨[], [41, 42, 46, 47, 48, 49, 50], [0, 1], [], []⟩, ⟨[0, 1, 2], [46, 47, 48, 49, 50], [], [], []⟩, ⟨[0, 1, 2, 3], [46, 47, 48, 49, 50], [], [], []⟩, ⟨[], [41, 42, 43, 44, 45, 48], [0, 1, 2, 3, 4], [], []⟩, ⟨[5], [41, 42, 43, 44, 45, 48], [0, 1, 2, 3, 4], [], []⟩, ⟨[], [41, 42, 43, 44, 45, 46, 47], [0, 1, 2, 3, 4, 5, 6], [], []⟩, ⟨[5, 6, 7], [41, 42, 43, 44, 45], [0, 1, 2, 3, 4], [], []⟩, ⟨[5, 6, 7, 8], [41, 42, 43, 44, 45], [0, 1, 2, 3, 4], [], []⟩] tok (by kernel_rfl) (by kernel_rfl) ?_
      refine Wk.on ?_
      refine ⟨⟨by rw [hl, Int.toNat_natCast]; show 0 + i * 2 + 2 ≤ _; omega, rfl⟩, ?_⟩
      rw [Int.toNat_natCast, Nat.zero_add]
      rw [show rdn (ints (fl g.ws)) (i * 2) [.int .i64 0, .int .i64 0] = _ from hr]
      refine Wk.on ?_
      refine ⟨⟨by rw [hl, Int.toNat_natCast]; show 0 + i * 2 + 2 ≤ _; omega, rfl⟩, ?_⟩
      rw [Int.toNat_natCast, Nat.zero_add]
      rw [show rdn (ints (fl g.ws)) (i * 2) [.int .i64 0, .int .i64 0] = _ from hr]
      refine Wk.on ?_
      refine ⟨⟨⟨ok1 (by omega) (by omega), ok1 (by omega) (by omega), trivial⟩, ⟨ok1 (by omega) (by omega), ok1 (by omega) (by omega), trivial⟩⟩, ?_⟩
      rw [show eqL [.int .i64 (w.1 : Nat), .int .i64 (w.2 : Nat)] [.int .i64 (w.1 : Nat), .int .i64 (w.2 : Nat)] = some true by
        show some (decide _ && (decide _ && true)) = some true
        rw [decide_eq_true rfl, decide_eq_true rfl]; rfl]
      refine Wk.on ?_
      refine Again.mk (i + 1) (Sub.nil ⟨rfl, rfl, (by simp [tab64_LL, gC, wB, giC, noneB, gst, tC, pC, gN, gR, rC, rB, tameH, tameR]), rfl, (by simp [tupA, hpLt, tmLt, AV.lt, AE.lt, AC.lt, LL_cons, LL_nil, idOk, ABlk.lt, ints_LL, GB, tab64_LL, gC, wB, giC, noneB, gst, tC, pC, gN, gR, rC, rB, tameH, tameR]), (by simp [tupA, hpLt, tmLt, AV.lt, AE.lt, AC.lt, LL_cons, LL_nil, idOk, ABlk.lt, ints_LL, GB, tab64_LL, gC, wB, giC, noneB, gst, tC, pC, gN, gR, rC, rB, tameH, tameR])⟩ (by (repeat (first | exact trivial | refine ⟨trivial, ?_⟩ | refine ⟨rfl, ?_⟩))) (by (repeat (first | exact trivial | refine ⟨trivial, ?_⟩ | refine ⟨rfl, ?_⟩)))) (by omega) (by omega)
    · refine Wk.on ?_
      rw [decide_eq_false (show ¬ ((i : Nat) : Int) < ((g.ws.length : Nat) : Int) by omega)]
      refine Wk.on ?_
      exact AH.Fin.nil [] ⟨rfl, rfl, rfl⟩ (by first | exact trivial | (simp [tupA, hpLt, tmLt, AV.lt, AE.lt, AC.lt, LL_cons, LL_nil, idOk, ABlk.lt, ints_LL, GB, tab64_LL, gC, wB, giC, noneB, gst, tC, pC, gN, gR, rC, rB, tameH, tameR]; done) | (simp [tupA, hpLt, tmLt, AV.lt, AE.lt, AC.lt, LL_cons, LL_nil, idOk, ABlk.lt, ints_LL, GB, tab64_LL, gC, wB, giC, noneB, gst, tC, pC, gN, gR, rC, rB, tameH, tameR, rdn, wrn]; done)) trivial trivial rfl (by simp [GB])
theorem gC_all {g : Gm} {id : Nat} {p : Nat → Prop} (h : p id) : LA p (gC g id) := by
  intro x hx
  simp only [gC, List.mem_cons, List.not_mem_nil, or_false] at hx
  rcases hx with rfl | rfl | rfl | rfl
  · trivial
  · trivial
  · trivial
  · exact h
theorem same_rs {g : Gm} (hg : g.ok) (h : 0 < g.ws.length) : FDet Tryd.prog 38 [.g (gC g 0), .g (gC g 1)] [(0, wB g), (1, wB g)] 2 (.c (.bool true)) [] 2 := by
  have hl10 := hg.len
  have ho := own_rs h hl10
  refine FSpec.of_body tok true Tryd.func38 rfl (by kernel_rfl) (by decide) (by simp [tupA, hpLt, tmLt, AV.lt, AE.lt, AC.lt, LL_cons, LL_nil, idOk, ABlk.lt, ints_LL, GB, tab64_LL, gC, wB, giC, noneB, gst, tC, pC, gN, gR, rC, rB, tameH, tameR]) (by simp [tupA, hpLt, tmLt, AV.lt, AE.lt, AC.lt, LL_cons, LL_nil, idOk, ABlk.lt, ints_LL, GB, tab64_LL, gC, wB, giC, noneB, gst, tC, pC, gN, gR, rC, rB, tameH, tameR]) (by show 2 ≤ _; decide) ?_
  refine Wk.on ?_
  refine Tr.draw (md := true) [⟨[], [], [], [], []⟩, ⟨[0], [], [], [], []⟩, ⟨[0, 1], [], [], [], []⟩, ⟨[0, 1, 2], [], [], [], []⟩, ⟨[0, 1, 2, 3], [], [], [], []⟩, ⟨[0, 1, 2, 3, 4], [12], [], [], []⟩, ⟨[0, 1, 2, 3, 4, 5], [12], [], [], []⟩, ⟨[0, 1, 2, 3, 4], [10, 11], [5, 6], [], []⟩] tok (by kernel_rfl) (by kernel_rfl) ?_
  refine Wk.on ?_
  rw [decide_eq_true (show ((g.ws.length : Nat) : Int) ≤ 10 by omega)]
  refine Wk.on ?_
  refine CallQ.new [0] (.g (gC g 4)) ([(4, .row 60 2 (ints (fl g.ws)))]) (ho) (by first | rfl | exact congrArg AV.g (ints_ren _ _) | (simp [ints_ren, AV.ren, ABlk.ren, AC.ren, AE.ren, qq]; done)) rfl (by (repeat (first | exact trivial | refine ⟨⟨(by first | exact .inl (by decide) | exact .inr (by decide)), (by first | (refine Or.inl ?_; first | rfl | exact congrArg some (ints_ren _ _).symm | exact congrArg ABlk.own (ints_ren _ _).symm | exact congrArg some (tab64_ren _).symm | exact congrArg (ABlk.row _ _) (ints_ren _ _).symm) | rfl | exact congrArg some (ints_ren _ _).symm | exact congrArg ABlk.own (ints_ren _ _).symm | exact congrArg some (tab64_ren _).symm | exact congrArg (ABlk.row _ _) (ints_ren _ _).symm | exact Or.inr ⟨rfl, rfl⟩)⟩, ?_⟩))) (by first | rfl | exact congrArg AV.g (ints_ren _ _) | (simp [ints_ren, AV.ren, ABlk.ren, AC.ren, AE.ren, qq]; done)) (by first | rfl | (simp [behind, gone, lk, up, del, qq, ABlk.wr, GB, ints_ren, AV.ren, ABlk.ren, AC.ren, AE.ren]; done) | (simp [behind, gone, lk, up, del, qq, ABlk.wr, GB, ints_ren, AV.ren, ABlk.ren, AC.ren, AE.ren]; rfl)) ?_
  refine Wk.on ?_
  refine ⟨⟨gC_all (g := g) (id := 1) (avB_sound (by rfl)), fun q hq => absurd hq List.not_mem_nil⟩, ?_⟩
  refine Wk.on ?_
  refine CallA.ro [4, 1] (.c (.bool true)) (sameR_rs hg) (by first | rfl | exact congrArg AV.g (ints_ren _ _) | (simp [ints_ren, AV.ren, ABlk.ren, AC.ren, AE.ren, qq]; done)) rfl (by (repeat (first | exact trivial | refine ⟨⟨(by first | exact .inl (by decide) | exact .inr (by decide)), (by first | (refine Or.inl ?_; first | rfl | exact congrArg some (ints_ren _ _).symm | exact congrArg ABlk.own (ints_ren _ _).symm | exact congrArg some (tab64_ren _).symm | exact congrArg (ABlk.row _ _) (ints_ren _ _).symm) | rfl | exact congrArg some (ints_ren _ _).symm | exact congrArg ABlk.own (ints_ren _ _).symm | exact congrArg some (tab64_ren _).symm | exact congrArg (ABlk.row _ _) (ints_ren _ _).symm | exact Or.inr ⟨rfl, rfl⟩)⟩, ?_⟩))) (by first | rfl | exact congrArg AV.g (ints_ren _ _) | (simp [ints_ren, AV.ren, ABlk.ren, AC.ren, AE.ren, qq]; done)) ?_
  refine Wk.on ?_
  exact AH.Fin.nil [] ⟨rfl, rfl, rfl⟩ (by first | exact trivial | (simp [tupA, hpLt, tmLt, AV.lt, AE.lt, AC.lt, LL_cons, LL_nil, idOk, ABlk.lt, ints_LL, GB, tab64_LL, gC, wB, giC, noneB, gst, tC, pC, gN, gR, rC, rB, tameH, tameR]; done) | (simp [tupA, hpLt, tmLt, AV.lt, AE.lt, AC.lt, LL_cons, LL_nil, idOk, ABlk.lt, ints_LL, GB, tab64_LL, gC, wB, giC, noneB, gst, tC, pC, gN, gR, rC, rB, tameH, tameR, rdn, wrn]; done)) trivial trivial rfl (by simp [GB])
theorem same_NN (g : Gm) : FDet Tryd.prog 38 [.g (gN g), .g (gN g)] [] 0 (.c (.bool true)) [] 0 := by
  refine FSpec.of_body tok true Tryd.func38 rfl (by kernel_rfl) (by decide) (by simp [tupA, hpLt, tmLt, AV.lt, AE.lt, AC.lt, LL_cons, LL_nil, idOk, ABlk.lt, ints_LL, GB, tab64_LL, gC, wB, giC, noneB, gst, tC, pC, gN, gR, rC, rB, tameH, tameR]) (by simp [tupA, hpLt, tmLt, AV.lt, AE.lt, AC.lt, LL_cons, LL_nil, idOk, ABlk.lt, ints_LL, GB, tab64_LL, gC, wB, giC, noneB, gst, tC, pC, gN, gR, rC, rB, tameH, tameR]) (by show 2 ≤ _; decide) ?_
  refine Wk.on ?_
  refine Tr.draw (md := true) [⟨[], [], [], [], []⟩, ⟨[0], [], [], [], []⟩, ⟨[0, 1], [], [], [], []⟩, ⟨[0, 1, 2], [], [], [], []⟩, ⟨[0, 1, 2, 3], [], [], [], []⟩, ⟨[0, 1, 2, 3, 4], [12], [], [], []⟩, ⟨[0, 1, 2, 3, 4, 5], [12], [], [], []⟩, ⟨[0, 1, 2, 3, 4], [10, 11], [5, 6], [], []⟩] tok (by kernel_rfl) (by kernel_rfl) ?_
  refine Wk.on ?_
  refine CallQ.ro [] (.g (gN g)) (own_nilN g) (by first | rfl | exact congrArg AV.g (ints_ren _ _) | (simp [ints_ren, AV.ren, ABlk.ren, AC.ren, AE.ren, qq]; done)) rfl (by (repeat (first | exact trivial | refine ⟨⟨(by first | exact .inl (by decide) | exact .inr (by decide)), (by first | (refine Or.inl ?_; first | rfl | exact congrArg some (ints_ren _ _).symm | exact congrArg ABlk.own (ints_ren _ _).symm | exact congrArg some (tab64_ren _).symm | exact congrArg (ABlk.row _ _) (ints_ren _ _).symm) | rfl | exact congrArg some (ints_ren _ _).symm | exact congrArg ABlk.own (ints_ren _ _).symm | exact congrArg some (tab64_ren _).symm | exact congrArg (ABlk.row _ _) (ints_ren _ _).symm | exact Or.inr ⟨rfl, rfl⟩)⟩, ?_⟩))) (by first | rfl | exact congrArg AV.g (ints_ren _ _) | (simp [ints_ren, AV.ren, ABlk.ren, AC.ren, AE.ren, qq]; done)) ?_
  refine Wk.on ?_
  refine CallA.ro [] (.c (.bool true)) (sameR_nil g) (by first | rfl | exact congrArg AV.g (ints_ren _ _) | (simp [ints_ren, AV.ren, ABlk.ren, AC.ren, AE.ren, qq]; done)) rfl (by (repeat (first | exact trivial | refine ⟨⟨(by first | exact .inl (by decide) | exact .inr (by decide)), (by first | (refine Or.inl ?_; first | rfl | exact congrArg some (ints_ren _ _).symm | exact congrArg ABlk.own (ints_ren _ _).symm | exact congrArg some (tab64_ren _).symm | exact congrArg (ABlk.row _ _) (ints_ren _ _).symm) | rfl | exact congrArg some (ints_ren _ _).symm | exact congrArg ABlk.own (ints_ren _ _).symm | exact congrArg some (tab64_ren _).symm | exact congrArg (ABlk.row _ _) (ints_ren _ _).symm | exact Or.inr ⟨rfl, rfl⟩)⟩, ?_⟩))) (by first | rfl | exact congrArg AV.g (ints_ren _ _) | (simp [ints_ren, AV.ren, ABlk.ren, AC.ren, AE.ren, qq]; done)) ?_
  refine Wk.on ?_
  exact AH.Fin.nil [] ⟨rfl, rfl, rfl⟩ (by first | exact trivial | (simp [tupA, hpLt, tmLt, AV.lt, AE.lt, AC.lt, LL_cons, LL_nil, idOk, ABlk.lt, ints_LL, GB, tab64_LL, gC, wB, giC, noneB, gst, tC, pC, gN, gR, rC, rB, tameH, tameR]; done) | (simp [tupA, hpLt, tmLt, AV.lt, AE.lt, AC.lt, LL_cons, LL_nil, idOk, ABlk.lt, ints_LL, GB, tab64_LL, gC, wB, giC, noneB, gst, tC, pC, gN, gR, rC, rB, tameH, tameR, rdn, wrn]; done)) trivial trivial rfl (by simp [GB])
end Go.Proofs.YtfphkpdobbffeaaDoor

/-
  Plain: what is a barrier, by the program and by the reference; what the search finds is one.
-/
namespace Go.Proofs.YtfphkpdobbffeaaDoor
open Go Go.AH Go.Wire
set_option maxRecDepth 100000
set_option maxHeartbeats 1000000

theorem or_tb (s a b : Nat) : (s ||| 2 ^ a).testBit b = (s.testBit b || decide (a = b)) := by
  rw [Nat.testBit_or, Nat.testBit_two_pow]
/-! The program's and the reference's answers are the same. -/
structure Rl (n s c : Nat) (u w : Nat → Nat) : Prop where
  b : ∀ a, a < n → (s.testBit a = true ↔ 0 < u a)
  l : s < 2 ^ n
  c : c = (List.range n).countP fun a => decide (0 < u a)
  w : ∀ a, a < n → 0 < u a → u a = w a + 1
theorem Rl.put {n s c i a : Nat} {u w : Nat → Nat} (h : Rl n s c u w) (ha : a < n) (h0 : ¬ 0 < u a) : Rl n (s ||| 2 ^ a) (c + 1) (updW u a (i + 1)) (updW w a i) where
  b := fun b hb => by
    rw [or_tb, Bool.or_eq_true, decide_eq_true_eq, h.b b hb, updW]
    by_cases e : b = a
    · subst e; simp
    · rw [if_neg e]
      exact ⟨fun k => k.resolve_right fun k => e k.symm, .inl⟩
  l := or_lt h.l ((Nat.pow_lt_pow_iff_right (by omega)).2 ha)
  c := by
    have h1 := cnt_rm (fun b => decide (0 < updW u a (i + 1) b)) a (by simp [updW]) n
    rw [if_pos ha] at h1
    rw [← h1, h.c]
    congr 1
    refine List.countP_congr fun b _ => ?_
    rw [Bool.and_eq_true, decide_eq_true_eq, decide_eq_true_eq, decide_eq_true_eq, updW]
    by_cases e : b = a
    · subst e; simp; omega
    · rw [if_neg e]; exact ⟨fun k => ⟨k, e⟩, fun k => k.1⟩
  w := fun b hb h1 => by
    rw [updW] at h1 ⊢
    rw [updW]
    by_cases e : b = a
    · rw [if_pos e, if_pos e]
    · rw [if_neg e] at h1 ⊢; rw [if_neg e]; exact h.w b hb h1
/-! What the search finds is a barrier. -/
end Go.Proofs.YtfphkpdobbffeaaDoor

/-
  The law SwitchPositions, as a contract.
-/
namespace Go.Proofs.YtfphkpdobbffeaaDoor
open Go Go.AH
set_option maxRecDepth 100000
set_option maxHeartbeats 1000000

end Go.Proofs.YtfphkpdobbffeaaDoor

/-
  Contracts: who wins by the reference, with what is known as a law.
-/
namespace Go.Proofs.YtfphkpdobbffeaaDoor
open Go Go.AH
set_option maxRecDepth 100000
set_option maxHeartbeats 1000000

end Go.Proofs.YtfphkpdobbffeaaDoor

/-
  Contracts: a list of wires as a set, by the program and by the reference.
-/
namespace Go.Proofs.YtfphkpdobbffeaaDoor
open Go Go.AH
set_option maxRecDepth 100000
set_option maxHeartbeats 1000000

def risTo (n : Nat) (L : List Int) : Nat → Bool
  | 0 => true
  | i + 1 => risTo n L i && (decide (0 ≤ L.getD i 0) && (decide (L.getD i 0 < n) && (decide (i = 0) || decide (L.getD (i - 1) 0 < L.getD i 0))))
theorem risTo_succ (n : Nat) (L : List Int) (i : Nat) : risTo n L (i + 1) = true ↔ risTo n L i = true ∧ 0 ≤ L.getD i 0 ∧ L.getD i 0 < n ∧ (i = 0 ∨ L.getD (i - 1) 0 < L.getD i 0) := by
  simp [risTo]
def setToL (L : List Int) : Nat → Nat
  | 0 => 0
  | i + 1 => setToL L i ||| 2 ^ (L.getD i 0).toNat
end Go.Proofs.YtfphkpdobbffeaaDoor

/-
  Contracts: the places of a set, by the reference.
-/
namespace Go.Proofs.YtfphkpdobbffeaaDoor
open Go Go.AH
set_option maxRecDepth 100000
set_option maxHeartbeats 1000000

def placesTo (g : Gm) (a : Nat) (i : Nat) : Nat := (((List.range i).filter a.testBit).map Int.ofNat).foldl (placesF g) 0
theorem placesTo_succ (g : Gm) (a i : Nat) : placesTo g a (i + 1) = if a.testBit i then placesF g (placesTo g a i) (i : Int) else placesTo g a i := by
  simp only [placesTo, List.range_succ, List.filter_append, List.map_append, List.foldl_append]
  cases h : a.testBit i <;> simp [h, List.filter_cons]
theorem placesTo_lt {g : Gm} (hg : g.ok) (a i : Nat) (hi : i ≤ g.ws.length) : placesTo g a i < 2 ^ 8 :=
  placesN_lt hg _ fun y hy => by
    obtain ⟨j, hj, rfl⟩ := List.mem_map.1 hy
    have := List.mem_range.1 (List.mem_filter.1 hj).1
    show j < _
    omega
theorem places_eq {g : Gm} (hg : g.ok) {a : Nat} (ha : a < 2 ^ g.ws.length) : placesN g a = placesTo g a g.ws.length := by
  rw [placesN, placesTo, mem, memN, range_filter _ 10 hg.len fun i hi => by
    cases h : a.testBit i with
    | false => rfl
    | true => have := lt_len ha h; omega]
theorem placesR_spec {g : Gm} (hg : g.ok) {n : Nat} (hn : n < 2 ^ g.ws.length) : FDet Tryd.prog 68 [.g (gC g 0), .c (.int .i64 n)] [(0, wB g)] 1 (.c (.int .i64 (placesN g n))) [] 1 := by
  have hgl := hg.len
  rw [places_eq hg hn]
  refine FSpec.of_body tok true Tryd.func68 rfl (by kernel_rfl) (by decide) (by simp [tupA, hpLt, tmLt, AV.lt, AE.lt, AC.lt, LL_cons, LL_nil, idOk, ABlk.lt, ints_LL, GB, tab64_LL, gC, wB, giC, noneB, gst, tC, pC]) (by simp [tupA, hpLt, tmLt, AV.lt, AE.lt, AC.lt, LL_cons, LL_nil, idOk, ABlk.lt, ints_LL, GB, tab64_LL, gC, wB, giC, noneB, gst, tC, pC]) (by show 2 ≤ _; decide) ?_
  (conv => whnf); (repeat ((first | (refine ⟨rfl, ?_⟩) | (refine ⟨trivial, ?_⟩) | (refine Wk.yes ?_) | (refine Wk.no ?_) | (refine Wk.and ?_) | (refine ⟨by exact ⟨shr_nonneg _ _, by decide⟩, ?_⟩) | (refine ⟨by exact ⟨shr_nonneg' _ _, by decide⟩, ?_⟩)); (conv => whnf)))
  refine Tr.loop (md := true) (X := Nat) (st := fun i => ⟨[(1, .c (.int .i64 n)), (2, .c (.ptr 1 0)), (5, .c (.int .i64 (placesTo g n i))), (6, .c (.int .i64 i))], [(1, .own (gC g 0)), (0, wB g)], 2, 37, 1⟩) (inv := fun i => i ≤ g.ws.length) (μ := fun i => g.ws.length - i) (x0 := 0) (l := []) tok (Nat.zero_le _) ?_ ?_
  · exact Sub.nil ⟨rfl, rfl, (by simp [tab64_LL, gC, wB, giC, noneB, gst, tC, pC]), rfl, (by simp [tupA, hpLt, tmLt, AV.lt, AE.lt, AC.lt, LL_cons, LL_nil, idOk, ABlk.lt, ints_LL, GB, tab64_LL, gC, wB, giC, noneB, gst, tC, pC]), (by simp [tupA, hpLt, tmLt, AV.lt, AE.lt, AC.lt, LL_cons, LL_nil, idOk, ABlk.lt, ints_LL, GB, tab64_LL, gC, wB, giC, noneB, gst, tC, pC])⟩ (by (repeat (first | exact trivial | refine ⟨trivial, ?_⟩ | refine ⟨rfl, ?_⟩))) (by (repeat (first | exact trivial | refine ⟨trivial, ?_⟩ | refine ⟨rfl, ?_⟩)))
  · intro i hi
    have hpl := placesTo_lt hg n i hi
    by_cases hil : i < g.ws.length
    · have hps := placesTo_succ g n i
      (conv => whnf); (repeat ((first | (refine ⟨rfl, ?_⟩) | (refine ⟨trivial, ?_⟩) | (refine Wk.yes ?_) | (refine Wk.no ?_) | (refine Wk.and ?_) | (refine ⟨by exact ⟨shr_nonneg _ _, by decide⟩, ?_⟩) | (refine ⟨by exact ⟨shr_nonneg' _ _, by decide⟩, ?_⟩)); (conv => whnf)))
      rw [decide_eq_true (show ((i : Nat) : Int) < ((g.ws.length : Nat) : Int) by omega)]
      (conv => whnf); (repeat ((first | (refine ⟨rfl, ?_⟩) | (refine ⟨trivial, ?_⟩) | (refine Wk.yes ?_) | (refine Wk.no ?_) | (refine Wk.and ?_) | (refine ⟨by exact ⟨shr_nonneg _ _, by decide⟩, ?_⟩) | (refine ⟨by exact ⟨shr_nonneg' _ _, by decide⟩, ?_⟩)); (conv => whnf)))
      rw [bitE]
      by_cases b1 : n.testBit i = true
      · have b2 := (bit_test n i).2 b1
        rw [if_pos b1, placesF, Int.toNat_natCast] at hps
        rw [decide_eq_true (show ((bit n i : Nat) : Int) = 1 by omega)]
        have he := hg.ends i hil
        have h8 := hg.n8
        obtain ⟨w1, hw1⟩ : ∃ w, w = (g.ws.getD i (0, 0)).1 := ⟨_, rfl⟩
        obtain ⟨w2, hw2⟩ : ∃ w, w = (g.ws.getD i (0, 0)).2 := ⟨_, rfl⟩
        obtain ⟨q1, hq1⟩ : ∃ q, q = 2 ^ w1 := ⟨_, rfl⟩
        obtain ⟨q2, hq2⟩ : ∃ q, q = 2 ^ w2 := ⟨_, rfl⟩
        have p1 : q1 < 2 ^ 8 := by rw [hq1]; exact (Nat.pow_lt_pow_iff_right (by omega)).2 (by omega)
        have p2 : q2 < 2 ^ 8 := by rw [hq2]; exact (Nat.pow_lt_pow_iff_right (by omega)).2 (by omega)
        have h12 := or_lt hpl p1
        obtain ⟨q3, hq3⟩ : ∃ q, q = placesTo g n i ||| q1 := ⟨_, rfl⟩
        rw [← hq3] at h12
        rw [← hw1, ← hw2, ← hq1, ← hq2, ← Nat.or_assoc, ← hq3] at hps
        have hlen : 0 + (i : Int).toNat * 2 + Int.toNat 0 * 1 + 1 ≤ (ints (fl g.ws)).length ∧ 0 + (i : Int).toNat * 2 + Int.toNat 1 * 1 + 1 ≤ (ints (fl g.ws)).length := by
          rw [ints_len, fl_len]; simp; omega
        have g0 : (ints (fl g.ws)).getD (0 + (i : Int).toNat * 2 + Int.toNat 0 * 1) (.int .i64 0) = .int .i64 (w1 : Nat) := by rw [Int.toNat_natCast, wget0, hw1]
        have g1 : (ints (fl g.ws)).getD (0 + (i : Int).toNat * 2 + Int.toNat 1 * 1) (.int .i64 0) = .int .i64 (w2 : Nat) := by rw [Int.toNat_natCast, wget1, hw2]
        (conv => whnf); (repeat ((first | (refine ⟨rfl, ?_⟩) | (refine ⟨trivial, ?_⟩) | (refine Wk.yes ?_) | (refine Wk.no ?_) | (refine Wk.and ?_) | (refine ⟨by exact ⟨shr_nonneg _ _, by decide⟩, ?_⟩) | (refine ⟨by exact ⟨shr_nonneg' _ _, by decide⟩, ?_⟩)); (conv => whnf)))
        refine Tr.draw (md := true) [⟨[], [20, 21, 22, 23, 24, 25, 26, 28, 29, 30, 31, 32, 33, 34], [], [], []⟩, ⟨[], [19, 22, 28, 29, 30, 31, 32, 33, 34], [0], [], []⟩, ⟨[1], [19, 22, 28, 29, 30, 31, 32, 33, 34], [0], [], []⟩, ⟨[], [19, 20, 21, 28, 29, 30, 31, 32, 33, 34], [0, 1, 2], [], []⟩, ⟨[1, 2, 3], [19, 28, 29, 30, 31, 32, 33, 34], [0], [], []⟩, ⟨[1, 2, 3, 4], [19, 28, 29, 30, 31, 32, 33, 34], [0], [], []⟩, ⟨[1, 2, 3, 4, 5], [19, 28, 29, 30, 31, 32, 33, 34], [0], [], []⟩, ⟨[1, 2, 3, 4, 5, 6], [19, 28, 29, 30, 31, 32, 33, 34], [0], [], []⟩, ⟨[0, 1, 2, 3, 4, 5, 6, 7], [28, 29, 30, 31, 32, 33, 34], [], [], []⟩, ⟨[], [19, 20, 21, 22, 23, 24, 25, 26, 27, 30], [0, 1, 2, 3, 4, 5, 6, 7, 8], [], []⟩, ⟨[9], [19, 20, 21, 22, 23, 24, 25, 26, 27, 30], [0, 1, 2, 3, 4, 5, 6, 7, 8], [], []⟩, ⟨[], [19, 20, 21, 22, 23, 24, 25, 26, 27, 28, 29], [0, 1, 2, 3, 4, 5, 6, 7, 8, 9, 10], [], []⟩, ⟨[9, 10, 11], [19, 20, 21, 22, 23, 24, 25, 26, 27], [0, 1, 2, 3, 4, 5, 6, 7, 8], [], []⟩, ⟨[9, 10, 11, 12], [19, 20, 21, 22, 23, 24, 25, 26, 27], [0, 1, 2, 3, 4, 5, 6, 7, 8], [], []⟩, ⟨[9, 10, 11, 12, 13], [19, 20, 21, 22, 23, 24, 25, 26, 27], [0, 1, 2, 3, 4, 5, 6, 7, 8], [], []⟩, ⟨[9, 10, 11, 12, 13, 14], [19, 20, 21, 22, 23, 24, 25, 26, 27], [0, 1, 2, 3, 4, 5, 6, 7, 8], [], []⟩] tok (by kernel_rfl) (by kernel_rfl) ?_
        (conv => whnf); (repeat ((first | (refine ⟨rfl, ?_⟩) | (refine ⟨trivial, ?_⟩) | (refine Wk.yes ?_) | (refine Wk.no ?_) | (refine Wk.and ?_) | (refine ⟨by exact ⟨shr_nonneg _ _, by decide⟩, ?_⟩) | (refine ⟨by exact ⟨shr_nonneg' _ _, by decide⟩, ?_⟩)); (conv => whnf)))
        rw [g0]
        (conv => whnf); (repeat ((first | (refine ⟨rfl, ?_⟩) | (refine ⟨trivial, ?_⟩) | (refine Wk.yes ?_) | (refine Wk.no ?_) | (refine Wk.and ?_) | (refine ⟨by exact ⟨shr_nonneg _ _, by decide⟩, ?_⟩) | (refine ⟨by exact ⟨shr_nonneg' _ _, by decide⟩, ?_⟩)); (conv => whnf)))
        refine ⟨⟨by omega, by omega, by rw [shl1 hq1]; unfold I64; omega⟩, ?_⟩
        rw [shl1 hq1]
        (conv => whnf); (repeat ((first | (refine ⟨rfl, ?_⟩) | (refine ⟨trivial, ?_⟩) | (refine Wk.yes ?_) | (refine Wk.no ?_) | (refine Wk.and ?_) | (refine ⟨by exact ⟨shr_nonneg _ _, by decide⟩, ?_⟩) | (refine ⟨by exact ⟨shr_nonneg' _ _, by decide⟩, ?_⟩)); (conv => whnf)))
        simp only [Int.toNat_natCast, ← hq3]
        rw [wget1, ← hw2]
        (conv => whnf); (repeat ((first | (refine ⟨rfl, ?_⟩) | (refine ⟨trivial, ?_⟩) | (refine Wk.yes ?_) | (refine Wk.no ?_) | (refine Wk.and ?_) | (refine ⟨by exact ⟨shr_nonneg _ _, by decide⟩, ?_⟩) | (refine ⟨by exact ⟨shr_nonneg' _ _, by decide⟩, ?_⟩)); (conv => whnf)))
        refine ⟨⟨by omega, by omega, by rw [shl1 hq2]; unfold I64; omega⟩, ?_⟩
        rw [shl1 hq2]
        (conv => whnf); (repeat ((first | (refine ⟨rfl, ?_⟩) | (refine ⟨trivial, ?_⟩) | (refine Wk.yes ?_) | (refine Wk.no ?_) | (refine Wk.and ?_) | (refine ⟨by exact ⟨shr_nonneg _ _, by decide⟩, ?_⟩) | (refine ⟨by exact ⟨shr_nonneg' _ _, by decide⟩, ?_⟩)); (conv => whnf)))
        refine Again.mk (i + 1) (Sub.nil ⟨rfl, rfl, (by simp [tab64_LL, gC, wB, giC, noneB, gst, tC, pC]), rfl, (by simp [tupA, hpLt, tmLt, AV.lt, AE.lt, AC.lt, LL_cons, LL_nil, idOk, ABlk.lt, ints_LL, GB, tab64_LL, gC, wB, giC, noneB, gst, tC, pC]), (by simp [tupA, hpLt, tmLt, AV.lt, AE.lt, AC.lt, LL_cons, LL_nil, idOk, ABlk.lt, ints_LL, GB, tab64_LL, gC, wB, giC, noneB, gst, tC, pC])⟩ ⟨rfl, rfl, by rw [hps]; rfl, rfl, trivial⟩ (by (repeat (first | exact trivial | refine ⟨trivial, ?_⟩ | refine ⟨rfl, ?_⟩)))) (by omega) (by omega)
      · have b2 : ¬ bit n i = 1 := fun h => b1 ((bit_test n i).1 h)
        rw [if_neg b1] at hps
        rw [decide_eq_false (show ¬ ((bit n i : Nat) : Int) = 1 by omega)]
        (conv => whnf); (repeat ((first | (refine ⟨rfl, ?_⟩) | (refine ⟨trivial, ?_⟩) | (refine Wk.yes ?_) | (refine Wk.no ?_) | (refine Wk.and ?_) | (refine ⟨by exact ⟨shr_nonneg _ _, by decide⟩, ?_⟩) | (refine ⟨by exact ⟨shr_nonneg' _ _, by decide⟩, ?_⟩)); (conv => whnf)))
        refine Again.mk (i + 1) (Sub.nil ⟨rfl, rfl, (by simp [tab64_LL, gC, wB, giC, noneB, gst, tC, pC]), rfl, (by simp [tupA, hpLt, tmLt, AV.lt, AE.lt, AC.lt, LL_cons, LL_nil, idOk, ABlk.lt, ints_LL, GB, tab64_LL, gC, wB, giC, noneB, gst, tC, pC]), (by simp [tupA, hpLt, tmLt, AV.lt, AE.lt, AC.lt, LL_cons, LL_nil, idOk, ABlk.lt, ints_LL, GB, tab64_LL, gC, wB, giC, noneB, gst, tC, pC])⟩ ⟨rfl, rfl, by rw [hps]; rfl, rfl, trivial⟩ (by (repeat (first | exact trivial | refine ⟨trivial, ?_⟩ | refine ⟨rfl, ?_⟩)))) (by omega) (by omega)
    · obtain rfl : i = g.ws.length := by omega
      (conv => whnf); (repeat ((first | (refine ⟨rfl, ?_⟩) | (refine ⟨trivial, ?_⟩) | (refine Wk.yes ?_) | (refine Wk.no ?_) | (refine Wk.and ?_) | (refine ⟨by exact ⟨shr_nonneg _ _, by decide⟩, ?_⟩) | (refine ⟨by exact ⟨shr_nonneg' _ _, by decide⟩, ?_⟩)); (conv => whnf)))
      rw [decide_eq_false (show ¬ ((g.ws.length : Nat) : Int) < ((g.ws.length : Nat) : Int) by omega)]
      intro _
      (conv => whnf); (repeat ((first | (refine ⟨rfl, ?_⟩) | (refine ⟨trivial, ?_⟩) | (refine Wk.yes ?_) | (refine Wk.no ?_) | (refine Wk.and ?_) | (refine ⟨by exact ⟨shr_nonneg _ _, by decide⟩, ?_⟩) | (refine ⟨by exact ⟨shr_nonneg' _ _, by decide⟩, ?_⟩)); (conv => whnf)))
      exact AH.Fin.nil [] ⟨rfl, rfl, rfl⟩ (by first | exact trivial | (simp [tupA, hpLt, tmLt, AV.lt, AE.lt, AC.lt, LL_cons, LL_nil, idOk, ABlk.lt, ints_LL, GB, tab64_LL, gC, wB, giC, noneB, gst, tC, pC]; done) | (simp [tupA, hpLt, tmLt, AV.lt, AE.lt, AC.lt, LL_cons, LL_nil, idOk, ABlk.lt, ints_LL, GB, tab64_LL, gC, wB, giC, noneB, gst, tC, pC, rdn, wrn]; done)) trivial trivial rfl (by simp [GB])
end Go.Proofs.YtfphkpdobbffeaaDoor

/-
  Contracts: two lists as two trees, by the reference.
-/
namespace Go.Proofs.YtfphkpdobbffeaaDoor
open Go Go.AH
set_option maxRecDepth 100000
set_option maxHeartbeats 1000000

def setV (n : Nat) (L : List Int) : Nat := cond (risTo n L L.length) (setToL L L.length) 0
def setOk (n : Nat) (L : List Int) : Bool := risTo n L L.length
end Go.Proofs.YtfphkpdobbffeaaDoor

/-
  Contracts: two lists as two trees, and the reply, by the program.
-/
namespace Go.Proofs.YtfphkpdobbffeaaDoor
open Go Go.AH
set_option maxRecDepth 100000
set_option maxHeartbeats 1000000

def areB (g : Gm) (x y : Bool) (a b : Nat) : Bool := x && (y && (decide (a &&& b = 0) && (decide (placesN g a &&& endsN g = endsN g) && (isTreeB g a (placesN g a) && isTreeB g b (placesN g a)))))
end Go.Proofs.YtfphkpdobbffeaaDoor

/-
  Contract: the reply to a cut wire, by the program.
-/
namespace Go.Proofs.YtfphkpdobbffeaaDoor
open Go Go.AH
set_option maxRecDepth 100000
set_option maxHeartbeats 1000000

def mends (g : Gm) (own cut : Nat) (i : Int) : Bool := isTreeB g (offN own cut ||| 2 ^ i.toNat) (placesN g own)
end Go.Proofs.YtfphkpdobbffeaaDoor

/-
  Plain law: the reply mends; two trees as lists.
-/
namespace Go.Proofs.YtfphkpdobbffeaaDoor
open Go Go.AH
set_option maxRecDepth 100000
set_option maxHeartbeats 1000000

theorem risTo_mono {n : Nat} {L : List Int} (hl : ∀ y ∈ L, y < n) : ∀ i, i ≤ L.length → risTo 10 L i = true → risTo n L i = true
  | 0, _, _ => rfl
  | i + 1, hi, h => by
    obtain ⟨h1, h2, _, h4⟩ := (risTo_succ 10 L i).1 h
    refine (risTo_succ n L i).2 ⟨risTo_mono hl i (by omega) h1, h2, hl _ ?_, h4⟩
    rw [List.getD_eq_getElem?_getD, List.getElem?_eq_getElem (show i < L.length by omega)]
    exact List.getElem_mem _
theorem mem_set10 : ∀ a, a < 1024 → risTo 10 (mem a) (mem a).length = true ∧ setToL (mem a) (mem a).length = a := by decide +kernel
theorem mem_set {n a : Nat} (hn : n ≤ 10) (ha : a < 2 ^ n) : setOk n (mem a) = true ∧ setV n (mem a) = a := by
  have hp : 2 ^ n ≤ 1024 := Nat.pow_le_pow_right (by omega) hn
  obtain ⟨h1, h2⟩ := mem_set10 a (by omega)
  have h3 : risTo n (mem a) (mem a).length = true := risTo_mono (fun y hy => by have := mem_lt hn ha hy; omega) _ (Nat.le_refl _) h1
  exact ⟨h3, by rw [setV, h3]; exact h2⟩
end Go.Proofs.YtfphkpdobbffeaaDoor

/-
  The law SwitchLehman, as a contract.
-/
namespace Go.Proofs.YtfphkpdobbffeaaDoor
open Go Go.AH
set_option maxRecDepth 100000
set_option maxHeartbeats 1000000

theorem Gm.game.ends {g : Gm} (h : g.game) : g.s ≠ g.t := by
  have h1 := h.1
  unfold bad0 at h1
  omega
theorem TreesL_none {g : Gm} (hg : g.game) (h : treesF g (alT g) = none) : FDet Tryd.prog 25 [.g (gC g 0)] [(0, wB g), (100002, .ro tab64), (100000, noneB)] 1 (.t [.g [.nils, .nils], .c (.bool false), .c (.int .i64 0)]) [] 1 := by
  have := Trees_spec hg
  rw [h] at this
  exact this
theorem TreesL_some {g : Gm} (hg : g.game) {a b : Nat} (h : treesF g (alT g) = some (a, b)) : FDet Tryd.prog 25 [.g (gC g 0)] [(0, wB g), (100002, .ro tab64), (100000, noneB)] 1 (.t [.g [.rs 1 0 (mem a).length, .rs 2 0 (mem b).length], .c (.bool true), .c (.int .i64 0)]) [(1, .row 3 1 (ints (mem a))), (2, .row 3 1 (ints (mem b)))] 3 := by
  have := Trees_spec hg
  rw [h] at this
  exact FDet.post this _ _ ⟨.inr ⟨⟨⟨rfl, rfl, rfl⟩, trivial⟩, ⟨⟨rfl, rfl, rfl⟩, trivial⟩, trivial⟩, rfl, rfl, trivial⟩ ⟨⟨⟨rfl, rfl⟩, .inl rfl⟩, ⟨⟨rfl, rfl⟩, .inl rfl⟩, trivial⟩ (by simp [tupA, hpLt, tmLt, AV.lt, AE.lt, AC.lt, LL_cons, LL_nil, idOk, ABlk.lt, ints_LL, GB, tab64_LL, gC, wB, giC, noneB, gst, tC, pC, gN, gR, rC, rB, treesK, treesH, treesR]) (by simp [tupA, hpLt, tmLt, AV.lt, AE.lt, AC.lt, LL_cons, LL_nil, idOk, ABlk.lt, ints_LL, GB, tab64_LL, gC, wB, giC, noneB, gst, tC, pC, gN, gR, rC, rB, treesK, treesH, treesR]) rfl
theorem nilW3 {g : Gm} (h : g.ws = []) {fn : FuncId} {args : List AV} {r : AV} {k' : Nat} (h1 : FDet Tryd.prog fn (.g (gC g 0) :: args) [(0, wB g), (100002, .ro tab64), (100000, noneB)] 1 r [] k')
    (hw : wkVs [(0, .ro []), (100002, .ro tab64), (100000, noneB)] args args) (ha : ∀ v ∈ args, v.all (· ≠ 0)) (hr : r.all (· ≠ 0)) : FDet Tryd.prog fn (.g (gN g) :: args) [(100002, .ro tab64), (100000, noneB)] 1 r [] k' := by
  rw [show wB g = .ro [] by rw [wB, h]; rfl] at h1
  refine FDet.nil0 h1 _ 100002 tab64 rfl ⟨.inr ⟨rfl, rfl, rfl, by show g.ws.length = 0; rw [h]; rfl, trivial⟩, hw⟩ ?_ ?_ hr
  · intro v hv
    rcases List.mem_cons.1 hv with rfl | hv
    · exact gN_all g _ _ (by simp)
    · exact ha v hv
  · intro p hp
    simp only [List.mem_cons, List.not_mem_nil, or_false] at hp
    rcases hp with rfl | rfl
    · exact ⟨by decide, tab_all _⟩
    · refine ⟨by decide, fun x hx => ?_⟩
      simp only [List.mem_cons, List.not_mem_nil, or_false] at hx
      rcases hx with rfl | rfl <;> trivial
theorem trees_nil {g : Gm} (hg : g.game) (h : g.ws = []) (hT : treesF g (alT g) = none) : FDet Tryd.prog 25 [.g (gN g)] [(100002, .ro tab64), (100000, noneB)] 1 (.t [.g [.nils, .nils], .c (.bool false), .c (.int .i64 0)]) [] 1 :=
  nilW3 h (TreesL_none hg hT) trivial (fun v hv => by cases hv) (by intro e he; simp at he; rcases he with rfl | rfl | rfl <;> first | trivial | (intro x hx; simp at hx; subst hx; trivial))
theorem nil_trees {g : Gm} (hg : g.ok) (h : g.ws = []) : treesF g (alT g) = none := by
  cases hT : treesF g (alT g) with
  | none => rfl
  | some p =>
    obtain ⟨a, b⟩ := p
    obtain ⟨h1, h2, h3, _⟩ := treesF_lt hg.len hT
    rw [h] at h3
    have h3 : b < 1 := h3
    omega
end Go.Proofs.YtfphkpdobbffeaaDoor

/-
  Contracts: Spanning, Barrier, IsTrees, as the laws want them.
-/
namespace Go.Proofs.YtfphkpdobbffeaaDoor
open Go Go.AH Go.Wire
set_option maxRecDepth 100000
set_option maxHeartbeats 1000000

/-! What two trees on all places are. -/
structure Spn (g : Gm) (a b : Nat) : Prop where
  la : a < 2 ^ g.ws.length
  lb : b < 2 ^ g.ws.length
  ne : a ≠ b
  ta : isTreeB g a (2 ^ g.n - 1) = true
  tb : isTreeB g b (2 ^ g.n - 1) = true
  pa : placesN g a = 2 ^ g.n - 1
  dj : a &&& b = 0
  a0 : a ≠ 0
  lt : a < b
theorem spn {g : Gm} (hg : g.ok) {a b : Nat} (h : treesF g (alS g) = some (a, b)) : Spn g a b := by
  obtain ⟨h1, h2, h3, h4, h5, h6, h7⟩ := treesF_lt hg.len h
  rw [alS, decide_eq_true_eq] at h4
  rw [h4] at h5 h7
  exact ⟨by omega, h3, by omega, h5, h7, h4, h6, by omega, h2⟩
theorem Spn.ends {g : Gm} (hg : g.ok) {a b : Nat} (h : Spn g a b) : alT g (placesN g a) = true := by
  rw [alT, decide_eq_true_eq, endsN, ends_iff, h.pa, Nat.testBit_two_pow_sub_one, Nat.testBit_two_pow_sub_one]
  exact ⟨decide_eq_true hg.s, decide_eq_true hg.t⟩
theorem Spn.trees {g : Gm} (hg : g.ok) {a b : Nat} (h : Spn g a b) : treesF g (alT g) ≠ none := fun hn => by
  have h1 := firstFrom_none hn a (Nat.zero_le _) (by have := h.la; omega)
  rw [okA, if_neg (by rw [h.ends hg, h.pa, h.ta]; simp [h.a0])] at h1
  have h3 := firstFrom_none h1 b h.lt (by have := h.lb; omega)
  rw [okB, if_pos ⟨h.dj, by rw [h.pa]; exact h.tb⟩] at h3
  cases h3
theorem Spn.are {g : Gm} (hg : g.ok) {a b : Nat} (h : Spn g a b) : areB g (setOk g.ws.length (mem a)) (setOk g.ws.length (mem b)) (setV g.ws.length (mem a)) (setV g.ws.length (mem b)) = true := by
  obtain ⟨a1, a2⟩ := mem_set hg.len h.la
  obtain ⟨b1, b2⟩ := mem_set hg.len h.lb
  have he := h.ends hg
  rw [alT, decide_eq_true_eq] at he
  rw [a1, a2, b1, b2, areB, decide_eq_true h.dj, decide_eq_true he, h.pa, h.ta, h.tb]
  rfl
theorem Spn.len {g : Gm} (hg : g.ok) {a b : Nat} (h : Spn g a b) : (mem a).length + 1 = g.n := by
  have := ((tree_full hg h.la).1 h.ta).2
  rw [← this]
  simp [mem]
theorem nil_spans {g : Gm} (hg : g.ok) (h : g.ws = []) : treesF g (alS g) = none := by
  cases hT : treesF g (alS g) with
  | none => rfl
  | some p =>
    obtain ⟨a, b⟩ := p
    have h1 := spn hg hT
    have h3 := h1.lb
    have h4 := h1.lt
    rw [h] at h3
    have h3 : b < 1 := h3
    omega
end Go.Proofs.YtfphkpdobbffeaaDoor

/-
  Contract: the reference's HasTrees.
-/
namespace Go.Proofs.YtfphkpdobbffeaaDoor
open Go Go.AH Go.Wire
set_option maxRecDepth 100000
set_option maxHeartbeats 2000000

def alX (g : Gm) (sp : Bool) : Nat → Bool := if sp then alS g else alT g
def okF (g : Gm) (sp : Bool) (a : Nat) : Prop := bit (placesN g a) g.s = 1 ∧ bit (placesN g a) g.t = 1 ∧ (sp = true → placesN g a = 2 ^ g.n - 1) ∧ treeR g a (placesN g a) = true
def okS (g : Gm) (a b : Nat) : Prop := a &&& b = 0 ∧ pop b = pop a ∧ treeR g b (placesN g a) = true
theorem alX_iff {g : Gm} (hg : g.ok) (sp : Bool) (pl : Nat) : alX g sp pl = true ↔ pl.testBit g.s = true ∧ pl.testBit g.t = true ∧ (sp = true → pl = 2 ^ g.n - 1) := by
  cases sp
  · show alT g pl = true ↔ _
    rw [alT, decide_eq_true_eq, endsN, ends_iff]
    exact ⟨fun h => ⟨h.1, h.2, fun k => by cases k⟩, fun h => ⟨h.1, h.2.1⟩⟩
  · show alS g pl = true ↔ _
    rw [alS, decide_eq_true_eq]
    constructor
    · intro h
      rw [h, Nat.testBit_two_pow_sub_one, Nat.testBit_two_pow_sub_one]
      exact ⟨decide_eq_true hg.s, decide_eq_true hg.t, fun _ => rfl⟩
    · intro h; exact h.2.2 rfl
theorem isT_parts {g : Gm} {b pl : Nat} (h : isTreeB g b pl = true) : placesN g b = pl ∧ (pop b : Int) = pop pl - 1 := by
  rw [isTreeB, Bool.and_eq_true, Bool.and_eq_true, decide_eq_true_eq, decide_eq_true_eq] at h
  exact h.1
theorem has_iff {g : Gm} (hg : g.ok) (hst : g.s ≠ g.t) (sp : Bool) : (∃ a b, 1 ≤ b ∧ b < a ∧ a < 2 ^ g.ws.length ∧ okF g sp a ∧ okS g a b) ↔ treesF g (alX g sp) ≠ none := by
  constructor
  · rintro ⟨a, b, hb1, hba, ha, ⟨f1, f2, f3, f4⟩, s1, s2, s3⟩ hn
    have e1 := (bit_test _ _).1 f1
    have e2 := (bit_test _ _).1 f2
    have hpl := places_ltn hg ha
    have hp2 := pop_two (placesN_lt8 hg ha) hst e1 e2
    rw [← tree_pl hg ha hpl hp2] at f4
    rw [← tree_pl hg (b := b) (by omega) hpl hp2] at s3
    obtain ⟨p1, p2⟩ := isT_parts s3
    have hal : alX g sp (placesN g b) = true := by rw [p1]; exact (alX_iff hg sp _).2 ⟨e1, e2, f3⟩
    have h1 := firstFrom_none hn b (Nat.zero_le _) (by omega)
    rw [okA, if_neg (by rw [hal, p1, s3]; simp; omega)] at h1
    have h3 := firstFrom_none h1 a (by omega) (by omega)
    rw [okB, if_pos ⟨by rw [Nat.and_comm]; exact s1, by rw [p1]; exact f4⟩] at h3
    cases h3
  · intro hn
    obtain ⟨p, hp⟩ := Option.ne_none_iff_exists'.1 hn
    obtain ⟨a, b⟩ := p
    obtain ⟨h1, h2, h3, h4, h5, h6, h7⟩ := treesF_lt hg.len hp
    obtain ⟨e1, e2, e3⟩ := (alX_iff hg sp _).1 h4
    have ha : a < 2 ^ g.ws.length := by omega
    have hpl := places_ltn hg ha
    have hp2 := pop_two (placesN_lt8 hg ha) hst e1 e2
    obtain ⟨p1, p2⟩ := isT_parts h7
    obtain ⟨_, p3⟩ := isT_parts h5
    rw [tree_pl hg ha hpl hp2] at h5
    rw [tree_pl hg h3 hpl hp2] at h7
    refine ⟨b, a, by omega, h2, h3, ?_, ?_⟩
    · unfold okF
      rw [p1]
      exact ⟨(bit_test _ _).2 e1, (bit_test _ _).2 e2, e3, h7⟩
    · unfold okS
      rw [p1]
      exact ⟨by rw [Nat.and_comm]; exact h6, by omega, h5⟩
theorem hasT_spec {g : Gm} (hg : g.ok) (hst : g.s ≠ g.t) : FDet Tryd.prog 28 [.g (gC g 0), .c (.bool false)] [(0, wB g)] 1 (.c (.bool (decide (treesF g (alT g) ≠ none)))) [] 1 := by
  have hgl := hg.len
  have hs8 := hg.s
  have ht8 := hg.t
  have hn8 := hg.n8
  have hi := has_iff hg hst false
  have hX : treesF g (alX g false) = treesF g (alT g) := rfl
  rw [hX] at hi
  obtain ⟨N, hN⟩ : ∃ N, N = 2 ^ g.ws.length := ⟨_, rfl⟩
  have hN0 := pow_pos2 g.ws.length
  have hN1 : N ≤ 1024 := by rw [hN]; exact Nat.pow_le_pow_right (by omega) hgl
  rw [← hN] at hi hN0
  refine FSpec.of_body tok true Tryd.func28 rfl (by kernel_rfl) (by decide) (by simp [tupA, hpLt, tmLt, AV.lt, AE.lt, AC.lt, LL_cons, LL_nil, idOk, ABlk.lt, ints_LL, GB, tab64_LL, gC, wB, giC, noneB]) (by simp [tupA, hpLt, tmLt, AV.lt, AE.lt, AC.lt, LL_cons, LL_nil, idOk, ABlk.lt, ints_LL, GB, tab64_LL, gC, wB, giC, noneB]) (by show 2 ≤ _; decide) ?_
  (conv => whnf); (repeat ((first | (refine ⟨rfl, ?_⟩) | (refine ⟨trivial, ?_⟩) | (refine Wk.yes ?_) | (refine Wk.no ?_) | (refine Wk.and ?_) | (refine ⟨by exact ⟨shr_nonneg _ _, by decide⟩, ?_⟩) | (refine ⟨by exact ⟨shr_nonneg' _ _, by decide⟩, ?_⟩)); (conv => whnf)))
  refine Tr.loop (md := true) (X := Nat) (st := fun a => ⟨[(1, .c (.bool false)), (2, .c (.ptr 1 0)), (5, .c (.int .i64 a))], [(1, .own (gC g 0)), (0, wB g)], 2, 73, 1⟩) (inv := fun a => 1 ≤ a ∧ a ≤ N ∧ ∀ x y, 1 ≤ y → y < x → x < a → okF g false x → ¬ okS g x y) (μ := fun a => N - a) (x0 := 1) (l := []) tok ⟨by omega, by omega, fun x y h1 h2 h3 => absurd h1 (by omega)⟩ ?_ ?_
  · exact Sub.nil ⟨rfl, rfl, (by simp [tab64_LL, gC, wB, giC, noneB]), rfl, (by simp [tupA, hpLt, tmLt, AV.lt, AE.lt, AC.lt, LL_cons, LL_nil, idOk, ABlk.lt, ints_LL, GB, tab64_LL, gC, wB, giC, noneB]), (by simp [tupA, hpLt, tmLt, AV.lt, AE.lt, AC.lt, LL_cons, LL_nil, idOk, ABlk.lt, ints_LL, GB, tab64_LL, gC, wB, giC, noneB])⟩ (by (repeat (first | exact trivial | refine ⟨trivial, ?_⟩ | refine ⟨rfl, ?_⟩))) (by (repeat (first | exact trivial | refine ⟨trivial, ?_⟩ | refine ⟨rfl, ?_⟩)))
  · rintro a ⟨h1, h2, h3⟩
    (conv => whnf); (repeat ((first | (refine ⟨rfl, ?_⟩) | (refine ⟨trivial, ?_⟩) | (refine Wk.yes ?_) | (refine Wk.no ?_) | (refine Wk.and ?_) | (refine ⟨by exact ⟨shr_nonneg _ _, by decide⟩, ?_⟩) | (refine ⟨by exact ⟨shr_nonneg' _ _, by decide⟩, ?_⟩)); (conv => whnf)))
    refine ⟨⟨by omega, by omega, by rw [shl1 hN]; unfold I64; omega⟩, ?_⟩
    rw [shl1 hN]
    (conv => whnf); (repeat ((first | (refine ⟨rfl, ?_⟩) | (refine ⟨trivial, ?_⟩) | (refine Wk.yes ?_) | (refine Wk.no ?_) | (refine Wk.and ?_) | (refine ⟨by exact ⟨shr_nonneg _ _, by decide⟩, ?_⟩) | (refine ⟨by exact ⟨shr_nonneg' _ _, by decide⟩, ?_⟩)); (conv => whnf)))
    by_cases ha : a < N
    · rw [decide_eq_true (show ((a : Nat) : Int) < ((N : Nat) : Int) by omega)]
      have haL : a < 2 ^ g.ws.length := by rw [← hN]; exact ha
      have hpl := places_ltn hg haL
      have hpl8 := placesN_lt8 hg haL
      have hpR := placesR_spec hg haL
      have hta := tree_spec hg (set := a) (pl := placesN g a) (by omega) (by omega)
      have c1 := bit_01 (placesN g a) g.s
      have c2 := bit_01 (placesN g a) g.t
      have hskip : ¬ okF g false a → ∀ x y, 1 ≤ y → y < x → x < a + 1 → okF g false x → ¬ okS g x y := fun hno x y q1 q2 q3 q4 => by
        by_cases e : x = a
        · subst e; exact absurd q4 hno
        · exact h3 x y q1 q2 (by omega) q4
      (conv => whnf); (repeat ((first | (refine ⟨rfl, ?_⟩) | (refine ⟨trivial, ?_⟩) | (refine Wk.yes ?_) | (refine Wk.no ?_) | (refine Wk.and ?_) | (refine ⟨by exact ⟨shr_nonneg _ _, by decide⟩, ?_⟩) | (refine ⟨by exact ⟨shr_nonneg' _ _, by decide⟩, ?_⟩)); (conv => whnf)))
      refine CallA.ro2 [0] (.c (.int .i64 (placesN g a))) (hpR) ?_
      (conv => whnf); (repeat ((first | (refine ⟨rfl, ?_⟩) | (refine ⟨trivial, ?_⟩) | (refine Wk.yes ?_) | (refine Wk.no ?_) | (refine Wk.and ?_) | (refine ⟨by exact ⟨shr_nonneg _ _, by decide⟩, ?_⟩) | (refine ⟨by exact ⟨shr_nonneg' _ _, by decide⟩, ?_⟩)); (conv => whnf)))
      rw [bitE]
      by_cases d1 : bit (placesN g a) g.s = 1
      rotate_left
      · have hnext := hskip (fun k => d1 k.1)
        rw [decide_eq_true (show ((bit (placesN g a) g.s : Nat) : Int) = 0 by omega)]
        (conv => whnf); (repeat ((first | (refine ⟨rfl, ?_⟩) | (refine ⟨trivial, ?_⟩) | (refine Wk.yes ?_) | (refine Wk.no ?_) | (refine Wk.and ?_) | (refine ⟨by exact ⟨shr_nonneg _ _, by decide⟩, ?_⟩) | (refine ⟨by exact ⟨shr_nonneg' _ _, by decide⟩, ?_⟩)); (conv => whnf)))
        refine Again.mk (a + 1) (Sub.nil ⟨rfl, rfl, (by simp [tab64_LL, gC, wB, giC, noneB]), rfl, (by simp [tupA, hpLt, tmLt, AV.lt, AE.lt, AC.lt, LL_cons, LL_nil, idOk, ABlk.lt, ints_LL, GB, tab64_LL, gC, wB, giC, noneB]), (by simp [tupA, hpLt, tmLt, AV.lt, AE.lt, AC.lt, LL_cons, LL_nil, idOk, ABlk.lt, ints_LL, GB, tab64_LL, gC, wB, giC, noneB])⟩ (by (repeat (first | exact trivial | refine ⟨trivial, ?_⟩ | refine ⟨rfl, ?_⟩))) (by (repeat (first | exact trivial | refine ⟨trivial, ?_⟩ | refine ⟨rfl, ?_⟩)))) (⟨by omega, by omega, hnext⟩) (by omega)
      rw [decide_eq_false (show ¬ ((bit (placesN g a) g.s : Nat) : Int) = 0 by omega)]
      (conv => whnf); (repeat ((first | (refine ⟨rfl, ?_⟩) | (refine ⟨trivial, ?_⟩) | (refine Wk.yes ?_) | (refine Wk.no ?_) | (refine Wk.and ?_) | (refine ⟨by exact ⟨shr_nonneg _ _, by decide⟩, ?_⟩) | (refine ⟨by exact ⟨shr_nonneg' _ _, by decide⟩, ?_⟩)); (conv => whnf)))
      rw [bitE]
      by_cases d2 : bit (placesN g a) g.t = 1
      rotate_left
      · have hnext := hskip (fun k => d2 k.2.1)
        rw [decide_eq_true (show ((bit (placesN g a) g.t : Nat) : Int) = 0 by omega)]
        (conv => whnf); (repeat ((first | (refine ⟨rfl, ?_⟩) | (refine ⟨trivial, ?_⟩) | (refine Wk.yes ?_) | (refine Wk.no ?_) | (refine Wk.and ?_) | (refine ⟨by exact ⟨shr_nonneg _ _, by decide⟩, ?_⟩) | (refine ⟨by exact ⟨shr_nonneg' _ _, by decide⟩, ?_⟩)); (conv => whnf)))
        refine Again.mk (a + 1) (Sub.nil ⟨rfl, rfl, (by simp [tab64_LL, gC, wB, giC, noneB]), rfl, (by simp [tupA, hpLt, tmLt, AV.lt, AE.lt, AC.lt, LL_cons, LL_nil, idOk, ABlk.lt, ints_LL, GB, tab64_LL, gC, wB, giC, noneB]), (by simp [tupA, hpLt, tmLt, AV.lt, AE.lt, AC.lt, LL_cons, LL_nil, idOk, ABlk.lt, ints_LL, GB, tab64_LL, gC, wB, giC, noneB])⟩ (by (repeat (first | exact trivial | refine ⟨trivial, ?_⟩ | refine ⟨rfl, ?_⟩))) (by (repeat (first | exact trivial | refine ⟨trivial, ?_⟩ | refine ⟨rfl, ?_⟩)))) (⟨by omega, by omega, hnext⟩) (by omega)
      rw [decide_eq_false (show ¬ ((bit (placesN g a) g.t : Nat) : Int) = 0 by omega)]
      (conv => whnf); (repeat ((first | (refine ⟨rfl, ?_⟩) | (refine ⟨trivial, ?_⟩) | (refine Wk.yes ?_) | (refine Wk.no ?_) | (refine Wk.and ?_) | (refine ⟨by exact ⟨shr_nonneg _ _, by decide⟩, ?_⟩) | (refine ⟨by exact ⟨shr_nonneg' _ _, by decide⟩, ?_⟩)); (conv => whnf)))
      have d3 : false = true → placesN g a = 2 ^ g.n - 1 := fun k => by cases k
      cases d4 : treeR g a (placesN g a) with
      | false =>
        have hnext := hskip (fun k => by rw [k.2.2.2] at d4; cases d4)
        rw [d4] at hta
        refine CallA.ro2 [0] (.c (.bool false)) (hta) ?_
        (conv => whnf); (repeat ((first | (refine ⟨rfl, ?_⟩) | (refine ⟨trivial, ?_⟩) | (refine Wk.yes ?_) | (refine Wk.no ?_) | (refine Wk.and ?_) | (refine ⟨by exact ⟨shr_nonneg _ _, by decide⟩, ?_⟩) | (refine ⟨by exact ⟨shr_nonneg' _ _, by decide⟩, ?_⟩)); (conv => whnf)))
        refine Again.mk (a + 1) (Sub.nil ⟨rfl, rfl, (by simp [tab64_LL, gC, wB, giC, noneB]), rfl, (by simp [tupA, hpLt, tmLt, AV.lt, AE.lt, AC.lt, LL_cons, LL_nil, idOk, ABlk.lt, ints_LL, GB, tab64_LL, gC, wB, giC, noneB]), (by simp [tupA, hpLt, tmLt, AV.lt, AE.lt, AC.lt, LL_cons, LL_nil, idOk, ABlk.lt, ints_LL, GB, tab64_LL, gC, wB, giC, noneB])⟩ (by (repeat (first | exact trivial | refine ⟨trivial, ?_⟩ | refine ⟨rfl, ?_⟩))) (by (repeat (first | exact trivial | refine ⟨trivial, ?_⟩ | refine ⟨rfl, ?_⟩)))) (⟨by omega, by omega, hnext⟩) (by omega)
      | true =>
        have hF : okF g false a := ⟨d1, d2, d3, d4⟩
        rw [d4] at hta
        refine CallA.ro2 [0] (.c (.bool true)) (hta) ?_
        (conv => whnf); (repeat ((first | (refine ⟨rfl, ?_⟩) | (refine ⟨trivial, ?_⟩) | (refine Wk.yes ?_) | (refine Wk.no ?_) | (refine Wk.and ?_) | (refine ⟨by exact ⟨shr_nonneg _ _, by decide⟩, ?_⟩) | (refine ⟨by exact ⟨shr_nonneg' _ _, by decide⟩, ?_⟩)); (conv => whnf)))
        refine Tr.loop (md := true) (X := Nat) (st := fun b => ⟨[(1, .c (.bool false)), (2, .c (.ptr 1 0)), (5, .c (.int .i64 a)), (6, .c (.int .i64 (placesN g a))), (7, .c (.int .i64 b))], [(1, .own (gC g 0)), (0, wB g)], 2, 73, 1⟩) (inv := fun b => 1 ≤ b ∧ b ≤ a ∧ ∀ y, 1 ≤ y → y < b → ¬ okS g a y) (μ := fun b => a - b) (x0 := 1) (l := []) tok ⟨by omega, by omega, fun y k1 k2 => absurd k1 (by omega)⟩ ?_ ?_
        · exact Sub.nil ⟨rfl, rfl, (by simp [tab64_LL, gC, wB, giC, noneB]), rfl, (by simp [tupA, hpLt, tmLt, AV.lt, AE.lt, AC.lt, LL_cons, LL_nil, idOk, ABlk.lt, ints_LL, GB, tab64_LL, gC, wB, giC, noneB]), (by simp [tupA, hpLt, tmLt, AV.lt, AE.lt, AC.lt, LL_cons, LL_nil, idOk, ABlk.lt, ints_LL, GB, tab64_LL, gC, wB, giC, noneB])⟩ (by (repeat (first | exact trivial | refine ⟨trivial, ?_⟩ | refine ⟨rfl, ?_⟩))) (by (repeat (first | exact trivial | refine ⟨trivial, ?_⟩ | refine ⟨rfl, ?_⟩)))
        · rintro b ⟨g1, g2, g3⟩
          by_cases hb : b < a
          · have hpa := pop_le a (by omega)
            have hpb := pop_le b (by omega)
            have hza := size_spec (n := a) (by omega)
            have hzb := size_spec (n := b) (by omega)
            have htb := tree_spec hg (set := b) (pl := placesN g a) (by omega) (by omega)
            have hgo : ¬ okS g a b → ∀ y, 1 ≤ y → y < b + 1 → ¬ okS g a y := fun hno y k1 k2 => by
              by_cases e : y = b
              · subst e; exact hno
              · exact g3 y k1 (by omega)
            (conv => whnf); (repeat ((first | (refine ⟨rfl, ?_⟩) | (refine ⟨trivial, ?_⟩) | (refine Wk.yes ?_) | (refine Wk.no ?_) | (refine Wk.and ?_) | (refine ⟨by exact ⟨shr_nonneg _ _, by decide⟩, ?_⟩) | (refine ⟨by exact ⟨shr_nonneg' _ _, by decide⟩, ?_⟩)); (conv => whnf)))
            rw [decide_eq_true (show ((b : Nat) : Int) < ((a : Nat) : Int) by omega)]
            (conv => whnf); (repeat ((first | (refine ⟨rfl, ?_⟩) | (refine ⟨trivial, ?_⟩) | (refine Wk.yes ?_) | (refine Wk.no ?_) | (refine Wk.and ?_) | (refine ⟨by exact ⟨shr_nonneg _ _, by decide⟩, ?_⟩) | (refine ⟨by exact ⟨shr_nonneg' _ _, by decide⟩, ?_⟩)); (conv => whnf)))
            simp only [Int.toNat_natCast]
            by_cases e1 : a &&& b = 0
            rotate_left
            · have hnext := hgo (fun k => e1 k.1)
              rw [decide_eq_false (show ¬ ((a &&& b : Nat) : Int) = 0 by omega)]
              (conv => whnf); (repeat ((first | (refine ⟨rfl, ?_⟩) | (refine ⟨trivial, ?_⟩) | (refine Wk.yes ?_) | (refine Wk.no ?_) | (refine Wk.and ?_) | (refine ⟨by exact ⟨shr_nonneg _ _, by decide⟩, ?_⟩) | (refine ⟨by exact ⟨shr_nonneg' _ _, by decide⟩, ?_⟩)); (conv => whnf)))
              refine Again.mk (b + 1) (Sub.nil ⟨rfl, rfl, (by simp [tab64_LL, gC, wB, giC, noneB]), rfl, (by simp [tupA, hpLt, tmLt, AV.lt, AE.lt, AC.lt, LL_cons, LL_nil, idOk, ABlk.lt, ints_LL, GB, tab64_LL, gC, wB, giC, noneB]), (by simp [tupA, hpLt, tmLt, AV.lt, AE.lt, AC.lt, LL_cons, LL_nil, idOk, ABlk.lt, ints_LL, GB, tab64_LL, gC, wB, giC, noneB])⟩ (by (repeat (first | exact trivial | refine ⟨trivial, ?_⟩ | refine ⟨rfl, ?_⟩))) (by (repeat (first | exact trivial | refine ⟨trivial, ?_⟩ | refine ⟨rfl, ?_⟩)))) (⟨by omega, by omega, hnext⟩) (by omega)
            rw [decide_eq_true (show ((a &&& b : Nat) : Int) = 0 by omega)]
            (conv => whnf); (repeat ((first | (refine ⟨rfl, ?_⟩) | (refine ⟨trivial, ?_⟩) | (refine Wk.yes ?_) | (refine Wk.no ?_) | (refine Wk.and ?_) | (refine ⟨by exact ⟨shr_nonneg _ _, by decide⟩, ?_⟩) | (refine ⟨by exact ⟨shr_nonneg' _ _, by decide⟩, ?_⟩)); (conv => whnf)))
            refine CallA.ro2 [] (.c (.int .i64 (pop b))) (hzb) ?_
            (conv => whnf); (repeat ((first | (refine ⟨rfl, ?_⟩) | (refine ⟨trivial, ?_⟩) | (refine Wk.yes ?_) | (refine Wk.no ?_) | (refine Wk.and ?_) | (refine ⟨by exact ⟨shr_nonneg _ _, by decide⟩, ?_⟩) | (refine ⟨by exact ⟨shr_nonneg' _ _, by decide⟩, ?_⟩)); (conv => whnf)))
            refine CallA.ro2 [] (.c (.int .i64 (pop a))) (hza) ?_
            (conv => whnf); (repeat ((first | (refine ⟨rfl, ?_⟩) | (refine ⟨trivial, ?_⟩) | (refine Wk.yes ?_) | (refine Wk.no ?_) | (refine Wk.and ?_) | (refine ⟨by exact ⟨shr_nonneg _ _, by decide⟩, ?_⟩) | (refine ⟨by exact ⟨shr_nonneg' _ _, by decide⟩, ?_⟩)); (conv => whnf)))
            by_cases e2 : pop b = pop a
            rotate_left
            · have hnext := hgo (fun k => e2 k.2.1)
              rw [decide_eq_false (show ¬ ((pop b : Nat) : Int) = ((pop a : Nat) : Int) by omega)]
              (conv => whnf); (repeat ((first | (refine ⟨rfl, ?_⟩) | (refine ⟨trivial, ?_⟩) | (refine Wk.yes ?_) | (refine Wk.no ?_) | (refine Wk.and ?_) | (refine ⟨by exact ⟨shr_nonneg _ _, by decide⟩, ?_⟩) | (refine ⟨by exact ⟨shr_nonneg' _ _, by decide⟩, ?_⟩)); (conv => whnf)))
              refine Again.mk (b + 1) (Sub.nil ⟨rfl, rfl, (by simp [tab64_LL, gC, wB, giC, noneB]), rfl, (by simp [tupA, hpLt, tmLt, AV.lt, AE.lt, AC.lt, LL_cons, LL_nil, idOk, ABlk.lt, ints_LL, GB, tab64_LL, gC, wB, giC, noneB]), (by simp [tupA, hpLt, tmLt, AV.lt, AE.lt, AC.lt, LL_cons, LL_nil, idOk, ABlk.lt, ints_LL, GB, tab64_LL, gC, wB, giC, noneB])⟩ (by (repeat (first | exact trivial | refine ⟨trivial, ?_⟩ | refine ⟨rfl, ?_⟩))) (by (repeat (first | exact trivial | refine ⟨trivial, ?_⟩ | refine ⟨rfl, ?_⟩)))) (⟨by omega, by omega, hnext⟩) (by omega)
            rw [decide_eq_true (show ((pop b : Nat) : Int) = ((pop a : Nat) : Int) by omega)]
            (conv => whnf); (repeat ((first | (refine ⟨rfl, ?_⟩) | (refine ⟨trivial, ?_⟩) | (refine Wk.yes ?_) | (refine Wk.no ?_) | (refine Wk.and ?_) | (refine ⟨by exact ⟨shr_nonneg _ _, by decide⟩, ?_⟩) | (refine ⟨by exact ⟨shr_nonneg' _ _, by decide⟩, ?_⟩)); (conv => whnf)))
            cases e3 : treeR g b (placesN g a) with
            | false =>
              have hnext := hgo (fun k => by rw [k.2.2] at e3; cases e3)
              rw [e3] at htb
              refine CallA.ro2 [0] (.c (.bool false)) (htb) ?_
              (conv => whnf); (repeat ((first | (refine ⟨rfl, ?_⟩) | (refine ⟨trivial, ?_⟩) | (refine Wk.yes ?_) | (refine Wk.no ?_) | (refine Wk.and ?_) | (refine ⟨by exact ⟨shr_nonneg _ _, by decide⟩, ?_⟩) | (refine ⟨by exact ⟨shr_nonneg' _ _, by decide⟩, ?_⟩)); (conv => whnf)))
              refine Again.mk (b + 1) (Sub.nil ⟨rfl, rfl, (by simp [tab64_LL, gC, wB, giC, noneB]), rfl, (by simp [tupA, hpLt, tmLt, AV.lt, AE.lt, AC.lt, LL_cons, LL_nil, idOk, ABlk.lt, ints_LL, GB, tab64_LL, gC, wB, giC, noneB]), (by simp [tupA, hpLt, tmLt, AV.lt, AE.lt, AC.lt, LL_cons, LL_nil, idOk, ABlk.lt, ints_LL, GB, tab64_LL, gC, wB, giC, noneB])⟩ (by (repeat (first | exact trivial | refine ⟨trivial, ?_⟩ | refine ⟨rfl, ?_⟩))) (by (repeat (first | exact trivial | refine ⟨trivial, ?_⟩ | refine ⟨rfl, ?_⟩)))) (⟨by omega, by omega, hnext⟩) (by omega)
            | true =>
              rw [e3] at htb
              refine CallA.ro2 [0] (.c (.bool true)) (htb) ?_
              (conv => whnf); (repeat ((first | (refine ⟨rfl, ?_⟩) | (refine ⟨trivial, ?_⟩) | (refine Wk.yes ?_) | (refine Wk.no ?_) | (refine Wk.and ?_) | (refine ⟨by exact ⟨shr_nonneg _ _, by decide⟩, ?_⟩) | (refine ⟨by exact ⟨shr_nonneg' _ _, by decide⟩, ?_⟩)); (conv => whnf)))
              have hne := hi.1 ⟨a, b, g1, hb, ha, hF, e1, e2, e3⟩
              exact AH.Fin.nil2 ⟨by rw [decide_eq_true hne]; rfl, rfl, rfl⟩
          · have hba : b = a := by omega
            subst hba
            have hnext : ∀ x y, 1 ≤ y → y < x → x < b + 1 → okF g false x → ¬ okS g x y := fun x y q1 q2 q3 q4 => by
              by_cases e : x = b
              · subst e; exact g3 y q1 q2
              · exact h3 x y q1 q2 (by omega) q4
            (conv => whnf); (repeat ((first | (refine ⟨rfl, ?_⟩) | (refine ⟨trivial, ?_⟩) | (refine Wk.yes ?_) | (refine Wk.no ?_) | (refine Wk.and ?_) | (refine ⟨by exact ⟨shr_nonneg _ _, by decide⟩, ?_⟩) | (refine ⟨by exact ⟨shr_nonneg' _ _, by decide⟩, ?_⟩)); (conv => whnf)))
            rw [decide_eq_false (show ¬ ((b : Nat) : Int) < ((b : Nat) : Int) by omega)]
            (conv => whnf); (repeat ((first | (refine ⟨rfl, ?_⟩) | (refine ⟨trivial, ?_⟩) | (refine Wk.yes ?_) | (refine Wk.no ?_) | (refine Wk.and ?_) | (refine ⟨by exact ⟨shr_nonneg _ _, by decide⟩, ?_⟩) | (refine ⟨by exact ⟨shr_nonneg' _ _, by decide⟩, ?_⟩)); (conv => whnf)))
            intro _
            (conv => whnf); (repeat ((first | (refine ⟨rfl, ?_⟩) | (refine ⟨trivial, ?_⟩) | (refine Wk.yes ?_) | (refine Wk.no ?_) | (refine Wk.and ?_) | (refine ⟨by exact ⟨shr_nonneg _ _, by decide⟩, ?_⟩) | (refine ⟨by exact ⟨shr_nonneg' _ _, by decide⟩, ?_⟩)); (conv => whnf)))
            refine Again.mk (b + 1) (Sub.nil ⟨rfl, rfl, (by simp [tab64_LL, gC, wB, giC, noneB]), rfl, (by simp [tupA, hpLt, tmLt, AV.lt, AE.lt, AC.lt, LL_cons, LL_nil, idOk, ABlk.lt, ints_LL, GB, tab64_LL, gC, wB, giC, noneB]), (by simp [tupA, hpLt, tmLt, AV.lt, AE.lt, AC.lt, LL_cons, LL_nil, idOk, ABlk.lt, ints_LL, GB, tab64_LL, gC, wB, giC, noneB])⟩ (by (repeat (first | exact trivial | refine ⟨trivial, ?_⟩ | refine ⟨rfl, ?_⟩))) (by (repeat (first | exact trivial | refine ⟨trivial, ?_⟩ | refine ⟨rfl, ?_⟩)))) (⟨by omega, by omega, hnext⟩) (by omega)
    · have hno : ¬ treesF g (alT g) ≠ none := fun k => by
        obtain ⟨x, y, q1, q2, q3, q4, q5⟩ := hi.2 k
        exact h3 x y q1 q2 (by omega) q4 q5
      rw [decide_eq_false (show ¬ ((a : Nat) : Int) < ((N : Nat) : Int) by omega)]
      (conv => whnf); (repeat ((first | (refine ⟨rfl, ?_⟩) | (refine ⟨trivial, ?_⟩) | (refine Wk.yes ?_) | (refine Wk.no ?_) | (refine Wk.and ?_) | (refine ⟨by exact ⟨shr_nonneg _ _, by decide⟩, ?_⟩) | (refine ⟨by exact ⟨shr_nonneg' _ _, by decide⟩, ?_⟩)); (conv => whnf)))
      exact AH.Fin.nil2 ⟨by rw [decide_eq_false hno]; rfl, rfl, rfl⟩
end Go.Proofs.YtfphkpdobbffeaaDoor

/-
  The law SwitchOwn, as a contract. (NOT DONE: what it calls.)
-/
namespace Go.Proofs.YtfphkpdobbffeaaDoor
open Go Go.AH
set_option maxRecDepth 100000
set_option maxHeartbeats 1000000

abbrev V8 := {V : List (List Int) // 2 ≤ V.length ∧ V.length ≤ 8 ∧ ∀ a ∈ V, a.length ≤ 8}
theorem BarrierU_yes {g : Gm} (hg : g.game) (h : treesF g (alS g) = none) : FSpec Tryd.prog 27 [.g (gC g 0)] [(0, wB g)] 1 fun r hq k' => ∃ V : V8, True ∧ r = .t [.c (.sl 1 0 V.1.length (some V.1.length)), .c (.bool true), .c (.int .i64 0)] ∧ hq = bwH V.1 ∧ k' = 10 := by
  refine (Barrier_U hg).imp ?_
  rintro r hq k' ⟨rfl, ⟨h1, _, _⟩ | ⟨_, V, hV, rfl, rfl⟩⟩
  · exact absurd h h1
  · exact ⟨⟨V, hV⟩, trivial, rfl, rfl, rfl⟩
theorem BarrierU_no {g : Gm} (hg : g.game) (h : treesF g (alS g) ≠ none) : FDet Tryd.prog 27 [.g (gC g 0)] [(0, wB g)] 1 (.t [.c .nils, .c (.bool false), .c (.int .i64 0)]) [] 10 := by
  refine (Barrier_U hg).imp ?_
  rintro r hq k' ⟨rfl, ⟨h1, rfl, rfl⟩ | ⟨h1, _⟩⟩
  · exact ⟨rfl, rfl, rfl⟩
  · exact absurd h1 h
end Go.Proofs.YtfphkpdobbffeaaDoor

/-
  Contracts: sorting of at most twelve wires.
-/
namespace Go.Proofs.YtfphkpdobbffeaaDoor
open Go Go.AH Go.Wire
set_option maxRecDepth 100000
set_option maxHeartbeats 1000000

end Go.Proofs.YtfphkpdobbffeaaDoor

/-
  Contracts: the game in which a wire is made short, by the program.
-/
namespace Go.Proofs.YtfphkpdobbffeaaDoor
open Go Go.AH Go.Wire
set_option maxRecDepth 100000
set_option maxHeartbeats 1000000

end Go.Proofs.YtfphkpdobbffeaaDoor

/-
  The law SwitchOwn, as a contract: what is known, told anew.
-/
namespace Go.Proofs.YtfphkpdobbffeaaDoor
open Go Go.AH
set_option maxRecDepth 100000
set_option maxHeartbeats 1000000

theorem hpAll_wk {hp : List (Nat × ABlk)} {q : Nat → Nat} : ∀ {l : List (Nat × ABlk)}, hpAll hp q l → wkHA hp q l
  | [], _ => trivial
  | (i, b) :: r, h => ⟨by rw [h.1]; exact Or.inl rfl, hpAll_wk h.2⟩
theorem hpAll_skip {b : Nat} {V : List (List Int)} {R : List (Nat × ABlk)} {q : Nat → Nat} : ∀ {T : List (Nat × ABlk)}, hpAll R q T → (∀ p ∈ T, q p.1 < b ∨ b + V.length ≤ q p.1) → hpAll (rg b V ++ R) q T
  | [], _, _ => trivial
  | (i, c) :: r, h, hd => ⟨by
      rw [lk_append, lk_none_of fun p hp e => by have := rg_mem hp; have := hd (i, c) (List.mem_cons_self ..); simp only at this; omega]
      exact h.1, hpAll_skip h.2 fun p hp => hd p (List.mem_cons_of_mem _ hp)⟩
theorem hpAll_past {j : Nat} {x : ABlk} {R : List (Nat × ABlk)} {q : Nat → Nat} : ∀ {T : List (Nat × ABlk)}, hpAll R q T → (∀ p ∈ T, q p.1 ≠ j) → hpAll ((j, x) :: R) q T
  | [], _, _ => trivial
  | (i, c) :: r, h, hd => ⟨by
      rw [lk, if_neg fun e => hd (i, c) (List.mem_cons_self ..) e.symm]
      exact h.1, hpAll_past h.2 fun p hp => hd p (List.mem_cons_of_mem _ hp)⟩
theorem rg_front {b : Nat} {V : List (List Int)} {R : List (Nat × ABlk)} {p : Nat × ABlk} (h : p ∈ rg b V) : lk (rg b V ++ R) p.1 = some p.2 := by
  rw [lk_append, lk_mem (rg_nodup V b) h]; rfl
theorem nodQ {V : List (List Int)} {b c : Nat} {q : Nat → Nat} {A B : List (Nat × ABlk)} (hm : ∀ i, b ≤ i → i < b + V.length → q i = c + (i - b)) (hn : nodB ((A ++ B).map fun p => q p.1) = true) (hd : ∀ p ∈ A ++ B, q p.1 < c ∨ c + V.length ≤ q p.1) :
    nodB ((A ++ (rg b V ++ B)).map fun p => q p.1) = true := by
  refine nodB_of ?_
  have hn := nodB_sound hn
  rw [List.map_append] at hn
  rw [List.map_append, List.map_append, rg_map V b c hm]
  obtain ⟨h1, h2, h3⟩ := List.nodup_append.1 hn
  refine List.nodup_append.2 ⟨h1, List.nodup_append.2 ⟨rg_nodup V c, h2, fun x hx y hy e => ?_⟩, fun x hx y hy e => ?_⟩
  · obtain ⟨p, hp, rfl⟩ := List.mem_map.1 hx
    obtain ⟨r, hr, rfl⟩ := List.mem_map.1 hy
    have h4 := rg_mem hp
    have h5 := hd r (List.mem_append_right _ hr)
    omega
  · rcases List.mem_append.1 hy with hy | hy
    · obtain ⟨p, hp, rfl⟩ := List.mem_map.1 hy
      obtain ⟨r, hr, rfl⟩ := List.mem_map.1 hx
      have h4 := rg_mem hp
      have h5 := hd r (List.mem_append_left _ hr)
      omega
    · exact h3 x hx y hy e
end Go.Proofs.YtfphkpdobbffeaaDoor
