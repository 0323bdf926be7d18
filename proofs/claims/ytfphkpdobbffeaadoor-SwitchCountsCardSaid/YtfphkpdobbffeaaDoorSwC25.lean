/-
  The law SwitchCounts, as a contract.
-/
import Derived.Test.YtfphkpdobbffeaaDoorSwC24
set_option linter.unusedSimpArgs false
set_option linter.unusedVariables false
namespace Go.Proofs.YtfphkpdobbffeaaDoor
open Go Go.AH
set_option maxRecDepth 100000
set_option maxHeartbeats 1000000

theorem putW_cons (u w : Nat × Nat) (l : List (Nat × Nat)) : putW (u :: l) w = if leW u w = true then u :: putW l w else w :: u :: l := by
  by_cases h : leW u w = true
  · rw [if_pos h, putW, putW, show posW (u :: l) w = posW l w + 1 by simp [posW, List.takeWhile_cons, h]]
    rfl
  · rw [if_neg h, putW, show posW (u :: l) w = 0 by simp [posW, List.takeWhile_cons, h]]
    rfl
theorem putW_mem {v w : Nat × Nat} : ∀ {l : List (Nat × Nat)}, v ∈ putW l w → v = w ∨ v ∈ l
  | [], h => by simp [putW] at h; exact .inl h
  | u :: l, h => by
    rw [putW_cons] at h
    split at h
    · rcases List.mem_cons.1 h with h | h
      · exact .inr (by simp [h])
      · rcases putW_mem h with h | h
        · exact .inl h
        · exact .inr (by simp [h])
    · rcases List.mem_cons.1 h with h | h
      · exact .inl h
      · exact .inr h
theorem leW_iff (u w : Nat × Nat) : leW u w = true ↔ u.1 < w.1 ∨ (u.1 = w.1 ∧ u.2 ≤ w.2) := by simp [leW]
theorem putW_sorted {w : Nat × Nat} : ∀ {l : List (Nat × Nat)}, l.Pairwise (fun u w => leW u w = true) → (putW l w).Pairwise (fun u w => leW u w = true)
  | [], _ => by simp [putW]
  | u :: l, h => by
    obtain ⟨h1, h2⟩ := List.pairwise_cons.1 h
    rw [putW_cons]
    split
    · rename_i hu
      refine List.pairwise_cons.2 ⟨fun v hv => ?_, putW_sorted h2⟩
      rcases putW_mem hv with rfl | hv
      · exact hu
      · exact h1 v hv
    · rename_i hu
      rw [leW_iff] at hu
      refine List.pairwise_cons.2 ⟨fun v hv => ?_, h⟩
      rcases List.mem_cons.1 hv with rfl | hv
      · rw [leW_iff]; omega
      · have := (leW_iff _ _).1 (h1 v hv)
        rw [leW_iff]; omega
def Tm (n : Nat) (l : List (Nat × Nat)) : Prop := (∀ w ∈ l, w.1 < w.2 ∧ w.2 < n) ∧ l.Pairwise (fun u w => leW u w = true)
theorem tameF_Tm {n most : Nat} (hn : 0 < n) {l : List (Nat × Nat)} (h : Tm n l) (p : Int × Int) : Tm n (tameF n most l p) := by
  have ha := um_lt p.1 hn
  have hb := um_lt p.2 hn
  unfold tameF
  split
  · split
    · exact h
    · refine ⟨fun w hw => ?_, putW_sorted h.2⟩
      rcases putW_mem hw with rfl | hw
      · dsimp only; omega
      · exact h.1 w hw
  · exact h
theorem tameA_Tm (x : Rw) {n most : Nat} (hn : 0 < n) : ∀ k, k ≤ x.ws.length → Tm n (tameA x n most k) ∧ (tameA x n most k).length ≤ most
  | 0, _ => ⟨⟨fun w hw => by simp [tameA] at hw, by simp [tameA]⟩, by simp [tameA]⟩
  | k + 1, hk => by
    obtain ⟨h1, h2⟩ := tameA_Tm x (most := most) hn k (by omega)
    rw [tameA_succ x n most (by omega)]
    exact ⟨tameF_Tm hn h1 _, tameF_len _ _ _ _ h2⟩
theorem tame_game (x : Rw) {pl most : Nat} (h1 : 2 ≤ pl) (h2 : pl ≤ 8) (h3 : most ≤ 10) : (tame x pl most).game := by
  have hN : tameN x pl = 2 + um x.n (pl - 1) := rfl
  have hu := um_lt x.n (n := pl - 1) (by omega)
  have hs : tameS x pl < tameN x pl := um_lt _ (by omega)
  have ht0 := um_lt x.t (n := tameN x pl) (by omega)
  have ht : tameT x pl < tameN x pl ∧ tameT x pl ≠ tameS x pl := by
    unfold tameT
    split
    · refine ⟨Nat.mod_lt _ (by omega), ?_⟩
      by_cases e : tameS x pl + 1 = tameN x pl
      · rw [e, Nat.mod_self]; omega
      · rw [Nat.mod_eq_of_lt (by omega)]; omega
    · exact ⟨ht0, fun h => by omega⟩
  obtain ⟨⟨hw, hp⟩, hl⟩ := tameA_Tm x (n := tameN x pl) (most := most) (by omega) _ (Nat.le_refl _)
  generalize hL : tameA x (tameN x pl) most x.ws.length = L at hw hp hl
  show isGame (tameN x pl) (tameS x pl) (tameT x pl) (fl (tameA x (tameN x pl) most x.ws.length)) (tameA x (tameN x pl) most x.ws.length).length
  rw [hL]
  refine ⟨by unfold bad0; omega, fun i hi => ?_⟩
  have hg : ∀ j, j < L.length → (L.getD j (0, 0)) ∈ L := fun j hj => by
    rw [List.getD_eq_getElem?_getD, List.getElem?_eq_getElem hj]; exact List.getElem_mem hj
  have hwi := hw _ (hg i hi)
  unfold badW
  rw [(fl_get L i).1, (fl_get L i).2]
  have hc : 0 < i → ¬ 0 < cmpL (win (fl L) ((i - 1) * 2) 2) (win (fl L) (i * 2) 2) := fun h0 => by
    have hle : leW (L.getD (i - 1) (0, 0)) (L.getD i (0, 0)) = true := by
      have := List.pairwise_iff_getElem.1 hp (i - 1) i (by omega) hi (by omega)
      rw [List.getD_eq_getElem?_getD, List.getD_eq_getElem?_getD, List.getElem?_eq_getElem hi, List.getElem?_eq_getElem (show i - 1 < L.length by omega)]
      exact this
    rw [leW_iff] at hle
    have hfl := fl_len L
    rw [win2 (by omega), win2 (by omega), (fl_get L i).1, (fl_get L i).2, (fl_get L (i - 1)).1, (fl_get L (i - 1)).2]
    simp only [cmpL]
    unfold cmpI
    split <;> omega
  omega

theorem tame_nil {x : Rw} {pl most : Nat} (h1 : 2 ≤ pl) (h2 : pl ≤ 10) (h3 : most ≤ 10) (h4 : x.ws.length ≤ 9223372036854775807) (h : (tame x pl most).ws = []) : FDet Tryd.prog 18 [.g (rC x 0), .c (.int .i64 pl), .c (.int .i64 most)] [(0, rB x)] 1 (.g (gN (tame x pl most))) [] 1 := by
  have := tame_spec h1 h2 h3 h4
  rw [show tameR (tame x pl most) = .g (gN (tame x pl most)) by rw [tameR, h], show tameH (tame x pl most) = [] by rw [tameH, h], show tameK (tame x pl most) = 1 by rw [tameK, h]] at this
  exact this
theorem gC_LL {g : Gm} {k id : Nat} (h : idOk k id) : LL k (gC g id) := by
  intro x hx
  simp [gC] at hx
  rcases hx with rfl | rfl | rfl | rfl
  · trivial
  · trivial
  · trivial
  · exact h
theorem tame_rs {x : Rw} {pl most : Nat} (h1 : 2 ≤ pl) (h2 : pl ≤ 10) (h3 : most ≤ 10) (h4 : x.ws.length ≤ 9223372036854775807) (h : 0 < (tame x pl most).ws.length) : FDet Tryd.prog 18 [.g (rC x 0), .c (.int .i64 pl), .c (.int .i64 most)] [(0, rB x)] 1 (.g (gC (tame x pl most) 1)) [(1, .row 60 2 (ints (fl (tame x pl most).ws)))] 2 := by
  have := tame_spec h1 h2 h3 h4
  generalize tame x pl most = g at *
  obtain ⟨w, l, hw⟩ : ∃ w l, g.ws = w :: l := by
    cases hq : g.ws with
    | nil => rw [hq] at h; simp at h
    | cons w l => exact ⟨w, l, rfl⟩
  rw [show tameR g = .g (gR g 1) by rw [tameR, hw], show tameH g = [(1, .row 60 2 (ints (fl g.ws)))] by rw [tameH, hw], show tameK g = 2 by rw [tameK, hw]] at this
  exact FDet.post this _ _ (.inr ⟨rfl, rfl, rfl, ⟨⟨rfl, rfl, rfl⟩, trivial⟩, trivial⟩) ⟨⟨⟨rfl, rfl⟩, .inl rfl⟩, trivial⟩ (gC_LL (.inl (by decide))) (by simp [tupA, hpLt, tmLt, AV.lt, AE.lt, AC.lt, LL_cons, LL_nil, idOk, ABlk.lt, ints_LL, GB, tab64_LL, gC, wB, giC, noneB, gst, tC, pC, gN, gR, rC, rB, gO, gOH, gOK]) rfl
theorem given_rs {g : Gm} (h : 0 < g.ws.length) (hl : g.ws.length ≤ 10) : FDet Tryd.prog 20 [.g (gC g 0)] [(0, wB g)] 1 (.g (gC g 1)) [(1, .row 60 2 (ints (fl g.ws)))] 2 :=
  FDet.post (given_row h hl) _ _ (.inr ⟨rfl, rfl, rfl, ⟨⟨rfl, rfl, rfl⟩, trivial⟩, trivial⟩) ⟨⟨⟨rfl, rfl⟩, .inl rfl⟩, trivial⟩ (gC_LL (.inl (by decide))) (by simp [tupA, hpLt, tmLt, AV.lt, AE.lt, AC.lt, LL_cons, LL_nil, idOk, ABlk.lt, ints_LL, GB, tab64_LL, gC, wB, giC, noneB, gst, tC, pC, gN, gR, rC, rB, gO, gOH, gOK]) rfl
theorem gN_all (g : Gm) (p : Nat → Prop) : ∀ v ∈ [AV.g (gN g)], v.all p := by
  intro v hv; simp at hv; subst hv; intro x hx; simp [gN] at hx; rcases hx with rfl | rfl | rfl | rfl <;> trivial
theorem count_nil {g : Gm} (hg : g.game) (h : g.ws = []) : FDet Tryd.prog 23 [.g (gN g)] [(100002, .ro tab64)] 1 (.t [.c (.int .i64 (cntT g (2 ^ g.ws.length))), .c (.int .i64 0)]) [] 1 := by
  have h1 := count_spec hg
  rw [show wB g = .ro [] by rw [wB, h]; rfl] at h1
  refine FDet.nil0 h1 _ 100002 tab64 rfl ⟨.inr ⟨rfl, rfl, rfl, by show g.ws.length = 0; rw [h]; rfl, trivial⟩, trivial⟩ (gN_all g _) ?_ ?_
  · intro p hp; simp at hp; subst hp; exact ⟨by decide, tab_all _⟩
  · intro e he; simp at he; rcases he with rfl | rfl <;> trivial
theorem countR_nil {g : Gm} (hg : g.ok) (h : g.ws = []) : FDet Tryd.prog 24 [.g (gN g)] [(100002, .ro tab64)] 1 (.c (.int .i64 (cntR g (2 ^ g.ws.length)))) [] 1 := by
  have h1 := countR_spec hg
  rw [show wB g = .ro [] by rw [wB, h]; rfl] at h1
  have h2 := FDet.wk h1 (args' := [.g (gC g 0)]) (hp' := [(0, .ro []), (100002, .ro tab64)]) ⟨.inl rfl, trivial⟩ ⟨.inl rfl, trivial⟩
  refine FDet.nil0 h2 _ 100002 tab64 rfl ⟨.inr ⟨rfl, rfl, rfl, by show g.ws.length = 0; rw [h]; rfl, trivial⟩, trivial⟩ (gN_all g _) ?_ trivial
  · intro p hp; simp at hp; subst hp; exact ⟨by decide, tab_all _⟩
theorem counts_nil (x : Rw) (h4 : x.ws.length ≤ 9223372036854775807) (hws : (tame x 8 10).ws = []) : FDet Tryd.prog 4 [.g (rC x 0)] [(0, rB x), (100002, .ro tab64), (100000, noneB)] 1 (.c (.bool true)) [] 1 := by
  have hgm := tame_game x (pl := 8) (most := 10) (by omega) (by omega) (by omega)
  have heq := cnt_eq hgm.ok
  have ht := tame_nil (x := x) (pl := 8) (most := 10) (by omega) (by omega) (by omega) h4 hws
  have hc := count_nil hgm hws
  have hr := countR_nil hgm.ok hws
  generalize tame x 8 10 = g at *
  rw [← heq] at hr
  generalize cntT g (2 ^ g.ws.length) = C at *
  refine FSpec.of_body tok true Tryd.func4 rfl (by kernel_rfl) (by decide) (by simp [tupA, hpLt, tmLt, AV.lt, AE.lt, AC.lt, LL_cons, LL_nil, idOk, ABlk.lt, ints_LL, GB, tab64_LL, gC, wB, giC, noneB, gst, tC, pC, gN, gR, rC, rB, gO, gOH, gOK]) (by simp [tupA, hpLt, tmLt, AV.lt, AE.lt, AC.lt, LL_cons, LL_nil, idOk, ABlk.lt, ints_LL, GB, tab64_LL, gC, wB, giC, noneB, gst, tC, pC, gN, gR, rC, rB, gO, gOH, gOK]) (by show 1 ≤ _; decide) ?_
  (conv => whnf); (repeat ((first | (refine ⟨rfl, ?_⟩) | (refine ⟨trivial, ?_⟩) | (refine ⟨fun _ => ?_, fun h => absurd h (by decide)⟩) | (refine ⟨fun h => absurd h (by decide), fun _ => ?_⟩) | (refine ⟨by (first | exact Nat.le_of_ble_eq_true rfl | exact ⟨rfl, Nat.le_of_ble_eq_true rfl⟩ | exact ⟨Nat.le_of_ble_eq_true rfl, rfl⟩ | exact ⟨rfl, rfl⟩ | (with_reducible assumption) | exact ⟨by with_reducible assumption, rfl⟩ | ((with_reducible refine bsCond ?_); rfl) | ((with_reducible refine nilsCond ?_); rfl) | omega | exact ⟨rfl, by omega⟩ | exact ⟨by omega, rfl⟩ | exact ⟨by omega, by omega, by omega, by omega, rfl⟩ | decide | (unfold I64; omega) | exact ⟨by omega, by omega, by unfold I64; omega⟩  | exact ⟨trivial, fun q hq => absurd hq List.not_mem_nil⟩ | (simp [AV.all, AC.all, AE.all, ABlk.all, avAll, holes, rgN, outside, ints_LA, LA_nil, LA_cons] <;> fail) | exact ⟨by omega, by show _ < (64 : Int); omega⟩), ?_⟩)); (conv => whnf)))
  refine CallA.ro [0] (.g (gN g)) (ht) (by first | rfl | exact congrArg AV.g (ints_ren _ _) | (simp [ints_ren, AV.ren, ABlk.ren, AC.ren, AE.ren, qq]; done)) rfl (by (repeat (first | exact trivial | refine ⟨⟨(by first | exact .inl (by decide) | exact .inr (by decide)), (by first | rfl | exact congrArg some (ints_ren _ _).symm | exact congrArg ABlk.own (ints_ren _ _).symm | exact congrArg some (tab64_ren _).symm)⟩, ?_⟩))) (by first | rfl | exact congrArg AV.g (ints_ren _ _) | (simp [ints_ren, AV.ren, ABlk.ren, AC.ren, AE.ren, qq]; done)) ?_
  (conv => whnf); (repeat ((first | (refine ⟨rfl, ?_⟩) | (refine ⟨trivial, ?_⟩) | (refine ⟨fun _ => ?_, fun h => absurd h (by decide)⟩) | (refine ⟨fun h => absurd h (by decide), fun _ => ?_⟩) | (refine ⟨by (first | exact Nat.le_of_ble_eq_true rfl | exact ⟨rfl, Nat.le_of_ble_eq_true rfl⟩ | exact ⟨Nat.le_of_ble_eq_true rfl, rfl⟩ | exact ⟨rfl, rfl⟩ | (with_reducible assumption) | exact ⟨by with_reducible assumption, rfl⟩ | ((with_reducible refine bsCond ?_); rfl) | ((with_reducible refine nilsCond ?_); rfl) | omega | exact ⟨rfl, by omega⟩ | exact ⟨by omega, rfl⟩ | exact ⟨by omega, by omega, by omega, by omega, rfl⟩ | decide | (unfold I64; omega) | exact ⟨by omega, by omega, by unfold I64; omega⟩  | exact ⟨trivial, fun q hq => absurd hq List.not_mem_nil⟩ | (simp [AV.all, AC.all, AE.all, ABlk.all, avAll, holes, rgN, outside, ints_LA, LA_nil, LA_cons] <;> fail) | exact ⟨by omega, by show _ < (64 : Int); omega⟩), ?_⟩)); (conv => whnf)))
  refine CallA.ro [0] (.g (gN g)) (given_nil) (by first | rfl | exact congrArg AV.g (ints_ren _ _) | (simp [ints_ren, AV.ren, ABlk.ren, AC.ren, AE.ren, qq]; done)) rfl (by (repeat (first | exact trivial | refine ⟨⟨(by first | exact .inl (by decide) | exact .inr (by decide)), (by first | rfl | exact congrArg some (ints_ren _ _).symm | exact congrArg ABlk.own (ints_ren _ _).symm | exact congrArg some (tab64_ren _).symm)⟩, ?_⟩))) (by first | rfl | exact congrArg AV.g (ints_ren _ _) | (simp [ints_ren, AV.ren, ABlk.ren, AC.ren, AE.ren, qq]; done)) ?_
  (conv => whnf); (repeat ((first | (refine ⟨rfl, ?_⟩) | (refine ⟨trivial, ?_⟩) | (refine ⟨fun _ => ?_, fun h => absurd h (by decide)⟩) | (refine ⟨fun h => absurd h (by decide), fun _ => ?_⟩) | (refine ⟨by (first | exact Nat.le_of_ble_eq_true rfl | exact ⟨rfl, Nat.le_of_ble_eq_true rfl⟩ | exact ⟨Nat.le_of_ble_eq_true rfl, rfl⟩ | exact ⟨rfl, rfl⟩ | (with_reducible assumption) | exact ⟨by with_reducible assumption, rfl⟩ | ((with_reducible refine bsCond ?_); rfl) | ((with_reducible refine nilsCond ?_); rfl) | omega | exact ⟨rfl, by omega⟩ | exact ⟨by omega, rfl⟩ | exact ⟨by omega, by omega, by omega, by omega, rfl⟩ | decide | (unfold I64; omega) | exact ⟨by omega, by omega, by unfold I64; omega⟩  | exact ⟨trivial, fun q hq => absurd hq List.not_mem_nil⟩ | (simp [AV.all, AC.all, AE.all, ABlk.all, avAll, holes, rgN, outside, ints_LA, LA_nil, LA_cons] <;> fail) | exact ⟨by omega, by show _ < (64 : Int); omega⟩), ?_⟩)); (conv => whnf)))
  refine CallA.ro [0] (.t [.c (.int .i64 C), .c (.int .i64 0)]) (hc) (by first | rfl | exact congrArg AV.g (ints_ren _ _) | (simp [ints_ren, AV.ren, ABlk.ren, AC.ren, AE.ren, qq]; done)) rfl (by (repeat (first | exact trivial | refine ⟨⟨(by first | exact .inl (by decide) | exact .inr (by decide)), (by first | rfl | exact congrArg some (ints_ren _ _).symm | exact congrArg ABlk.own (ints_ren _ _).symm | exact congrArg some (tab64_ren _).symm)⟩, ?_⟩))) (by first | rfl | exact congrArg AV.g (ints_ren _ _) | (simp [ints_ren, AV.ren, ABlk.ren, AC.ren, AE.ren, qq]; done)) ?_
  (conv => whnf); (repeat ((first | (refine ⟨rfl, ?_⟩) | (refine ⟨trivial, ?_⟩) | (refine ⟨fun _ => ?_, fun h => absurd h (by decide)⟩) | (refine ⟨fun h => absurd h (by decide), fun _ => ?_⟩) | (refine ⟨by (first | exact Nat.le_of_ble_eq_true rfl | exact ⟨rfl, Nat.le_of_ble_eq_true rfl⟩ | exact ⟨Nat.le_of_ble_eq_true rfl, rfl⟩ | exact ⟨rfl, rfl⟩ | (with_reducible assumption) | exact ⟨by with_reducible assumption, rfl⟩ | ((with_reducible refine bsCond ?_); rfl) | ((with_reducible refine nilsCond ?_); rfl) | omega | exact ⟨rfl, by omega⟩ | exact ⟨by omega, rfl⟩ | exact ⟨by omega, by omega, by omega, by omega, rfl⟩ | decide | (unfold I64; omega) | exact ⟨by omega, by omega, by unfold I64; omega⟩  | exact ⟨trivial, fun q hq => absurd hq List.not_mem_nil⟩ | (simp [AV.all, AC.all, AE.all, ABlk.all, avAll, holes, rgN, outside, ints_LA, LA_nil, LA_cons] <;> fail) | exact ⟨by omega, by show _ < (64 : Int); omega⟩), ?_⟩)); (conv => whnf)))
  refine CallA.ro [0] (.c (.int .i64 C)) (hr) (by first | rfl | exact congrArg AV.g (ints_ren _ _) | (simp [ints_ren, AV.ren, ABlk.ren, AC.ren, AE.ren, qq]; done)) rfl (by (repeat (first | exact trivial | refine ⟨⟨(by first | exact .inl (by decide) | exact .inr (by decide)), (by first | rfl | exact congrArg some (ints_ren _ _).symm | exact congrArg ABlk.own (ints_ren _ _).symm | exact congrArg some (tab64_ren _).symm)⟩, ?_⟩))) (by first | rfl | exact congrArg AV.g (ints_ren _ _) | (simp [ints_ren, AV.ren, ABlk.ren, AC.ren, AE.ren, qq]; done)) ?_
  (conv => whnf); (repeat ((first | (refine ⟨rfl, ?_⟩) | (refine ⟨trivial, ?_⟩) | (refine ⟨fun _ => ?_, fun h => absurd h (by decide)⟩) | (refine ⟨fun h => absurd h (by decide), fun _ => ?_⟩) | (refine ⟨by (first | exact Nat.le_of_ble_eq_true rfl | exact ⟨rfl, Nat.le_of_ble_eq_true rfl⟩ | exact ⟨Nat.le_of_ble_eq_true rfl, rfl⟩ | exact ⟨rfl, rfl⟩ | (with_reducible assumption) | exact ⟨by with_reducible assumption, rfl⟩ | ((with_reducible refine bsCond ?_); rfl) | ((with_reducible refine nilsCond ?_); rfl) | omega | exact ⟨rfl, by omega⟩ | exact ⟨by omega, rfl⟩ | exact ⟨by omega, by omega, by omega, by omega, rfl⟩ | decide | (unfold I64; omega) | exact ⟨by omega, by omega, by unfold I64; omega⟩  | exact ⟨trivial, fun q hq => absurd hq List.not_mem_nil⟩ | (simp [AV.all, AC.all, AE.all, ABlk.all, avAll, holes, rgN, outside, ints_LA, LA_nil, LA_cons] <;> fail) | exact ⟨by omega, by show _ < (64 : Int); omega⟩), ?_⟩)); (conv => whnf)))
  refine ⟨fun _ => ?_, fun h => by simp at h⟩
  (conv => whnf); (repeat ((first | (refine ⟨rfl, ?_⟩) | (refine ⟨trivial, ?_⟩) | (refine ⟨fun _ => ?_, fun h => absurd h (by decide)⟩) | (refine ⟨fun h => absurd h (by decide), fun _ => ?_⟩) | (refine ⟨by (first | exact Nat.le_of_ble_eq_true rfl | exact ⟨rfl, Nat.le_of_ble_eq_true rfl⟩ | exact ⟨Nat.le_of_ble_eq_true rfl, rfl⟩ | exact ⟨rfl, rfl⟩ | (with_reducible assumption) | exact ⟨by with_reducible assumption, rfl⟩ | ((with_reducible refine bsCond ?_); rfl) | ((with_reducible refine nilsCond ?_); rfl) | omega | exact ⟨rfl, by omega⟩ | exact ⟨by omega, rfl⟩ | exact ⟨by omega, by omega, by omega, by omega, rfl⟩ | decide | (unfold I64; omega) | exact ⟨by omega, by omega, by unfold I64; omega⟩  | exact ⟨trivial, fun q hq => absurd hq List.not_mem_nil⟩ | (simp [AV.all, AC.all, AE.all, ABlk.all, avAll, holes, rgN, outside, ints_LA, LA_nil, LA_cons] <;> fail) | exact ⟨by omega, by show _ < (64 : Int); omega⟩), ?_⟩)); (conv => whnf)))
  refine CallA.ro [] (.c (.bool true)) (awake_spec) (by first | rfl | exact congrArg AV.g (ints_ren _ _) | (simp [ints_ren, AV.ren, ABlk.ren, AC.ren, AE.ren, qq]; done)) rfl (by (repeat (first | exact trivial | refine ⟨⟨(by first | exact .inl (by decide) | exact .inr (by decide)), (by first | rfl | exact congrArg some (ints_ren _ _).symm | exact congrArg ABlk.own (ints_ren _ _).symm | exact congrArg some (tab64_ren _).symm)⟩, ?_⟩))) (by first | rfl | exact congrArg AV.g (ints_ren _ _) | (simp [ints_ren, AV.ren, ABlk.ren, AC.ren, AE.ren, qq]; done)) ?_
  (conv => whnf); (repeat ((first | (refine ⟨rfl, ?_⟩) | (refine ⟨trivial, ?_⟩) | (refine ⟨fun _ => ?_, fun h => absurd h (by decide)⟩) | (refine ⟨fun h => absurd h (by decide), fun _ => ?_⟩) | (refine ⟨by (first | exact Nat.le_of_ble_eq_true rfl | exact ⟨rfl, Nat.le_of_ble_eq_true rfl⟩ | exact ⟨Nat.le_of_ble_eq_true rfl, rfl⟩ | exact ⟨rfl, rfl⟩ | (with_reducible assumption) | exact ⟨by with_reducible assumption, rfl⟩ | ((with_reducible refine bsCond ?_); rfl) | ((with_reducible refine nilsCond ?_); rfl) | omega | exact ⟨rfl, by omega⟩ | exact ⟨by omega, rfl⟩ | exact ⟨by omega, by omega, by omega, by omega, rfl⟩ | decide | (unfold I64; omega) | exact ⟨by omega, by omega, by unfold I64; omega⟩  | exact ⟨trivial, fun q hq => absurd hq List.not_mem_nil⟩ | (simp [AV.all, AC.all, AE.all, ABlk.all, avAll, holes, rgN, outside, ints_LA, LA_nil, LA_cons] <;> fail) | exact ⟨by omega, by show _ < (64 : Int); omega⟩), ?_⟩)); (conv => whnf)))
  exact AH.Fin.nil [] ⟨rfl, rfl, rfl⟩ (by first | exact trivial | (simp [tupA, hpLt, tmLt, AV.lt, AE.lt, AC.lt, LL_cons, LL_nil, idOk, ABlk.lt, ints_LL, GB, tab64_LL, gC, wB, giC, noneB, gst, tC, pC, gN, gR, rC, rB, gO, gOH, gOK]; done) | (simp [tupA, hpLt, tmLt, AV.lt, AE.lt, AC.lt, LL_cons, LL_nil, idOk, ABlk.lt, ints_LL, GB, tab64_LL, gC, wB, giC, noneB, gst, tC, pC, gN, gR, rC, rB, gO, gOH, gOK, rdn, wrn]; done)) trivial trivial rfl (by simp [GB])
theorem counts_row (x : Rw) (h4 : x.ws.length ≤ 9223372036854775807) (hws : ¬ (tame x 8 10).ws = []) : FDet Tryd.prog 4 [.g (rC x 0)] [(0, rB x), (100002, .ro tab64), (100000, noneB)] 1 (.c (.bool true)) [] 1 := by
  have hgm := tame_game x (pl := 8) (most := 10) (by omega) (by omega) (by omega)
  have heq := cnt_eq hgm.ok
  have hgl := hgm.ok.len
  have hpos := List.length_pos_iff.2 hws
  have ht := tame_rs (x := x) (pl := 8) (most := 10) (by omega) (by omega) (by omega) h4 hpos
  have hc := count_spec hgm
  have hr := countR_spec hgm.ok
  generalize tame x 8 10 = g at *
  rw [← heq] at hr
  generalize cntT g (2 ^ g.ws.length) = C at *
  have hgv := given_rs hpos hgl
  refine FSpec.of_body tok true Tryd.func4 rfl (by kernel_rfl) (by decide) (by simp [tupA, hpLt, tmLt, AV.lt, AE.lt, AC.lt, LL_cons, LL_nil, idOk, ABlk.lt, ints_LL, GB, tab64_LL, gC, wB, giC, noneB, gst, tC, pC, gN, gR, rC, rB, gO, gOH, gOK]) (by simp [tupA, hpLt, tmLt, AV.lt, AE.lt, AC.lt, LL_cons, LL_nil, idOk, ABlk.lt, ints_LL, GB, tab64_LL, gC, wB, giC, noneB, gst, tC, pC, gN, gR, rC, rB, gO, gOH, gOK]) (by show 1 ≤ _; decide) ?_
  (conv => whnf); (repeat ((first | (refine ⟨rfl, ?_⟩) | (refine ⟨trivial, ?_⟩) | (refine ⟨fun _ => ?_, fun h => absurd h (by decide)⟩) | (refine ⟨fun h => absurd h (by decide), fun _ => ?_⟩) | (refine ⟨by (first | exact Nat.le_of_ble_eq_true rfl | exact ⟨rfl, Nat.le_of_ble_eq_true rfl⟩ | exact ⟨Nat.le_of_ble_eq_true rfl, rfl⟩ | exact ⟨rfl, rfl⟩ | (with_reducible assumption) | exact ⟨by with_reducible assumption, rfl⟩ | ((with_reducible refine bsCond ?_); rfl) | ((with_reducible refine nilsCond ?_); rfl) | omega | exact ⟨rfl, by omega⟩ | exact ⟨by omega, rfl⟩ | exact ⟨by omega, by omega, by omega, by omega, rfl⟩ | decide | (unfold I64; omega) | exact ⟨by omega, by omega, by unfold I64; omega⟩  | exact ⟨trivial, fun q hq => absurd hq List.not_mem_nil⟩ | (simp [AV.all, AC.all, AE.all, ABlk.all, avAll, holes, rgN, outside, ints_LA, LA_nil, LA_cons] <;> fail) | exact ⟨by omega, by show _ < (64 : Int); omega⟩), ?_⟩)); (conv => whnf)))
  refine CallA.det [0] (.g (gC g 2)) ([(1, .own (rC x 0)), (0, rB x), (100002, .ro tab64), (100000, noneB), (2, .row 60 2 (ints (fl g.ws)))]) (ht) (by first | rfl | exact congrArg AV.g (ints_ren _ _) | (simp [ints_ren, AV.ren, ABlk.ren, AC.ren, AE.ren, qq]; done)) rfl (by (repeat (first | exact trivial | refine ⟨⟨(by first | exact .inl (by decide) | exact .inr (by decide)), (by first | rfl | exact congrArg some (ints_ren _ _).symm | exact congrArg ABlk.own (ints_ren _ _).symm | exact congrArg some (tab64_ren _).symm)⟩, ?_⟩))) (by first | rfl | exact congrArg AV.g (ints_ren _ _) | (simp [ints_ren, AV.ren, ABlk.ren, AC.ren, AE.ren, qq]; done)) (by first | rfl | (simp [behind, gone, lk, up, del, qq, ABlk.wr, GB, ints_ren, AV.ren, ABlk.ren, AC.ren, AE.ren]; done) | (simp [behind, gone, lk, up, del, qq, ABlk.wr, GB, ints_ren, AV.ren, ABlk.ren, AC.ren, AE.ren]; rfl)) ?_
  (conv => whnf); (repeat ((first | (refine ⟨rfl, ?_⟩) | (refine ⟨trivial, ?_⟩) | (refine ⟨fun _ => ?_, fun h => absurd h (by decide)⟩) | (refine ⟨fun h => absurd h (by decide), fun _ => ?_⟩) | (refine ⟨by (first | exact Nat.le_of_ble_eq_true rfl | exact ⟨rfl, Nat.le_of_ble_eq_true rfl⟩ | exact ⟨Nat.le_of_ble_eq_true rfl, rfl⟩ | exact ⟨rfl, rfl⟩ | (with_reducible assumption) | exact ⟨by with_reducible assumption, rfl⟩ | ((with_reducible refine bsCond ?_); rfl) | ((with_reducible refine nilsCond ?_); rfl) | omega | exact ⟨rfl, by omega⟩ | exact ⟨by omega, rfl⟩ | exact ⟨by omega, by omega, by omega, by omega, rfl⟩ | decide | (unfold I64; omega) | exact ⟨by omega, by omega, by unfold I64; omega⟩  | exact ⟨trivial, fun q hq => absurd hq List.not_mem_nil⟩ | (simp [AV.all, AC.all, AE.all, ABlk.all, avAll, holes, rgN, outside, ints_LA, LA_nil, LA_cons] <;> fail) | exact ⟨by omega, by show _ < (64 : Int); omega⟩), ?_⟩)); (conv => whnf)))
  refine CallA.det [2] (.g (gC g 4)) ([(3, .own (gC g 2)), (1, .own (rC x 0)), (0, rB x), (100002, .ro tab64), (100000, noneB), (2, .row 60 2 (ints (fl g.ws))), (4, .row 60 2 (ints (fl g.ws)))]) (hgv) (by first | rfl | exact congrArg AV.g (ints_ren _ _) | (simp [ints_ren, AV.ren, ABlk.ren, AC.ren, AE.ren, qq]; done)) rfl (by (repeat (first | exact trivial | refine ⟨⟨(by first | exact .inl (by decide) | exact .inr (by decide)), (by first | rfl | exact congrArg some (ints_ren _ _).symm | exact congrArg ABlk.own (ints_ren _ _).symm | exact congrArg some (tab64_ren _).symm)⟩, ?_⟩))) (by first | rfl | exact congrArg AV.g (ints_ren _ _) | (simp [ints_ren, AV.ren, ABlk.ren, AC.ren, AE.ren, qq]; done)) (by first | rfl | (simp [behind, gone, lk, up, del, qq, ABlk.wr, GB, ints_ren, AV.ren, ABlk.ren, AC.ren, AE.ren]; done) | (simp [behind, gone, lk, up, del, qq, ABlk.wr, GB, ints_ren, AV.ren, ABlk.ren, AC.ren, AE.ren]; rfl)) ?_
  (conv => whnf); (repeat ((first | (refine ⟨rfl, ?_⟩) | (refine ⟨trivial, ?_⟩) | (refine ⟨fun _ => ?_, fun h => absurd h (by decide)⟩) | (refine ⟨fun h => absurd h (by decide), fun _ => ?_⟩) | (refine ⟨by (first | exact Nat.le_of_ble_eq_true rfl | exact ⟨rfl, Nat.le_of_ble_eq_true rfl⟩ | exact ⟨Nat.le_of_ble_eq_true rfl, rfl⟩ | exact ⟨rfl, rfl⟩ | (with_reducible assumption) | exact ⟨by with_reducible assumption, rfl⟩ | ((with_reducible refine bsCond ?_); rfl) | ((with_reducible refine nilsCond ?_); rfl) | omega | exact ⟨rfl, by omega⟩ | exact ⟨by omega, rfl⟩ | exact ⟨by omega, by omega, by omega, by omega, rfl⟩ | decide | (unfold I64; omega) | exact ⟨by omega, by omega, by unfold I64; omega⟩  | exact ⟨trivial, fun q hq => absurd hq List.not_mem_nil⟩ | (simp [AV.all, AC.all, AE.all, ABlk.all, avAll, holes, rgN, outside, ints_LA, LA_nil, LA_cons] <;> fail) | exact ⟨by omega, by show _ < (64 : Int); omega⟩), ?_⟩)); (conv => whnf)))
  refine CallA.ro [4] (.t [.c (.int .i64 C), .c (.int .i64 0)]) (hc) (by first | rfl | exact congrArg AV.g (ints_ren _ _) | (simp [ints_ren, AV.ren, ABlk.ren, AC.ren, AE.ren, qq]; done)) rfl (by (repeat (first | exact trivial | refine ⟨⟨(by first | exact .inl (by decide) | exact .inr (by decide)), (by first | rfl | exact congrArg some (ints_ren _ _).symm | exact congrArg ABlk.own (ints_ren _ _).symm | exact congrArg some (tab64_ren _).symm)⟩, ?_⟩))) (by first | rfl | exact congrArg AV.g (ints_ren _ _) | (simp [ints_ren, AV.ren, ABlk.ren, AC.ren, AE.ren, qq]; done)) ?_
  (conv => whnf); (repeat ((first | (refine ⟨rfl, ?_⟩) | (refine ⟨trivial, ?_⟩) | (refine ⟨fun _ => ?_, fun h => absurd h (by decide)⟩) | (refine ⟨fun h => absurd h (by decide), fun _ => ?_⟩) | (refine ⟨by (first | exact Nat.le_of_ble_eq_true rfl | exact ⟨rfl, Nat.le_of_ble_eq_true rfl⟩ | exact ⟨Nat.le_of_ble_eq_true rfl, rfl⟩ | exact ⟨rfl, rfl⟩ | (with_reducible assumption) | exact ⟨by with_reducible assumption, rfl⟩ | ((with_reducible refine bsCond ?_); rfl) | ((with_reducible refine nilsCond ?_); rfl) | omega | exact ⟨rfl, by omega⟩ | exact ⟨by omega, rfl⟩ | exact ⟨by omega, by omega, by omega, by omega, rfl⟩ | decide | (unfold I64; omega) | exact ⟨by omega, by omega, by unfold I64; omega⟩  | exact ⟨trivial, fun q hq => absurd hq List.not_mem_nil⟩ | (simp [AV.all, AC.all, AE.all, ABlk.all, avAll, holes, rgN, outside, ints_LA, LA_nil, LA_cons] <;> fail) | exact ⟨by omega, by show _ < (64 : Int); omega⟩), ?_⟩)); (conv => whnf)))
  refine CallA.ro [2] (.c (.int .i64 C)) (hr) (by first | rfl | exact congrArg AV.g (ints_ren _ _) | (simp [ints_ren, AV.ren, ABlk.ren, AC.ren, AE.ren, qq]; done)) rfl (by (repeat (first | exact trivial | refine ⟨⟨(by first | exact .inl (by decide) | exact .inr (by decide)), (by first | rfl | exact congrArg some (ints_ren _ _).symm | exact congrArg ABlk.own (ints_ren _ _).symm | exact congrArg some (tab64_ren _).symm)⟩, ?_⟩))) (by first | rfl | exact congrArg AV.g (ints_ren _ _) | (simp [ints_ren, AV.ren, ABlk.ren, AC.ren, AE.ren, qq]; done)) ?_
  (conv => whnf); (repeat ((first | (refine ⟨rfl, ?_⟩) | (refine ⟨trivial, ?_⟩) | (refine ⟨fun _ => ?_, fun h => absurd h (by decide)⟩) | (refine ⟨fun h => absurd h (by decide), fun _ => ?_⟩) | (refine ⟨by (first | exact Nat.le_of_ble_eq_true rfl | exact ⟨rfl, Nat.le_of_ble_eq_true rfl⟩ | exact ⟨Nat.le_of_ble_eq_true rfl, rfl⟩ | exact ⟨rfl, rfl⟩ | (with_reducible assumption) | exact ⟨by with_reducible assumption, rfl⟩ | ((with_reducible refine bsCond ?_); rfl) | ((with_reducible refine nilsCond ?_); rfl) | omega | exact ⟨rfl, by omega⟩ | exact ⟨by omega, rfl⟩ | exact ⟨by omega, by omega, by omega, by omega, rfl⟩ | decide | (unfold I64; omega) | exact ⟨by omega, by omega, by unfold I64; omega⟩  | exact ⟨trivial, fun q hq => absurd hq List.not_mem_nil⟩ | (simp [AV.all, AC.all, AE.all, ABlk.all, avAll, holes, rgN, outside, ints_LA, LA_nil, LA_cons] <;> fail) | exact ⟨by omega, by show _ < (64 : Int); omega⟩), ?_⟩)); (conv => whnf)))
  refine ⟨fun _ => ?_, fun h => by simp at h⟩
  (conv => whnf); (repeat ((first | (refine ⟨rfl, ?_⟩) | (refine ⟨trivial, ?_⟩) | (refine ⟨fun _ => ?_, fun h => absurd h (by decide)⟩) | (refine ⟨fun h => absurd h (by decide), fun _ => ?_⟩) | (refine ⟨by (first | exact Nat.le_of_ble_eq_true rfl | exact ⟨rfl, Nat.le_of_ble_eq_true rfl⟩ | exact ⟨Nat.le_of_ble_eq_true rfl, rfl⟩ | exact ⟨rfl, rfl⟩ | (with_reducible assumption) | exact ⟨by with_reducible assumption, rfl⟩ | ((with_reducible refine bsCond ?_); rfl) | ((with_reducible refine nilsCond ?_); rfl) | omega | exact ⟨rfl, by omega⟩ | exact ⟨by omega, rfl⟩ | exact ⟨by omega, by omega, by omega, by omega, rfl⟩ | decide | (unfold I64; omega) | exact ⟨by omega, by omega, by unfold I64; omega⟩  | exact ⟨trivial, fun q hq => absurd hq List.not_mem_nil⟩ | (simp [AV.all, AC.all, AE.all, ABlk.all, avAll, holes, rgN, outside, ints_LA, LA_nil, LA_cons] <;> fail) | exact ⟨by omega, by show _ < (64 : Int); omega⟩), ?_⟩)); (conv => whnf)))
  refine CallA.ro [] (.c (.bool true)) (awake_spec) (by first | rfl | exact congrArg AV.g (ints_ren _ _) | (simp [ints_ren, AV.ren, ABlk.ren, AC.ren, AE.ren, qq]; done)) rfl (by (repeat (first | exact trivial | refine ⟨⟨(by first | exact .inl (by decide) | exact .inr (by decide)), (by first | rfl | exact congrArg some (ints_ren _ _).symm | exact congrArg ABlk.own (ints_ren _ _).symm | exact congrArg some (tab64_ren _).symm)⟩, ?_⟩))) (by first | rfl | exact congrArg AV.g (ints_ren _ _) | (simp [ints_ren, AV.ren, ABlk.ren, AC.ren, AE.ren, qq]; done)) ?_
  (conv => whnf); (repeat ((first | (refine ⟨rfl, ?_⟩) | (refine ⟨trivial, ?_⟩) | (refine ⟨fun _ => ?_, fun h => absurd h (by decide)⟩) | (refine ⟨fun h => absurd h (by decide), fun _ => ?_⟩) | (refine ⟨by (first | exact Nat.le_of_ble_eq_true rfl | exact ⟨rfl, Nat.le_of_ble_eq_true rfl⟩ | exact ⟨Nat.le_of_ble_eq_true rfl, rfl⟩ | exact ⟨rfl, rfl⟩ | (with_reducible assumption) | exact ⟨by with_reducible assumption, rfl⟩ | ((with_reducible refine bsCond ?_); rfl) | ((with_reducible refine nilsCond ?_); rfl) | omega | exact ⟨rfl, by omega⟩ | exact ⟨by omega, rfl⟩ | exact ⟨by omega, by omega, by omega, by omega, rfl⟩ | decide | (unfold I64; omega) | exact ⟨by omega, by omega, by unfold I64; omega⟩  | exact ⟨trivial, fun q hq => absurd hq List.not_mem_nil⟩ | (simp [AV.all, AC.all, AE.all, ABlk.all, avAll, holes, rgN, outside, ints_LA, LA_nil, LA_cons] <;> fail) | exact ⟨by omega, by show _ < (64 : Int); omega⟩), ?_⟩)); (conv => whnf)))
  exact AH.Fin.nil [] ⟨rfl, rfl, rfl⟩ (by first | exact trivial | (simp [tupA, hpLt, tmLt, AV.lt, AE.lt, AC.lt, LL_cons, LL_nil, idOk, ABlk.lt, ints_LL, GB, tab64_LL, gC, wB, giC, noneB, gst, tC, pC, gN, gR, rC, rB, gO, gOH, gOK]; done) | (simp [tupA, hpLt, tmLt, AV.lt, AE.lt, AC.lt, LL_cons, LL_nil, idOk, ABlk.lt, ints_LL, GB, tab64_LL, gC, wB, giC, noneB, gst, tC, pC, gN, gR, rC, rB, gO, gOH, gOK, rdn, wrn]; done)) trivial trivial rfl (by simp [GB])
end Go.Proofs.YtfphkpdobbffeaaDoor
