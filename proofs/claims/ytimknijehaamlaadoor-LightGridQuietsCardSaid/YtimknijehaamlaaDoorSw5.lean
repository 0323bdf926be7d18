/-
  The iterator over the sums of quiet sets.
-/
import Derived.Test.YtimknijehaamlaaDoorSw4
import Derived.Test.YtimknijehaamlaaDoorAh5
import Derived.OwnWalkIn
import Derived.TacticsInMore
import Derived.LoopNIn
import Derived.LoopIn
set_option linter.unusedSimpArgs false
set_option linter.unusedVariables false
namespace Go.Proofs.YtimknijehaamlaaDoor
open Go Go.AH Go.Lin Go.RowKit Go.Shelf
attribute [local go_sem] Oper.semAt_some
set_option maxRecDepth 100000
set_option maxHeartbeats 1000000

def sumsL (Q : List Nat) : List Int := (List.range (2 ^ Q.length)).map fun c => ((sumC Q c : Nat) : Int)
def shp (Q : List Nat) : List (Nat × ABlk) := [(5, .ro [.rs 6 0 Q.length]), (6, .ro (ints (castL Q))), (100001, .ro tab64)]
def sst (Q : List Nat) (l c : Nat) : AS := ⟨[(0, .c (.yv l)), (1, .c (.ptr 5 0)), (9, .c (.int .i64 (2 ^ Q.length : Nat))), (10, .c (.int .i64 c))], shp Q, 7, 27, 7⟩
theorem sumI_lt {Q : List Nat} (hq : ∀ q ∈ Q, q < 65536) (L : List Int) : L.foldl (effI Q) 0 < 65536 := by
  have : ∀ (L : List Int) (a : Nat), a < 65536 → L.foldl (effI Q) a < 65536 := by
    intro L
    induction L with
    | nil => intro a h; exact h
    | cons i L ih =>
      intro a ha
      refine ih _ (Nat.xor_lt_two_pow (n := 16) ha ?_)
      rw [List.getD_eq_getElem?_getD]
      cases e : Q[i.toNat]? with
      | none => exact Nat.two_pow_pos 16
      | some r => exact hq r (List.mem_of_getElem? e)
  exact this L 0 (by decide)
theorem sum_mem {Q : List Nat} (hQ : Q.length ≤ 16) {c : Nat} (hc : c < 2 ^ Q.length) : (mem c).foldl (effI Q) 0 = sumC Q c := by
  have e : List.range 16 = List.range Q.length ++ (List.range (16 - Q.length)).map (Q.length + ·) := by
    rw [← List.range_add]; congr 1; omega
  have e2 : ((List.range (16 - Q.length)).map (Q.length + ·)).filter c.testBit = [] := by
    rw [List.filter_eq_nil_iff]
    intro i hi
    obtain ⟨j, _, rfl⟩ := List.mem_map.1 hi
    rw [Nat.testBit_lt_two_pow (Nat.lt_of_lt_of_le hc (Nat.pow_le_pow_right (by omega) (by omega)))]
    exact Bool.false_ne_true
  rw [mem, memN, e, List.filter_append, e2, List.append_nil, List.foldl_map, List.foldl_filter]
  rfl
def ss0 (Q : List Nat) (l : Nat) : AS := ⟨[(0, .c (.yv l)), (1, .c (.ptr 5 0))], shp Q, 7, 27, 7⟩
def ss1 (Q : List Nat) (l c : Nat) : AS := ⟨(11, .c (.bool (decide (((c : Nat) : Int) < ((2 ^ Q.length : Nat) : Int))))) :: (sst Q l c).tm, shp Q, 7, 27, 7⟩
def ss2 (Q : List Nat) (l c : Nat) : AS := ⟨(3, .c (.int .i64 c)) :: (sst Q l c).tm, shp Q, 7, 27, 7⟩
def ss3 (Q : List Nat) (l c : Nat) : AS := ⟨(4, .c (.ptr 7 0)) :: (3, .c (.int .i64 c)) :: (sst Q l c).tm, (7, .own [.int .i64 0]) :: shp Q, 8, 27, 7⟩
def ss4 (Q : List Nat) (l c : Nat) : AS := ⟨(4, .c (.ptr 7 0)) :: (sst Q l c).tm, (7, .own [.int .i64 (sumC Q c : Nat)]) :: shp Q, 9, 27, 7⟩
structure SInv {Q : List Nat} (R : AH.Ren) (W : World) (l : Nat) (J : List { x // x ∈ sumsL Q } → World → Prop) (pre : List { x // x ∈ sumsL Q }) (a : Act) (V : World) : Prop where
  nt : a.tmps.size = 27
  tm : ∀ t v, lk (sst Q l pre.length).tm t = some v → ∃ u, a.tmps[t]? = some u ∧ conV R v u
  hp : HRel R (shp Q) V
  dfs : ∃ ds, a.defers = marksOf ds ∧ Marks W.heap.size ds V
  sz : W.heap.size ≤ V.heap.size
  pr : pre.map Subtype.val = (sumsL Q).take pre.length
  le : pre.length ≤ 2 ^ Q.length
  j : J pre V
theorem sumsL_len (Q : List Nat) : (sumsL Q).length = 2 ^ Q.length := by simp [sumsL]
theorem shp_lt (Q : List Nat) : hpLt 7 (shp Q) := by simp [shp, hpLt, ABlk.lt, LL_cons, LL_nil, AC.lt, idOk, GB, ints_LL, tab64_LL]
theorem sums_iter {Q : List Nat} (hQ : Q.length ≤ 16) (hq : ∀ q ∈ Q, q < 65536) : FIter Tryd.prog 91 [5] (shp Q) (sumsL Q) := by
  refine ⟨Go.Proofs.enters_of Tryd.func91 (by kernel_rfl) rfl, fun R w n hok hn H l J Jx W hW hlW hJ hJx hY h0 => ?_⟩
  have hH : HRel R (shp Q) W := H.keep fun i b hb => hW.block _ (H.blk i b hb).lt
  obtain ⟨N, hN⟩ : ∃ N, N = 2 ^ Q.length := ⟨_, rfl⟩
  have hN2 : N ≤ 65536 := by rw [hN]; exact (Nat.pow_le_pow_right (by omega) hQ : 2 ^ Q.length ≤ 2 ^ 16)
  have hwl : IntKind.u64.wrap ((Q.length : Nat) : Int) = (Q.length : Nat) := wrapU (by omega)
  have hsh : (1 : Int) * 2 ^ (Int.toNat ((Q.length : Nat) : Int)) = (N : Int) := by simp [hN]
  have hlen : (ints (castL Q)).length = Q.length := by rw [ints_len, castL_len]
  refine callsIn_of_wp_marks Tryd.func91 rfl trivial ?_ rfl
  have hz : (#[Value.func (Fn.yield l) #[] #[]] ++ (List.map R.p0 [5]).toArray ++ Array.replicate (Tryd.f91.ntmps - (#[Value.func (Fn.yield l) #[] #[]] ++ (List.map R.p0 [5]).toArray).size) undef) = #[Value.func (Fn.yield l) #[] #[], R.p0 5, undef, undef, undef, undef, undef, undef, undef, undef, undef, undef, undef, undef, undef, undef, undef, undef, undef, undef, undef, undef, undef, undef, undef, undef, undef] := by
    simp [show Tryd.f91.ntmps = 27 from rfl, Array.replicate_succ]
  rw [hz]
  refine wpIn_seq (seg (md := true) (s := ss0 Q l) (t := sst Q l 0) tok (Fit.base (ds := []) (B := W.heap.size) hok rfl ?_ hH rfl ⟨rfl, Nat.le_of_ble_eq_true rfl⟩ (by simp [tupA, hpLt, tmLt, AV.lt, AE.lt, AC.lt, LL_cons, LL_nil, idOk, ABlk.lt, ints_LL, GB, tab64_LL, castL, shp, ss0, sst]) (shp_lt Q) rfl ⟨List.nodup_nil, fun d hd => absurd hd List.not_mem_nil⟩) ?_ ?_)
  · intro t v ht
    simp only [ss0, lk] at ht
    split at ht
    · rename_i e; subst e; injection ht with ht; subst ht; exact ⟨_, rfl, rfl⟩
    · split at ht
      · rename_i e; subst e; injection ht with ht; subst ht; exact ⟨_, rfl, rfl⟩
      · cases ht
  · refine Wk.on ?_
    rw [hwl]
    refine Wk.on ?_
    rw [hsh]
    refine Wk.on ?_
    exact Under.wk [] ⟨rfl, rfl, Nat.le_of_ble_eq_true rfl, Nat.le_of_ble_eq_true rfl⟩ rfl ⟨.inl rfl, .inl rfl, .inl (by rw [← hN]; rfl), .inl rfl, trivial⟩ ⟨.inl rfl, .inr (.inl (.inl (ints_ren _ _).symm)), .inl (congrArg ABlk.ro (tab64_ren _).symm), trivial⟩ rfl (by simp [sst, tupA, hpLt, tmLt, AV.lt, AE.lt, AC.lt, idOk, GB]) (shp_lt Q)
  intro a V R' F'
  obtain ⟨hdf, hj, hVs⟩ := F'.close (B := W.heap.size) (J := J) (x := []) ⟨List.nodup_nil, fun d hd => absurd hd List.not_mem_nil⟩ (Nat.le_refl _) hJ h0
  have hag := F'.agree0 hok
  refine wpIn_block (wpIn_loop_ghost (SInv R W l J) (fun pre => 2 ^ Q.length - pre.length) [] ⟨F'.nt, fun t v h => ?_, F'.hp.ag hag (shp_lt Q) rfl, hdf, hVs, rfl, Nat.zero_le _, hj⟩ ?_)
  · obtain ⟨u, h1, h2⟩ := F'.tm t v h
    exact ⟨u, h1, conV.agree hag (F'.wf.tm t v h) h2⟩
  clear hag hj hVs hdf F'
  rintro pre a V inv
  obtain ⟨ds, hd, hm⟩ := inv.dfs
  obtain ⟨c, hc⟩ : ∃ c, c = pre.length := ⟨_, rfl⟩
  have hcN : c ≤ N := by rw [hc, hN]; exact inv.le
  have htm := inv.tm
  rw [← hc] at htm
  have F1 : Fit ⟨V, R, 7, fun j => j ∈ ds⟩ R (sst Q l c) a V := Fit.base hok inv.nt htm inv.hp rfl ⟨rfl, Nat.le_of_ble_eq_true rfl⟩ (by simp [sst, ss0, ss1, ss2, ss3, ss4, tupA, hpLt, tmLt, AV.lt, AE.lt, AC.lt, idOk, GB]) (shp_lt Q) hd hm
  refine wpIn_seq (seg (md := true) (t := ss1 Q l c) tok F1 ?_ ?_)
  · refine Wk.on ?_
    exact Under.wk [] ⟨rfl, rfl, Nat.le_of_ble_eq_true rfl, Nat.le_of_ble_eq_true rfl⟩ rfl ⟨.inl rfl, .inl rfl, .inl rfl, .inl rfl, .inl rfl, trivial⟩ ⟨.inl rfl, .inr (.inl (.inl (ints_ren _ _).symm)), .inl (congrArg ABlk.ro (tab64_ren _).symm), trivial⟩ rfl (by simp [sst, ss0, ss1, ss2, ss3, ss4, tupA, hpLt, tmLt, AV.lt, AE.lt, AC.lt, idOk, GB]) (shp_lt Q)
  intro a1 V1 R1 F2
  have hev := (ev_sound F2 (x := .tmp 11) rfl).1
  by_cases hlt : c < N
  · have hev : a1.eval (.tmp 11) = .bool true := by
      have h2 : decide (((c : Nat) : Int) < ((2 ^ Q.length : Nat) : Int)) = true := decide_eq_true (by omega)
      have : a1.eval (.tmp 11) = .bool (decide (((c : Nat) : Int) < ((2 ^ Q.length : Nat) : Int))) := hev
      rw [this, h2]
    refine wpIn_seq (wpIn_cond_true hev (wpIn_skip ?_))
    refine wpIn_seq (wpIn_block ?_)
    refine wpIn_seq (seg (md := true) (t := ss2 Q l c) tok F2 ?_ ?_)
    · refine Wk.on ?_
      exact Under.wk [] ⟨rfl, rfl, Nat.le_of_ble_eq_true rfl, Nat.le_of_ble_eq_true rfl⟩ rfl ⟨.inl rfl, .inl rfl, .inl rfl, .inl rfl, .inl rfl, trivial⟩ ⟨.inl rfl, .inr (.inl (.inl (ints_ren _ _).symm)), .inl (congrArg ABlk.ro (tab64_ren _).symm), trivial⟩ rfl (by simp [sst, ss0, ss1, ss2, ss3, ss4, tupA, hpLt, tmLt, AV.lt, AE.lt, AC.lt, idOk, GB]) (shp_lt Q)
    intro a2 V2 R2 F3
    refine wpIn_seq (seg (md := true) (t := ss3 Q l c) tok F3 ?_ ?_)
    · refine Wk.on ?_
      exact Under.wk [] ⟨rfl, rfl, Nat.le_of_ble_eq_true rfl, Nat.le_of_ble_eq_true rfl⟩ rfl ⟨.inl rfl, .inl rfl, .inl rfl, .inl rfl, .inl rfl, .inl rfl, trivial⟩ ⟨.inl rfl, .inl rfl, .inr (.inl (.inl (ints_ren _ _).symm)), .inl (congrArg ABlk.ro (tab64_ren _).symm), trivial⟩ rfl (by simp [sst, ss0, ss1, ss2, ss3, ss4, tupA, hpLt, tmLt, AV.lt, AE.lt, AC.lt, idOk, GB]) (by simp [sst, ss0, ss1, ss2, ss3, ss4, shp, hpLt, ABlk.lt, LL_cons, LL_nil, AC.lt, idOk, GB, ints_LL, tab64_LL])
    intro a3 V3 R3 F4
    refine wpIn_seq (seg (md := true) (t := ss4 Q l c) tok F4 ?_ ?_)
    · refine Wk.on ?_
      refine CallA.det2 [] (.c (.fn 89 [] [8])) ([(7, .own [.int .i64 0]), (5, .ro [.rs 6 0 Q.length]), (6, .ro (ints (castL Q))), (100001, .ro tab64), (8, .own [.int .i64 c])]) (members_spec c) ?_
      refine Wk.on ?_
      refine Tr.range (md := true) tok rfl (mem c) ([(8, .ro [.int .i64 c]), (100001, .ro tab64)]) (members1_iter (n := c) (by omega) 8 (by decide)) (by (repeat (first | exact trivial | refine ⟨trivial, ?_⟩ | refine ⟨rfl, ?_⟩))) rfl (fun pre => [(7, .own [.int .i64 (pre.foldl (effI Q) 0 : Nat)]), (5, .ro [.rs 6 0 Q.length]), (6, .ro (ints (castL Q))), (100001, .ro tab64), (8, .ro [.int .i64 c])]) (fun _ => True) (9) (by decide) (by first | trivial | rfl | decide | simp) (by (repeat (first | exact trivial | refine ⟨trivial, ?_⟩ | refine ⟨rfl, ?_⟩))) (fun pre hpre => (by simp [tupA, hpLt, tmLt, AV.lt, AE.lt, AC.lt, LL_cons, LL_nil, idOk, ABlk.lt, ints_LL, GB, tab64_LL, castL, shp, ss0, sst])) (fun pre hpre => ⟨(by (repeat (first | exact trivial | refine ⟨trivial, ?_⟩ | refine ⟨rfl, ?_⟩))), (by (repeat (first | exact trivial | refine ⟨trivial, ?_⟩ | refine ⟨rfl, ?_⟩)))⟩) rfl rfl (by decide) ?_ ?_
      · intro pre x hpre _ hx hl
        obtain ⟨x0, x1, x2⟩ := mem_lt (k := Q.length) (by omega) hx
        obtain ⟨j, rfl⟩ : ∃ j : Nat, x = j := ⟨x.toNat, by omega⟩
        rw [Int.toNat_natCast] at x1
        obtain ⟨u, hu⟩ : ∃ u, u = pre.foldl (effI Q) 0 := ⟨_, rfl⟩
        obtain ⟨e, he⟩ : ∃ e, e = Q.getD j 0 := ⟨_, rfl⟩
        simp only [← hu]
        have hu2 : u < 65536 := by rw [hu]; exact sumI_lt hq _
        have he2 : e < 65536 := by
          rw [he, List.getD_eq_getElem?_getD, List.getElem?_eq_getElem x1]; exact hq _ (List.getElem_mem x1)
        refine Wk.on ?_
        refine Tr.draw (md := true) [⟨[], [17, 18, 19, 20], [], [], []⟩, ⟨[], [16, 18], [0], [], []⟩, ⟨[], [16, 17], [0, 1], [], []⟩, ⟨[1, 2], [16], [0], [], []⟩, ⟨[1, 2, 3], [16], [0], [], []⟩] tok (by kernel_rfl) (by kernel_rfl) ?_
        refine Wk.on ?_
        rw [show 0 + Int.toNat ((j : Nat) : Int) * 1 = j by rw [Int.toNat_natCast]; omega, ints_getD, castL_getD, ← he]
        refine Wk.on ?_
        refine Wk.on ?_
        refine ⟨(), trivial, RoundOk.nil ⟨?_, rfl, rfl, rfl, rfl, trivial⟩ rfl⟩
        show ABlk.own [.int .i64 ((((u : Int).toNat ^^^ (e : Int).toNat : Nat) : Int))] = ABlk.own _
        rw [List.foldl_append, ← hu, Int.toNat_natCast, Int.toNat_natCast, he]
        rfl
      · intro _
        rw [sum_mem hQ (by omega)]
        refine Wk.on ?_
        exact Under.wk [] ⟨rfl, rfl, Nat.le_of_ble_eq_true rfl, Nat.le_of_ble_eq_true rfl⟩ rfl ⟨.inl rfl, .inl rfl, .inl rfl, .inl rfl, .inl rfl, trivial⟩ ⟨.inl rfl, .inl rfl, .inr (.inl (.inl (ints_ren _ _).symm)), .inl (congrArg ABlk.ro (tab64_ren _).symm), trivial⟩ rfl (by simp [sst, ss0, ss1, ss2, ss3, ss4, tupA, hpLt, tmLt, AV.lt, AE.lt, AC.lt, idOk, GB]) (by simp [sst, ss0, ss1, ss2, ss3, ss4, shp, hpLt, ABlk.lt, LL_cons, LL_nil, AC.lt, idOk, GB, ints_LL, tab64_LL])
    intro a4 V4 R4 F5
    obtain ⟨⟨ds4, hd4, hm4⟩, hj4, hs4⟩ := F5.close hm inv.sz hJ inv.j
    have hag := F5.agree0 hok
    have hH4 : HRel R (shp Q) V4 := HRel.ag (R' := R4) (k := 7) ⟨fun i b hb => F5.hp.blk i b (by
        have hi : i ≠ 7 := fun e => by subst e; cases hb
        show lk ((7, _) :: shp Q) i = some b
        rw [lk, if_neg (Ne.symm hi)]; exact hb), fun i j b c' hi _ _ hw => by rw [allRo_sound (show allRo (shp Q) = true from rfl) i b hi] at hw; cases hw⟩ hag (shp_lt Q) rfl
    obtain ⟨sm, hsm⟩ : ∃ sm, sm = sumC Q c := ⟨_, rfl⟩
    obtain ⟨u0, g0, e0⟩ := F5.tm 0 _ rfl
    obtain ⟨u1, g1, e1⟩ := F5.tm 1 _ rfl
    obtain ⟨u4, g4, e4⟩ := F5.tm 4 _ rfl
    obtain ⟨u9, g9, e9⟩ := F5.tm 9 _ rfl
    obtain ⟨u10, g10, e10⟩ := F5.tm 10 _ rfl
    have e1 : u1 = .pointer (some (R.adr 5 0)) := conV.agree hag (x := .c (.ptr 5 0)) (.inl (by decide)) e1
    change u0 = _ at e0
    change u4 = _ at e4
    change u9 = _ at e9
    change u10 = _ at e10
    have hcell : V4.cell? (R4.adr 7 0) = some (.int .i64 (sm : Nat)) := by
      obtain ⟨cs, ty, h1, h2, h3, h4⟩ := F5.hp.blk 7 (.own [.int .i64 (sumC Q c : Nat)]) rfl
      obtain ⟨v, h5, h6⟩ := h4 0 (.int .i64 (sumC Q c : Nat)) rfl
      have h6 : v = .int .i64 (sumC Q c : Nat) := h6
      subst h6
      simp only [World.cell?, AH.Ren.adr, h1, hsm]
      simpa [h2] using h5
    obtain ⟨tmps4, defs4⟩ := a4
    obtain ⟨x0, x1, x2, x3, x4, x5, x6, x7, x8, x9, x10, x11, x12, x13, x14, x15, x16, x17, x18, x19, x20, x21, x22, x23, x24, x25, x26, hx⟩ := arr27 tmps4 F5.nt
    subst hx
    have hd4 : defs4 = marksOf ds4 := hd4
    subst hd4
    have g0 : some x0 = some u0 := g0
    have g1 : some x1 = some u1 := g1
    have g4 : some x4 = some u4 := g4
    have g9 : some x9 = some u9 := g9
    have g10 : some x10 = some u10 := g10
    injection g0 with g0
    injection g1 with g1
    injection g4 with g4
    injection g9 with g9
    injection g10 with g10
    subst g0 g1 g4 g9 g10
    subst e0 e1 e4 e9 e10
    have hnth : (sumsL Q)[c]? = some ((sm : Nat) : Int) := by
      rw [sumsL, List.getElem?_map, List.getElem?_range (by omega), hsm]; rfl
    have hin : ((sm : Nat) : Int) ∈ sumsL Q := List.mem_of_getElem? hnth
    have hl4 : pre.length < (sumsL Q).length := by rw [sumsL_len]; omega
    obtain ⟨fn, tmps, assign, body, hy, hR⟩ := hY pre ⟨(sm : Nat), hin⟩ V4 hj4 hl4
    clear F5 F4 F3 F2 F1 htm
    generalize R4.adr 7 0 = A at *
    obtain ⟨A5, hA5⟩ : ∃ A5, R.adr 5 0 = A5 := ⟨_, rfl⟩
    rw [hA5]
    show Code.wpIn (FW none) n Tryd.prog (Code.seq _ _) _ _ V4
    have hpk : ∃ _ : Unit, c = pre.length ∧ N = 2 ^ Q.length ∧ sm = sumC Q c ∧ R.adr 5 0 = A5 := ⟨(), hc, hN, hsm, hA5⟩
    clear hc hN hsm hwl hsh hA5
    obtain ⟨F, hF⟩ : ∃ F, F = FW none := ⟨_, rfl⟩
    have hro : F.round = none := by rw [hF]; rfl
    rw [← hF] at hR ⊢
    have hFp : ∃ _ : Unit, F = FW none := ⟨(), hF⟩
    clear hF
    gi_wp2
    refine hR.mono ?_
    rintro e W3 (⟨rfl, hJ3, hk3, hk4, hk5⟩ | ⟨rfl, hJx3, hk4⟩)
    · gi_wp2
      obtain ⟨_, hc, hN, hsm, hA5⟩ := hpk
      refine ⟨pre ++ [⟨(sm : Nat), hin⟩], ⟨rfl, ?_, hH4.keep hk3, ⟨ds4, rfl, hm4.1, fun d hd => ⟨(hm4.2 d hd).1, hk4 d _ (fun e => by have := (hm4.2 d hd).1; omega) (Nat.le_trans hW.size (hm4.2 d hd).1) (hm4.2 d hd).2⟩⟩, Nat.le_trans hs4 hk5, ?_, by rw [List.length_append, List.length_singleton]; omega, hJ3⟩, by rw [List.length_append, List.length_singleton]; omega⟩
      · intro t v ht
        simp only [sst, lk] at ht
        split at ht
        · rename_i e; subst e; injection ht with ht; subst ht; exact ⟨_, rfl, rfl⟩
        split at ht
        · rename_i e; subst e; injection ht with ht; subst ht; exact ⟨_, rfl, by show Value.pointer (some A5) = Value.pointer (some (R.adr 5 0)); rw [hA5]⟩
        split at ht
        · rename_i e; subst e; injection ht with ht; subst ht; exact ⟨_, rfl, by show Value.int .i64 _ = Value.int .i64 _; simp⟩
        split at ht
        · rename_i e; subst e; injection ht with ht; subst ht; exact ⟨_, rfl, by show Value.int .i64 _ = Value.int .i64 _; rw [List.length_append, List.length_singleton, ← hc]; rfl⟩
        · cases ht
      · rw [List.map_append, inv.pr, List.length_append, List.length_singleton, List.take_add_one, ← hc, hnth]; rfl
    · gi_wp2
      obtain ⟨_, hF⟩ := hFp
      obtain ⟨_, hc, hN, hsm, hA5⟩ := hpk
      subst hF
      refine leavesJ (B := W.heap.size) (J := fun _ V => Jx (pre ++ [⟨(sm : Nat), hin⟩]) V) (fun s A B row h hg hr => hJx _ A B row h hg hr) (fun V hV => ⟨_, results_none rfl _ _ _, ⟨⟨_, rfl⟩, .inr ⟨_, ?_, hV⟩⟩⟩) ds4 W3 hJx3 ⟨hm4.1, fun d hd => ⟨(hm4.2 d hd).1, hk4 d _ (fun e => by have := (hm4.2 d hd).1; omega) (Nat.le_trans hW.size (hm4.2 d hd).1) (hm4.2 d hd).2⟩⟩
      refine ⟨(sumsL Q).drop (c + 1), ?_⟩
      rw [List.map_append, inv.pr, ← hc]
      have h1 : List.take c (sumsL Q) ++ [((sm : Nat) : Int)] = (sumsL Q).take (c + 1) := by rw [List.take_add_one, hnth]; rfl
      show List.take c (sumsL Q) ++ [((sm : Nat) : Int)] ++ _ = _
      rw [h1, List.take_append_drop]
  · have hev : a1.eval (.tmp 11) = .bool false := by
      have h2 : decide (((c : Nat) : Int) < ((2 ^ Q.length : Nat) : Int)) = false := decide_eq_false (by omega)
      have : a1.eval (.tmp 11) = .bool (decide (((c : Nat) : Int) < ((2 ^ Q.length : Nat) : Int))) := hev
      rw [this, h2]
    obtain ⟨⟨ds4, hd4, hm4⟩, hj4, hs4⟩ := F2.close hm inv.sz hJ inv.j
    refine wpIn_seq (wpIn_cond_false hev (wpIn_exit ?_))
    show LeavesInM (FW none) n Tryd.prog Tryd.f91 a1.tmps _ a1.defers .returning V1
    rw [hd4]
    refine leavesJ (B := W.heap.size) (J := fun _ V => J pre V) (fun s A B row h hg hr => hJ _ A B row h hg hr) (fun V hV => ⟨_, results_none rfl _ _ _, ⟨⟨_, rfl⟩, .inl ⟨pre, ?_, hV⟩⟩⟩) ds4 V1 hj4 hm4
    show pre.map Subtype.val = sumsL Q
    rw [inv.pr, List.take_of_length_le]
    rw [sumsL_len]; omega
end Go.Proofs.YtimknijehaamlaaDoor

/-
  Contracts: the fewest lamps.
-/
namespace Go.Proofs.YtimknijehaamlaaDoor
open Go Go.AH Go.Lin
set_option maxRecDepth 100000
set_option maxHeartbeats 1000000

theorem sums_row (Q : List Nat) : FDet Tryd.prog 77 [.c (.row 0 Q.length)] [(0, .row 3 1 (ints (castL Q)))] 1 (.c (.fn 91 [] [1])) [(0, .row 3 1 (ints (castL Q))), (1, .own [.row 0 Q.length])] 2 := by
  refine FSpec.body2 tok true Tryd.func77 ?_
  refine Wk.on ?_
  exact AH.Fin.new [1] _ _ ⟨rfl, rfl, rfl⟩ rfl ⟨by show some (ABlk.row 3 1 _) = some (ABlk.row 3 1 ((ints _).map _)); rw [ints_ren], rfl, trivial⟩ rfl (by simp [tupA, hpLt, tmLt, AV.lt, AE.lt, AC.lt, LL_cons, LL_nil, idOk, ABlk.lt, ints_LL, GB, tab64_LL, pC, castL, lC, shp]) (by simp [tupA, hpLt, tmLt, AV.lt, AE.lt, AC.lt, LL_cons, LL_nil, idOk, ABlk.lt, ints_LL, GB, tab64_LL, pC, castL, lC, shp])
theorem sums_nil : FDet Tryd.prog 77 [.c .nils] [] 0 (.c (.fn 91 [] [0])) [(0, .own [.nils])] 1 := by
  refine FSpec.body2 tok true Tryd.func77 ?_
  refine Wk.on ?_
  exact AH.Fin.new [0] _ _ ⟨rfl, rfl, rfl⟩ rfl (by simp only [hpAll]; exact (by (repeat (first | exact trivial | refine ⟨rfl, ?_⟩)))) rfl (by simp [tupA, hpLt, tmLt, AV.lt, AE.lt, AC.lt, LL_cons, LL_nil, idOk, ABlk.lt, ints_LL, GB, tab64_LL, pC, castL, lC, shp]) (by simp [tupA, hpLt, tmLt, AV.lt, AE.lt, AC.lt, LL_cons, LL_nil, idOk, ABlk.lt, ints_LL, GB, tab64_LL, pC, castL, lC, shp])
def fI (first : Nat) (o : Nat) (s : Int) : Nat := if lessB pop (first ^^^ s.toNat) o then first ^^^ s.toNat else o
theorem fI_all (first : Nat) (Q : List Nat) : (sumsL Q).foldl (fI first) first = fewF pop first ((List.range (2 ^ Q.length)).map (sumC Q)) := by
  rw [sumsL, fewF, List.foldl_map, List.foldl_map]
  rfl
theorem sumC_lt {Q : List Nat} (hQ : Q.length ≤ 16) (hq : ∀ q ∈ Q, q < 65536) {c : Nat} (hc : c < 2 ^ Q.length) : sumC Q c < 65536 := by
  rw [← sum_mem hQ hc]; exact sumI_lt hq _
theorem fI_lt {first : Nat} (hf : first < 65536) : ∀ (L : List Int), (∀ s ∈ L, s.toNat < 65536) → ∀ o, o < 65536 → L.foldl (fI first) o < 65536
  | [], _, o, h => h
  | s :: L, hL, o, h => by
    refine fI_lt hf L (fun s hs => hL s (by simp [hs])) _ ?_
    unfold fI
    split
    · exact Nat.xor_lt_two_pow (n := 16) hf (hL s (by simp))
    · exact h
def fewN (n : Nat) (rows : List Nat) (t : Nat) : Nat := if (solP (bsR n rows) t).2 = 0 then fewF pop (solP (bsR n rows) t).1 ((List.range (2 ^ (qsR n rows).length)).map (sumC (qsR n rows))) else 0
theorem fewest_spec {n : Nat} {rows : List Nat} (h : Lm n rows) {t : Nat} (ht : t < 2 ^ n) : FDet Tryd.prog 58 [.c (.ptr 0 0), .c (.int .i64 t)] [(0, .ro (lC n rows)), (100001, .ro tab64)] 1 (.t [.c (.int .i64 (fewN n rows t : Nat)), .c (.bool (decide ((solP (bsR n rows) t).2 = 0)))]) [] 1 := by
  have hn := h.n16
  have hpw := h.pow
  have hl17 : (lC n rows).length = 17 := by rw [lC, List.length_cons, ints_len, castL_len, h.len]
  have hs := solve_spec h ht
  have hsl : (solP (bsR n rows) t).2 = red ((bsR n rows).map Prod.snd) t ∧ (solP (bsR n rows) t).1 < 2 ^ n ∧ ((solP (bsR n rows) t).2 = 0 → eff rows (solP (bsR n rows) t).1 = t) := (inv_all rows n (by rw [h.len]; omega)).sol t
  obtain ⟨hS, hB, hQ, hQs⟩ := h.small (Nat.le_refl n)
  have hr := reduced_spec h
  unfold fewN
  unfold bsR at hs hsl ⊢
  unfold qsR
  generalize reducedP rows n = BQ at *
  obtain ⟨B, Q⟩ := BQ
  dsimp only at hs hsl hS hB hQ hQs hr ⊢
  obtain ⟨_, hf, _⟩ := hsl
  generalize solP B t = sol at *
  obtain ⟨f, z⟩ := sol
  dsimp only at hs hf ⊢
  have hf2 : f < 65536 := by omega
  by_cases hz : z = 0
  · rw [if_pos hz, decide_eq_true hz]
    rw [decide_eq_true hz] at hs
    rcases B with _ | ⟨b0, B0⟩ <;> rcases Q with _ | ⟨q0, Q0⟩
    · skip
      have hr : FDet Tryd.prog 51 [.c (.ptr 0 0)] [(0, .ro (lC n rows))] 1 (.t [.c (.nils), .c (.nils)]) [] 1 := hr
      refine FSpec.body2 tok true Tryd.func58 ?_
      refine Wk.on ?_
      refine CallA.ro2 [0] (.t [.c (.int .i64 f), .c (.bool true)]) (hs) ?_
      refine Wk.on ?_
      refine CallA.det2 [0] (.t [.c (.nils), .c (.nils)]) ([(1, .own [.int .i64 f]), (0, .ro (lC n rows)), (100001, .ro tab64)]) (hr) ?_
      refine Wk.on ?_
      refine CallA.det2 [] (.c (.fn 91 [] [3])) ([(2, .own [.int .i64 f]), (1, .own [.int .i64 f]), (0, .ro (lC n rows)), (100001, .ro tab64), (3, .own [.nils])]) (sums_nil) ?_
      refine Wk.on ?_
      refine Tr.under (t := ⟨[(6, .c (.ptr 7 0)), (10, .c (.ptr 8 0)), (27, .c (.fn 91 [] [5]))], [(5, .ro [.rs 6 0 0]), (6, .ro (ints (castL []))), (100001, .ro tab64), (7, .own [.int .i64 f]), (8, .own [.int .i64 f])], 9, 38, 1⟩) (Under.wk [(5, 3), (6, 0), (7, 1), (8, 2)] ⟨rfl, rfl, Nat.le_of_ble_eq_true rfl, Nat.le_of_ble_eq_true rfl⟩ rfl ⟨.inl rfl, .inl rfl, .inl rfl, trivial⟩ ⟨.inr (.inl (.inr ⟨rfl, trivial⟩)), .inr (.inr ⟨rfl, rfl⟩), .inl (congrArg ABlk.ro (tab64_ren _).symm), .inl rfl, .inl rfl, trivial⟩ rfl (by simp [tupA, hpLt, tmLt, AV.lt, AE.lt, AC.lt, LL_cons, LL_nil, idOk, ABlk.lt, ints_LL, GB, tab64_LL, pC, castL, lC, shp]) (by simp [tupA, hpLt, tmLt, AV.lt, AE.lt, AC.lt, LL_cons, LL_nil, idOk, ABlk.lt, ints_LL, GB, tab64_LL, pC, castL, lC, shp])) ?_
      refine Tr.range (md := true) tok rfl (sumsL []) ([(5, .ro [.rs 6 0 0]), (6, .ro (ints (castL []))), (100001, .ro tab64)]) ((sums_iter hQ hQs)) (by (repeat (first | exact trivial | refine ⟨trivial, ?_⟩ | refine ⟨rfl, ?_⟩))) rfl (fun pre => [(5, .ro [.rs 6 0 0]), (6, .ro (ints (castL []))), (100001, .ro tab64), (7, .own [.int .i64 f]), (8, .own [.int .i64 (pre.foldl (fI f) f : Nat)])]) (fun _ => True) (9) (by decide) (by first | trivial | rfl | decide | simp) (by (repeat (first | exact trivial | refine ⟨trivial, ?_⟩ | refine ⟨rfl, ?_⟩))) (fun pre hpre => (by simp [tupA, hpLt, tmLt, AV.lt, AE.lt, AC.lt, LL_cons, LL_nil, idOk, ABlk.lt, ints_LL, GB, tab64_LL, pC, castL, lC, shp])) (fun pre hpre => ⟨(by (repeat (first | exact trivial | refine ⟨trivial, ?_⟩ | refine ⟨rfl, ?_⟩))), (by (repeat (first | exact trivial | refine ⟨trivial, ?_⟩ | refine ⟨rfl, ?_⟩)))⟩) rfl rfl (by decide) ?_ ?_
      · intro pre x hpre _ hx hl
        have hall : ∀ s ∈ pre, s.toNat < 65536 := fun s hs => by
          obtain ⟨c, hc, rfl⟩ := List.mem_map.1 (hpre s hs)
          rw [Int.toNat_natCast]; exact sumC_lt hQ hQs (List.mem_range.1 hc)
        obtain ⟨c, hc, rfl⟩ := List.mem_map.1 hx
        have hs2 := sumC_lt hQ hQs (List.mem_range.1 hc)
        obtain ⟨o, ho⟩ : ∃ o, o = pre.foldl (fI f) f := ⟨_, rfl⟩
        have ho2 : o < 65536 := by rw [ho]; exact fI_lt hf2 pre hall f hf2
        generalize sumC [] c = s at *
        simp only [← ho]
        have hx2 : f ^^^ s < 65536 := Nat.xor_lt_two_pow (n := 16) hf2 hs2
        have hfx : Int.toNat ((f : Nat) : Int) ^^^ Int.toNat ((s : Nat) : Int) = f ^^^ s := by rw [Int.toNat_natCast, Int.toNat_natCast]
        have hst : (pre ++ [((s : Nat) : Int)]).foldl (fI f) f = if lessB pop (f ^^^ s) o then f ^^^ s else o := by
          rw [List.foldl_append, ← ho]; rfl
        refine Wk.on ?_
        rw [hfx]
        refine CallA.ro2 [] (.c (.bool (lessB pop (f ^^^ s) o))) (less_spec hx2 ho2) ?_
        refine Wk.on ?_
        by_cases hl : lessB pop (f ^^^ s) o = true
        · rw [if_pos hl] at hst
          rw [hl]
          refine Wk.on ?_
          rw [hfx]
          refine Wk.on ?_
          refine ⟨(), trivial, RoundOk.nil ⟨rfl, rfl, rfl, rfl, ?_, trivial⟩ rfl⟩
          show ABlk.own [.int .i64 ((f ^^^ s : Nat) : Int)] = ABlk.own _
          rw [hst]
        · rw [if_neg hl] at hst
          rw [Bool.eq_false_iff.2 hl]
          refine Wk.on ?_
          refine ⟨(), trivial, RoundOk.nil ⟨rfl, rfl, rfl, rfl, ?_, trivial⟩ rfl⟩
          show ABlk.own [.int .i64 o] = ABlk.own _
          rw [hst]
      · intro _
        rw [fI_all]
        refine Wk.on ?_
        exact AH.Fin.nil2 ⟨rfl, rfl, rfl⟩
    · skip
      have hr : FDet Tryd.prog 51 [.c (.ptr 0 0)] [(0, .ro (lC n rows))] 1 (.t [.c (.nils), .c (.row 1 (q0 :: Q0).length)]) [(1, .row 3 1 (ints (castL (q0 :: Q0))))] 2 := hr
      refine FSpec.body2 tok true Tryd.func58 ?_
      refine Wk.on ?_
      refine CallA.ro2 [0] (.t [.c (.int .i64 f), .c (.bool true)]) (hs) ?_
      refine Wk.on ?_
      refine CallA.det2 [0] (.t [.c (.nils), .c (.row 2 (q0 :: Q0).length)]) ([(1, .own [.int .i64 f]), (0, .ro (lC n rows)), (100001, .ro tab64), (2, .row 3 1 (ints (castL (q0 :: Q0))))]) (hr) ?_
      refine Wk.on ?_
      refine CallA.det2 [2] (.c (.fn 91 [] [4])) ([(3, .own [.int .i64 f]), (1, .own [.int .i64 f]), (0, .ro (lC n rows)), (100001, .ro tab64), (4, .own [.row 2 (q0 :: Q0).length]), (2, .row 3 1 (ints (castL (q0 :: Q0))))]) (sums_row (q0 :: Q0)) ?_
      refine Wk.on ?_
      refine Tr.under (t := ⟨[(6, .c (.ptr 7 0)), (10, .c (.ptr 8 0)), (27, .c (.fn 91 [] [5]))], [(5, .ro [.rs 6 0 (q0 :: Q0).length]), (6, .ro (ints (castL (q0 :: Q0)))), (100001, .ro tab64), (7, .own [.int .i64 f]), (8, .own [.int .i64 f])], 9, 38, 1⟩) (Under.wk [(5, 4), (6, 2), (7, 1), (8, 3)] ⟨rfl, rfl, Nat.le_of_ble_eq_true rfl, Nat.le_of_ble_eq_true rfl⟩ rfl ⟨.inl rfl, .inl rfl, .inl rfl, trivial⟩ ⟨.inr (.inl (.inr ⟨⟨⟨rfl, rfl, rfl⟩, trivial⟩, trivial⟩)), .inr (.inl (.inl (ints_ren _ _).symm)), .inl (congrArg ABlk.ro (tab64_ren _).symm), .inl rfl, .inl rfl, trivial⟩ rfl (by simp [tupA, hpLt, tmLt, AV.lt, AE.lt, AC.lt, LL_cons, LL_nil, idOk, ABlk.lt, ints_LL, GB, tab64_LL, pC, castL, lC, shp]) (by simp [tupA, hpLt, tmLt, AV.lt, AE.lt, AC.lt, LL_cons, LL_nil, idOk, ABlk.lt, ints_LL, GB, tab64_LL, pC, castL, lC, shp])) ?_
      refine Tr.range (md := true) tok rfl (sumsL (q0 :: Q0)) ([(5, .ro [.rs 6 0 (q0 :: Q0).length]), (6, .ro (ints (castL (q0 :: Q0)))), (100001, .ro tab64)]) ((sums_iter hQ hQs)) (by (repeat (first | exact trivial | refine ⟨trivial, ?_⟩ | refine ⟨rfl, ?_⟩))) rfl (fun pre => [(5, .ro [.rs 6 0 (q0 :: Q0).length]), (6, .ro (ints (castL (q0 :: Q0)))), (100001, .ro tab64), (7, .own [.int .i64 f]), (8, .own [.int .i64 (pre.foldl (fI f) f : Nat)])]) (fun _ => True) (9) (by decide) (by first | trivial | rfl | decide | simp) (by (repeat (first | exact trivial | refine ⟨trivial, ?_⟩ | refine ⟨rfl, ?_⟩))) (fun pre hpre => (by simp [tupA, hpLt, tmLt, AV.lt, AE.lt, AC.lt, LL_cons, LL_nil, idOk, ABlk.lt, ints_LL, GB, tab64_LL, pC, castL, lC, shp])) (fun pre hpre => ⟨(by (repeat (first | exact trivial | refine ⟨trivial, ?_⟩ | refine ⟨rfl, ?_⟩))), (by (repeat (first | exact trivial | refine ⟨trivial, ?_⟩ | refine ⟨rfl, ?_⟩)))⟩) rfl rfl (by decide) ?_ ?_
      · intro pre x hpre _ hx hl
        have hall : ∀ s ∈ pre, s.toNat < 65536 := fun s hs => by
          obtain ⟨c, hc, rfl⟩ := List.mem_map.1 (hpre s hs)
          rw [Int.toNat_natCast]; exact sumC_lt hQ hQs (List.mem_range.1 hc)
        obtain ⟨c, hc, rfl⟩ := List.mem_map.1 hx
        have hs2 := sumC_lt hQ hQs (List.mem_range.1 hc)
        obtain ⟨o, ho⟩ : ∃ o, o = pre.foldl (fI f) f := ⟨_, rfl⟩
        have ho2 : o < 65536 := by rw [ho]; exact fI_lt hf2 pre hall f hf2
        generalize sumC (q0 :: Q0) c = s at *
        simp only [← ho]
        have hx2 : f ^^^ s < 65536 := Nat.xor_lt_two_pow (n := 16) hf2 hs2
        have hfx : Int.toNat ((f : Nat) : Int) ^^^ Int.toNat ((s : Nat) : Int) = f ^^^ s := by rw [Int.toNat_natCast, Int.toNat_natCast]
        have hst : (pre ++ [((s : Nat) : Int)]).foldl (fI f) f = if lessB pop (f ^^^ s) o then f ^^^ s else o := by
          rw [List.foldl_append, ← ho]; rfl
        refine Wk.on ?_
        rw [hfx]
        refine CallA.ro2 [] (.c (.bool (lessB pop (f ^^^ s) o))) (less_spec hx2 ho2) ?_
        refine Wk.on ?_
        by_cases hl : lessB pop (f ^^^ s) o = true
        · rw [if_pos hl] at hst
          rw [hl]
          refine Wk.on ?_
          rw [hfx]
          refine Wk.on ?_
          refine ⟨(), trivial, RoundOk.nil ⟨rfl, rfl, rfl, rfl, ?_, trivial⟩ rfl⟩
          show ABlk.own [.int .i64 ((f ^^^ s : Nat) : Int)] = ABlk.own _
          rw [hst]
        · rw [if_neg hl] at hst
          rw [Bool.eq_false_iff.2 hl]
          refine Wk.on ?_
          refine ⟨(), trivial, RoundOk.nil ⟨rfl, rfl, rfl, rfl, ?_, trivial⟩ rfl⟩
          show ABlk.own [.int .i64 o] = ABlk.own _
          rw [hst]
      · intro _
        rw [fI_all]
        refine Wk.on ?_
        exact AH.Fin.nil2 ⟨rfl, rfl, rfl⟩
    · skip
      have hr : FDet Tryd.prog 51 [.c (.ptr 0 0)] [(0, .ro (lC n rows))] 1 (.t [.c (.row 1 (b0 :: B0).length), .c (.nils)]) [(1, .row 93 2 (ints (prs (b0 :: B0))))] 2 := hr
      refine FSpec.body2 tok true Tryd.func58 ?_
      refine Wk.on ?_
      refine CallA.ro2 [0] (.t [.c (.int .i64 f), .c (.bool true)]) (hs) ?_
      refine Wk.on ?_
      refine CallA.det2 [0] (.t [.c (.row 2 (b0 :: B0).length), .c (.nils)]) ([(1, .own [.int .i64 f]), (0, .ro (lC n rows)), (100001, .ro tab64), (2, .row 93 2 (ints (prs (b0 :: B0))))]) (hr) ?_
      refine Wk.on ?_
      refine CallA.det2 [] (.c (.fn 91 [] [4])) ([(3, .own [.int .i64 f]), (1, .own [.int .i64 f]), (0, .ro (lC n rows)), (100001, .ro tab64), (2, .row 93 2 (ints (prs (b0 :: B0)))), (4, .own [.nils])]) (sums_nil) ?_
      refine Wk.on ?_
      refine Tr.under (t := ⟨[(6, .c (.ptr 7 0)), (10, .c (.ptr 8 0)), (27, .c (.fn 91 [] [5]))], [(5, .ro [.rs 6 0 0]), (6, .ro (ints (castL []))), (100001, .ro tab64), (7, .own [.int .i64 f]), (8, .own [.int .i64 f])], 9, 38, 1⟩) (Under.wk [(5, 4), (6, 0), (7, 1), (8, 3)] ⟨rfl, rfl, Nat.le_of_ble_eq_true rfl, Nat.le_of_ble_eq_true rfl⟩ rfl ⟨.inl rfl, .inl rfl, .inl rfl, trivial⟩ ⟨.inr (.inl (.inr ⟨rfl, trivial⟩)), .inr (.inr ⟨rfl, rfl⟩), .inl (congrArg ABlk.ro (tab64_ren _).symm), .inl rfl, .inl rfl, trivial⟩ rfl (by simp [tupA, hpLt, tmLt, AV.lt, AE.lt, AC.lt, LL_cons, LL_nil, idOk, ABlk.lt, ints_LL, GB, tab64_LL, pC, castL, lC, shp]) (by simp [tupA, hpLt, tmLt, AV.lt, AE.lt, AC.lt, LL_cons, LL_nil, idOk, ABlk.lt, ints_LL, GB, tab64_LL, pC, castL, lC, shp])) ?_
      refine Tr.range (md := true) tok rfl (sumsL []) ([(5, .ro [.rs 6 0 0]), (6, .ro (ints (castL []))), (100001, .ro tab64)]) ((sums_iter hQ hQs)) (by (repeat (first | exact trivial | refine ⟨trivial, ?_⟩ | refine ⟨rfl, ?_⟩))) rfl (fun pre => [(5, .ro [.rs 6 0 0]), (6, .ro (ints (castL []))), (100001, .ro tab64), (7, .own [.int .i64 f]), (8, .own [.int .i64 (pre.foldl (fI f) f : Nat)])]) (fun _ => True) (9) (by decide) (by first | trivial | rfl | decide | simp) (by (repeat (first | exact trivial | refine ⟨trivial, ?_⟩ | refine ⟨rfl, ?_⟩))) (fun pre hpre => (by simp [tupA, hpLt, tmLt, AV.lt, AE.lt, AC.lt, LL_cons, LL_nil, idOk, ABlk.lt, ints_LL, GB, tab64_LL, pC, castL, lC, shp])) (fun pre hpre => ⟨(by (repeat (first | exact trivial | refine ⟨trivial, ?_⟩ | refine ⟨rfl, ?_⟩))), (by (repeat (first | exact trivial | refine ⟨trivial, ?_⟩ | refine ⟨rfl, ?_⟩)))⟩) rfl rfl (by decide) ?_ ?_
      · intro pre x hpre _ hx hl
        have hall : ∀ s ∈ pre, s.toNat < 65536 := fun s hs => by
          obtain ⟨c, hc, rfl⟩ := List.mem_map.1 (hpre s hs)
          rw [Int.toNat_natCast]; exact sumC_lt hQ hQs (List.mem_range.1 hc)
        obtain ⟨c, hc, rfl⟩ := List.mem_map.1 hx
        have hs2 := sumC_lt hQ hQs (List.mem_range.1 hc)
        obtain ⟨o, ho⟩ : ∃ o, o = pre.foldl (fI f) f := ⟨_, rfl⟩
        have ho2 : o < 65536 := by rw [ho]; exact fI_lt hf2 pre hall f hf2
        generalize sumC [] c = s at *
        simp only [← ho]
        have hx2 : f ^^^ s < 65536 := Nat.xor_lt_two_pow (n := 16) hf2 hs2
        have hfx : Int.toNat ((f : Nat) : Int) ^^^ Int.toNat ((s : Nat) : Int) = f ^^^ s := by rw [Int.toNat_natCast, Int.toNat_natCast]
        have hst : (pre ++ [((s : Nat) : Int)]).foldl (fI f) f = if lessB pop (f ^^^ s) o then f ^^^ s else o := by
          rw [List.foldl_append, ← ho]; rfl
        refine Wk.on ?_
        rw [hfx]
        refine CallA.ro2 [] (.c (.bool (lessB pop (f ^^^ s) o))) (less_spec hx2 ho2) ?_
        refine Wk.on ?_
        by_cases hl : lessB pop (f ^^^ s) o = true
        · rw [if_pos hl] at hst
          rw [hl]
          refine Wk.on ?_
          rw [hfx]
          refine Wk.on ?_
          refine ⟨(), trivial, RoundOk.nil ⟨rfl, rfl, rfl, rfl, ?_, trivial⟩ rfl⟩
          show ABlk.own [.int .i64 ((f ^^^ s : Nat) : Int)] = ABlk.own _
          rw [hst]
        · rw [if_neg hl] at hst
          rw [Bool.eq_false_iff.2 hl]
          refine Wk.on ?_
          refine ⟨(), trivial, RoundOk.nil ⟨rfl, rfl, rfl, rfl, ?_, trivial⟩ rfl⟩
          show ABlk.own [.int .i64 o] = ABlk.own _
          rw [hst]
      · intro _
        rw [fI_all]
        refine Wk.on ?_
        exact AH.Fin.nil2 ⟨rfl, rfl, rfl⟩
    · skip
      have hr : FDet Tryd.prog 51 [.c (.ptr 0 0)] [(0, .ro (lC n rows))] 1 (.t [.c (.row 1 (b0 :: B0).length), .c (.row 2 (q0 :: Q0).length)]) [(1, .row 93 2 (ints (prs (b0 :: B0)))), (2, .row 3 1 (ints (castL (q0 :: Q0))))] 3 := hr
      refine FSpec.body2 tok true Tryd.func58 ?_
      refine Wk.on ?_
      refine CallA.ro2 [0] (.t [.c (.int .i64 f), .c (.bool true)]) (hs) ?_
      refine Wk.on ?_
      refine CallA.det2 [0] (.t [.c (.row 2 (b0 :: B0).length), .c (.row 3 (q0 :: Q0).length)]) ([(1, .own [.int .i64 f]), (0, .ro (lC n rows)), (100001, .ro tab64), (3, .row 3 1 (ints (castL (q0 :: Q0)))), (2, .row 93 2 (ints (prs (b0 :: B0))))]) (hr) ?_
      refine Wk.on ?_
      refine CallA.det2 [3] (.c (.fn 91 [] [5])) ([(4, .own [.int .i64 f]), (1, .own [.int .i64 f]), (0, .ro (lC n rows)), (100001, .ro tab64), (2, .row 93 2 (ints (prs (b0 :: B0)))), (5, .own [.row 3 (q0 :: Q0).length]), (3, .row 3 1 (ints (castL (q0 :: Q0))))]) (sums_row (q0 :: Q0)) ?_
      refine Wk.on ?_
      refine Tr.under (t := ⟨[(6, .c (.ptr 7 0)), (10, .c (.ptr 8 0)), (27, .c (.fn 91 [] [5]))], [(5, .ro [.rs 6 0 (q0 :: Q0).length]), (6, .ro (ints (castL (q0 :: Q0)))), (100001, .ro tab64), (7, .own [.int .i64 f]), (8, .own [.int .i64 f])], 9, 38, 1⟩) (Under.wk [(5, 5), (6, 3), (7, 1), (8, 4)] ⟨rfl, rfl, Nat.le_of_ble_eq_true rfl, Nat.le_of_ble_eq_true rfl⟩ rfl ⟨.inl rfl, .inl rfl, .inl rfl, trivial⟩ ⟨.inr (.inl (.inr ⟨⟨⟨rfl, rfl, rfl⟩, trivial⟩, trivial⟩)), .inr (.inl (.inl (ints_ren _ _).symm)), .inl (congrArg ABlk.ro (tab64_ren _).symm), .inl rfl, .inl rfl, trivial⟩ rfl (by simp [tupA, hpLt, tmLt, AV.lt, AE.lt, AC.lt, LL_cons, LL_nil, idOk, ABlk.lt, ints_LL, GB, tab64_LL, pC, castL, lC, shp]) (by simp [tupA, hpLt, tmLt, AV.lt, AE.lt, AC.lt, LL_cons, LL_nil, idOk, ABlk.lt, ints_LL, GB, tab64_LL, pC, castL, lC, shp])) ?_
      refine Tr.range (md := true) tok rfl (sumsL (q0 :: Q0)) ([(5, .ro [.rs 6 0 (q0 :: Q0).length]), (6, .ro (ints (castL (q0 :: Q0)))), (100001, .ro tab64)]) ((sums_iter hQ hQs)) (by (repeat (first | exact trivial | refine ⟨trivial, ?_⟩ | refine ⟨rfl, ?_⟩))) rfl (fun pre => [(5, .ro [.rs 6 0 (q0 :: Q0).length]), (6, .ro (ints (castL (q0 :: Q0)))), (100001, .ro tab64), (7, .own [.int .i64 f]), (8, .own [.int .i64 (pre.foldl (fI f) f : Nat)])]) (fun _ => True) (9) (by decide) (by first | trivial | rfl | decide | simp) (by (repeat (first | exact trivial | refine ⟨trivial, ?_⟩ | refine ⟨rfl, ?_⟩))) (fun pre hpre => (by simp [tupA, hpLt, tmLt, AV.lt, AE.lt, AC.lt, LL_cons, LL_nil, idOk, ABlk.lt, ints_LL, GB, tab64_LL, pC, castL, lC, shp])) (fun pre hpre => ⟨(by (repeat (first | exact trivial | refine ⟨trivial, ?_⟩ | refine ⟨rfl, ?_⟩))), (by (repeat (first | exact trivial | refine ⟨trivial, ?_⟩ | refine ⟨rfl, ?_⟩)))⟩) rfl rfl (by decide) ?_ ?_
      · intro pre x hpre _ hx hl
        have hall : ∀ s ∈ pre, s.toNat < 65536 := fun s hs => by
          obtain ⟨c, hc, rfl⟩ := List.mem_map.1 (hpre s hs)
          rw [Int.toNat_natCast]; exact sumC_lt hQ hQs (List.mem_range.1 hc)
        obtain ⟨c, hc, rfl⟩ := List.mem_map.1 hx
        have hs2 := sumC_lt hQ hQs (List.mem_range.1 hc)
        obtain ⟨o, ho⟩ : ∃ o, o = pre.foldl (fI f) f := ⟨_, rfl⟩
        have ho2 : o < 65536 := by rw [ho]; exact fI_lt hf2 pre hall f hf2
        generalize sumC (q0 :: Q0) c = s at *
        simp only [← ho]
        have hx2 : f ^^^ s < 65536 := Nat.xor_lt_two_pow (n := 16) hf2 hs2
        have hfx : Int.toNat ((f : Nat) : Int) ^^^ Int.toNat ((s : Nat) : Int) = f ^^^ s := by rw [Int.toNat_natCast, Int.toNat_natCast]
        have hst : (pre ++ [((s : Nat) : Int)]).foldl (fI f) f = if lessB pop (f ^^^ s) o then f ^^^ s else o := by
          rw [List.foldl_append, ← ho]; rfl
        refine Wk.on ?_
        rw [hfx]
        refine CallA.ro2 [] (.c (.bool (lessB pop (f ^^^ s) o))) (less_spec hx2 ho2) ?_
        refine Wk.on ?_
        by_cases hl : lessB pop (f ^^^ s) o = true
        · rw [if_pos hl] at hst
          rw [hl]
          refine Wk.on ?_
          rw [hfx]
          refine Wk.on ?_
          refine ⟨(), trivial, RoundOk.nil ⟨rfl, rfl, rfl, rfl, ?_, trivial⟩ rfl⟩
          show ABlk.own [.int .i64 ((f ^^^ s : Nat) : Int)] = ABlk.own _
          rw [hst]
        · rw [if_neg hl] at hst
          rw [Bool.eq_false_iff.2 hl]
          refine Wk.on ?_
          refine ⟨(), trivial, RoundOk.nil ⟨rfl, rfl, rfl, rfl, ?_, trivial⟩ rfl⟩
          show ABlk.own [.int .i64 o] = ABlk.own _
          rw [hst]
      · intro _
        rw [fI_all]
        refine Wk.on ?_
        exact AH.Fin.nil2 ⟨rfl, rfl, rfl⟩
  · rw [if_neg hz, decide_eq_false hz]
    rw [decide_eq_false hz] at hs
    refine FSpec.body2 tok true Tryd.func58 ?_
    refine Wk.on ?_
    refine CallA.ro2 [0] (.t [.c (.int .i64 f), .c (.bool false)]) (hs) ?_
    refine Wk.on ?_
    exact AH.Fin.nil2 ⟨rfl, rfl, rfl⟩
end Go.Proofs.YtimknijehaamlaaDoor

/-
  Contracts: Fewest; the law's wakefulness.
-/
namespace Go.Proofs.YtimknijehaamlaaDoor
open Go Go.AH Go.Lin
set_option maxRecDepth 100000
set_option maxHeartbeats 1000000

theorem Fewest_spec {n : Nat} {ws : List (Nat × Nat)} (h : Gr n ws) (own : Bool) (hw : ws.length ≤ 1000) {t : Nat} (ht : t < 2 ^ n) : FDet Tryd.prog 38 [.c (.int .i64 n), .c (.rs 0 0 ws.length), .c (.bool own), .c (.int .i64 t)] [(0, .ro (ints (prs ws))), (100001, .ro tab64)] 1
    (.t [.c (.int .i64 (fewN n (openR n ws own) t : Nat)), .c (.bool (decide ((solP (bsR n (openR n ws own)) t).2 = 0))), .c (.int .i64 0)]) [] 1 := by
  refine FSpec.body2 tok true Tryd.func38 ?_
  refine Wk.on ?_
  refine CallA.det2 [0, 1] (.t [.c (.ptr 2 0), .c (.int .i64 0)]) ([(1, .own [.int .i64 t]), (0, .ro (ints (prs ws))), (100001, .ro tab64), (2, .own (lC n (openR n ws own)))]) (open_s1 h own hw ht) ?_
  refine Wk.on ?_
  refine CallA.ro2 [2] (.t [.c (.int .i64 (fewN n (openR n ws own) t : Nat)), .c (.bool (decide ((solP (bsR n (openR n ws own)) t).2 = 0)))]) (fewest_spec (openR_lm h own) ht) ?_
  refine Wk.on ?_
  exact AH.Fin.nil2 ⟨rfl, rfl, rfl⟩

theorem gr2 : Gr 2 [(0, 1)] := ⟨by decide, by decide, by decide, fun i hi => absurd hi (by show ¬ i + 1 < 1; omega)⟩
theorem gr9 : Gr 9 (gridL 3 3 9) := ⟨by decide, by decide, by decide +kernel, fun i hi => (show ∀ i, i < (gridL 3 3 9).length → i + 1 < (gridL 3 3 9).length → 16 * ((gridL 3 3 9).getD i (0, 0)).1 + ((gridL 3 3 9).getD i (0, 0)).2 < 16 * ((gridL 3 3 9).getD (i + 1) (0, 0)).1 + ((gridL 3 3 9).getD (i + 1) (0, 0)).2 by decide +kernel) i (Nat.lt_of_succ_lt hi) hi⟩
theorem aw_quiet : FDet Tryd.prog 18 [.c (.int .i64 2), .c (.sl 0 0 1 (some 1)), .c (.bool true)] [(0, .ro [.int .i64 0, .int .i64 1])] 1 (.t [.c (.row 1 1), .c (.int .i64 0)]) [(1, .row 3 1 [.int .i64 3])] 2 := by
  have e : (tidyD (qsR 2 (openR 2 [(0, 1)] true))).reverse = [3] := by decide +kernel
  have := Quiet_spec gr2 (by decide) true (by decide)
  rw [e] at this
  exact FDet.wk this ⟨rfl, ⟨rfl, rfl, rfl⟩, rfl, trivial⟩ ⟨.inl rfl, trivial⟩
theorem aw_ref : FDet Tryd.prog 44 [.c (.int .i64 2), .c (.sl 0 0 1 (some 1)), .c (.bool true), .c (.int .i64 1), .c (.int .i64 3)] [(0, .ro [.int .i64 0, .int .i64 1]), (100001, .ro tab64)] 1 (.t [.c (.bool true), .c (.int .i64 0)]) [] 1 := by
  have e : (decide (eff (openR 2 [(0, 1)] true) 3 = 0) && decide (pop (3 &&& 1) % 2 = 1)) = true := by decide +kernel
  have := IsRefutation_spec gr2 true (by decide) (t := 1) (q := 3) (by decide) (by decide)
  rw [e] at this
  exact FDet.wk this ⟨rfl, ⟨rfl, rfl, rfl⟩, rfl, rfl, rfl, trivial⟩ ⟨.inl rfl, .inl rfl, trivial⟩
theorem aw_grid : FDet Tryd.prog 23 [.c (.int .i64 3), .c (.int .i64 3)] [] 0 (.t [.c (.int .i64 9), .c (.row 0 12), .c (.int .i64 0)]) [(0, .row 38 2 (ints (prs (gridL 3 3 9))))] 1 := by
  have := Grid_spec (h := 3) (w := 3) (by decide) (by decide) (by decide)
  exact this
theorem aw_few : FDet Tryd.prog 38 [.c (.int .i64 9), .c (.row 0 12), .c (.bool true), .c (.int .i64 511)] [(0, .row 38 2 (ints (prs (gridL 3 3 9)))), (100001, .ro tab64)] 1 (.t [.c (.int .i64 341), .c (.bool true), .c (.int .i64 0)]) [] 1 := by
  have e1 : fewN 9 (openR 9 (gridL 3 3 9) true) 511 = 341 := by decide +kernel
  have e2 : decide ((solP (bsR 9 (openR 9 (gridL 3 3 9) true)) 511).2 = 0) = true := by decide +kernel
  have := Fewest_spec gr9 true (by decide) (t := 511) (by decide)
  rw [e1, e2] at this
  exact FDet.wk this ⟨rfl, ⟨⟨rfl, rfl, rfl⟩, trivial⟩, rfl, rfl, trivial⟩ ⟨.inl rfl, .inl rfl, trivial⟩
theorem aw_poly : FDet Tryd.prog 28 [.c (.int .i64 3)] [(100001, .ro tab64)] 0 (.t [.c (.row 0 2), .c (.int .i64 0)]) [(0, .row 3 1 [.int .i64 0, .int .i64 2])] 1 := by
  have e : exQ (pathC 3 false) (pathC 3 false).2 = [0, 2] := by decide +kernel
  have := Polynomial_spec (n := 3) (by decide) (by decide)
  rw [e] at this
  exact this
theorem aw_gq : FDet Tryd.prog 26 [.c (.int .i64 5), .c (.int .i64 5), .c (.bool true)] [(100001, .ro tab64)] 0 (.t [.c (.int .i64 2), .c (.int .i64 0)]) [] 0 := by
  have e : ((comQ (pathC (5 + 1) true) (pathC (5 + 1) false)).2 : Int) - 1 = 2 := by decide +kernel
  have := GridQuiet_spec (h := 5) (w := 5) (by decide) (by decide) (by decide) (by decide) true
  rw [e] at this
  exact this
theorem open_zero : FDet Tryd.prog 50 [.c (.int .i64 0), .c .nils, .c (.bool false), .c .nils] [] 0 (.t [.c .nilp, .c (.int .i64 1)]) [] 0 := by
  refine FSpec.body2 tok true Tryd.func50 ?_
  refine Wk.on ?_
  exact AH.Fin.nil2 ⟨rfl, rfl, rfl⟩
theorem check_zero : FDet Tryd.prog 25 [.c (.int .i64 0), .c .nils] [] 0 (.c (.int .i64 1)) [] 0 := by
  refine FSpec.body2 tok true Tryd.func25 ?_
  refine Wk.on ?_
  refine CallA.ro2 [] (.t [.c .nilp, .c (.int .i64 1)]) (open_zero) ?_
  refine Wk.on ?_
  exact AH.Fin.nil2 ⟨rfl, rfl, rfl⟩
theorem awake_spec : FDet Tryd.prog 22 [] [(100001, .ro tab64)] 0 (.c (.bool true)) [] 0 := by
  refine FSpec.body2 tok true Tryd.func22 ?_
  refine Wk.on ?_
  refine CallA.det2 [0] (.t [.c (.row 1 1), .c (.int .i64 0)]) ([(0, .own [.int .i64 0, .int .i64 1]), (100001, .ro tab64), (1, .row 3 1 [.int .i64 3])]) (aw_quiet) ?_
  refine Wk.on ?_
  refine CallA.ro2 [0] (.t [.c (.bool true), .c (.int .i64 0)]) (aw_ref) ?_
  refine Wk.on ?_
  refine CallA.det2 [] (.t [.c (.int .i64 9), .c (.row 2 12), .c (.int .i64 0)]) ([(0, .own [.int .i64 0, .int .i64 1]), (100001, .ro tab64), (1, .row 3 1 [.int .i64 3]), (2, .row 38 2 (ints (prs (gridL 3 3 9))))]) (aw_grid) ?_
  refine Wk.on ?_
  refine CallA.det2 [2] (.t [.c (.int .i64 341), .c (.bool true), .c (.int .i64 0)]) ([(0, .own [.int .i64 0, .int .i64 1]), (100001, .ro tab64), (1, .row 3 1 [.int .i64 3])]) (aw_few) ?_
  refine Wk.on ?_
  refine CallA.det2 [] (.t [.c (.row 3 2), .c (.int .i64 0)]) ([(0, .own [.int .i64 0, .int .i64 1]), (100001, .ro tab64), (1, .row 3 1 [.int .i64 3]), (3, .row 3 1 [.int .i64 0, .int .i64 2])]) (aw_poly) ?_
  refine Wk.on ?_
  refine CallA.ro2 [] (.t [.c (.int .i64 2), .c (.int .i64 0)]) (aw_gq) ?_
  refine Wk.on ?_
  refine CallA.ro2 [] (.c (.int .i64 1)) (check_zero) ?_
  refine Wk.on ?_
  exact AH.Fin.nil2 ⟨rfl, rfl, rfl⟩
end Go.Proofs.YtimknijehaamlaaDoor

/-
  Any numbers make a graph; a graph's rows are symmetric. (Plain.)
-/
namespace Go.Proofs.YtimknijehaamlaaDoor
open Go Go.AH Go.Lin

theorem tabT_ok (ws : List (Int × Int)) {N : Nat} (h1 : 1 ≤ N) (h16 : N ≤ 16) (k : Nat) : ∀ j, (tabT ws N k).getD j false = true → j / 16 < j % 16 ∧ j % 16 < N := by
  have : ∀ (l : List (Int × Int)) (T : List Bool), T.length = 256 → (∀ j, T.getD j false = true → j / 16 < j % 16 ∧ j % 16 < N) → ∀ j, (l.foldl (tabF N) T).getD j false = true → j / 16 < j % 16 ∧ j % 16 < N := by
    intro l
    induction l with
    | nil => intro T _ h; exact h
    | cons p l ih =>
      intro T hl h
      refine ih _ (by rw [tabF, List.length_set, hl]) fun j hj => ?_
      have ha := um_lt p.1 (n := N) h1
      have hb := um_lt p.2 (n := N) h1
      rw [tabF] at hj
      generalize um p.1 N = a at *
      generalize um p.2 N = b at *
      rw [getD_set' (by rw [hl]; omega)] at hj
      split at hj
      · rename_i e
        have hab : a ≠ b := of_decide_eq_true hj
        omega
      · exact h j hj
  exact this _ _ (by rw [List.length_replicate]) fun j hj => by
    rw [List.getD_eq_getElem?_getD, List.getElem?_replicate] at hj
    split at hj <;> cases hj
theorem prT_gr {N : Nat} {T : List Bool} (h1 : 1 ≤ N) (h16 : N ≤ 16) (hT : ∀ j, T.getD j false = true → j / 16 < j % 16 ∧ j % 16 < N) : Gr N (prT T 256) := by
  have hp : ((List.range 256).filter fun i => T.getD i false).Pairwise (· < ·) := List.Pairwise.filter _ List.pairwise_lt_range
  have hm : ∀ x ∈ ((List.range 256).filter fun i => T.getD i false), x / 16 < x % 16 ∧ x % 16 < N := fun x hx => hT x (by simpa using (List.mem_filter.1 hx).2)
  rw [prT]
  generalize (List.range 256).filter (fun i => T.getD i false) = L at *
  have hg : ∀ i (hi : i < L.length), (L.map fun i => (i / 16, i % 16)).getD i (0, 0) = (L[i] / 16, L[i] % 16) := fun i hi => by
    rw [List.getD_eq_getElem?_getD, List.getElem?_map, List.getElem?_eq_getElem hi]; rfl
  refine ⟨h1, h16, fun i hi => ?_, fun i hi => ?_⟩
  · rw [List.length_map] at hi
    rw [hg i hi]
    exact hm _ (List.getElem_mem hi)
  · rw [List.length_map] at hi
    rw [hg i (by omega), hg (i + 1) hi]
    have := List.pairwise_iff_getElem.1 hp i (i + 1) (by omega) hi (by omega)
    show 16 * (L[i] / 16) + L[i] % 16 < 16 * (L[i + 1] / 16) + L[i + 1] % 16
    omega
theorem tame_gr (n : Int) (ws : List (Int × Int)) {most : Nat} (h1 : 1 ≤ most) (h2 : most ≤ 16) : Gr (tameN n most) (tameP n ws most) := by
  have := um_lt n (n := most) h1
  exact prT_gr (by unfold tameN; omega) (by unfold tameN; omega) (tabT_ok ws (by unfold tameN; omega) (by unfold tameN; omega) _)
theorem tameP_len (n : Int) (ws : List (Int × Int)) (most : Nat) : (tameP n ws most).length ≤ 256 := prT_len _ _

/-! Rows, bit by bit. -/
theorem orAt_get {rows : List Nat} {i v : Nat} (hi : i < rows.length) (k : Nat) : (orAt rows i v).getD k 0 = if i = k then rows.getD k 0 ||| v else rows.getD k 0 := by
  rw [orAt, List.getD_eq_getElem?_getD, List.getElem?_set]
  by_cases e : i = k
  · subst e
    rw [if_pos rfl, if_pos rfl, if_pos hi]; rfl
  · rw [if_neg e, if_neg e, ← List.getD_eq_getElem?_getD]
def SymR (rows : List Nat) : Prop := ∀ i j, i < 16 → j < 16 → (rows.getD i 0).testBit j = (rows.getD j 0).testBit i
theorem nearF_sym {rows : List Nat} (hl : rows.length = 16) (h : SymR rows) {p : Nat × Nat} (h1 : p.1 < 16) (h2 : p.2 < 16) : SymR (nearF rows p) := by
  intro i j hi hj
  have hl2 : (orAt rows p.1 (2 ^ p.2)).length = 16 := by rw [orAt, List.length_set, hl]
  have g : ∀ k m, ((nearF rows p).getD k 0).testBit m = ((rows.getD k 0).testBit m || (decide (p.1 = k) && decide (p.2 = m)) || (decide (p.2 = k) && decide (p.1 = m))) := by
    intro k m
    rw [nearF, orAt_get (by omega), orAt_get (by omega)]
    by_cases e1 : p.1 = k <;> by_cases e2 : p.2 = k <;> simp [e1, e2, Nat.testBit_or, Nat.testBit_two_pow, Bool.or_assoc]
  rw [g, g, h i j hi hj]
  cases (rows.getD j 0).testBit i <;> simp [Bool.or_comm, Bool.and_comm, and_comm, or_comm]
theorem ownF_sym {rows : List Nat} (hl : rows.length = 16) (h : SymR rows) {i : Nat} (hi : i < 16) : SymR (ownF rows i) := by
  intro a b ha hb
  have g : ∀ k m, ((ownF rows i).getD k 0).testBit m = ((rows.getD k 0).testBit m || (decide (i = k) && decide (i = m))) := by
    intro k m
    rw [ownF, orAt_get (by omega)]
    by_cases e : i = k <;> simp [e, Nat.testBit_or, Nat.testBit_two_pow]
  rw [g, g, h a b ha hb, Bool.and_comm]
end Go.Proofs.YtimknijehaamlaaDoor

/-
  A graph's rows are symmetric; all lamps can be lit. (Plain.)
-/
namespace Go.Proofs.YtimknijehaamlaaDoor
open Go Go.AH Go.Lin

theorem nearR_sym {n : Nat} {ws : List (Nat × Nat)} (h : Gr n ws) (k : Nat) (hk : k ≤ ws.length) : SymR (nearR (ws.take k)) := by
  have hn := h.n16
  induction k with
  | zero =>
    intro i j hi hj
    have : ∀ i, zero16.getD i 0 = 0 := fun i => by
      rw [zero16, List.getD_eq_getElem?_getD, List.getElem?_replicate]
      split <;> rfl
    show (zero16.getD i 0).testBit j = (zero16.getD j 0).testBit i
    rw [this, this, Nat.zero_testBit, Nat.zero_testBit]
  | succ k ih =>
    have ho := h.ok k (by omega)
    rw [take_succ ws (0, 0) (by omega), nearR, List.foldl_append]
    exact nearF_sym (nearR_lm h k (by omega)).len (ih (by omega)) (by omega) (by omega)
theorem ownR_sym {n : Nat} {rows : List Nat} (hL : Lm n rows) (h : SymR rows) (k : Nat) (hk : k ≤ n) : SymR (ownR k rows) := by
  have hn := hL.n16
  induction k with
  | zero => exact h
  | succ k ih =>
    rw [ownR, List.range_succ, List.foldl_append]
    exact ownF_sym (ownR_lm hL k (by omega)).len (ih (by omega)) (by omega)
theorem openR_sym {n : Nat} {ws : List (Nat × Nat)} (h : Gr n ws) (own : Bool) : SymR (openR n ws own) := by
  have h1 := nearR_sym h ws.length (Nat.le_refl _)
  have h2 := nearR_lm h ws.length (Nat.le_refl _)
  rw [List.take_of_length_le (Nat.le_refl _)] at h1 h2
  cases own
  · exact h1
  · exact ownR_sym h2 h1 n (Nat.le_refl _)
theorem openR_Sym {n : Nat} {ws : List (Nat × Nat)} (h : Gr n ws) (own : Bool) : Sym (openR n ws own) n := by
  have hn := h.n16
  have hl := openR_lm h own
  exact ⟨by rw [hl.len]; omega, fun i _ => hl.row i, fun i j hi hj => openR_sym h own i j (by omega) (by omega)⟩
theorem ownR_diag {n : Nat} {rows : List Nat} (hL : Lm n rows) (k : Nat) (hk : k ≤ n) : ∀ i, i < k → ((ownR k rows).getD i 0).testBit i = true := by
  have hn := hL.n16
  induction k with
  | zero => intro i hi; omega
  | succ k ih =>
    intro i hi
    rw [ownR, List.range_succ, List.foldl_append]
    show ((ownF (ownR k rows) k).getD i 0).testBit i = true
    rw [ownF, orAt_get (by rw [(ownR_lm hL k (by omega)).len]; omega)]
    by_cases e : k = i
    · subst e
      rw [if_pos rfl, Nat.testBit_or, Nat.testBit_two_pow_self, Bool.or_true]
    · rw [if_neg e]
      exact ih (by omega) i (by omega)
theorem openR_diag {n : Nat} {ws : List (Nat × Nat)} (h : Gr n ws) : ∀ i, i < n → ((openR n ws true).getD i 0).testBit i = true := by
  have h2 := nearR_lm h ws.length (Nat.le_refl _)
  rw [List.take_of_length_le (Nat.le_refl _)] at h2
  exact ownR_diag h2 n (Nat.le_refl _)
theorem dot_cnt (x y : Nat) : ∀ n, dot n x y = decide (((List.range n).filter (x &&& y).testBit).length % 2 = 1)
  | 0 => rfl
  | n + 1 => by
    rw [dot_succ, dot_cnt x y n, List.range_succ, List.filter_append, List.length_append, List.filter_cons, List.filter_nil, Nat.testBit_and]
    generalize ((List.range n).filter (x &&& y).testBit).length = m
    cases (x.testBit n && y.testBit n)
    · rw [Bool.xor_false]; rfl
    · rw [Bool.xor_true, ← decide_not]
      exact decide_eq_decide.2 (by simp; omega)
theorem filter_low {n z : Nat} (hn : n ≤ 16) (hz : z < 2 ^ n) : (List.range 16).filter z.testBit = (List.range n).filter z.testBit := by
  have e : List.range 16 = List.range n ++ (List.range (16 - n)).map (n + ·) := by
    rw [← List.range_add]; congr 1; omega
  rw [e, List.filter_append]
  have e2 : ((List.range (16 - n)).map (n + ·)).filter z.testBit = [] := by
    rw [List.filter_eq_nil_iff]
    intro i hi
    obtain ⟨j, _, rfl⟩ := List.mem_map.1 hi
    rw [Nat.testBit_lt_two_pow (Nat.lt_of_lt_of_le hz (Nat.pow_le_pow_right (by omega) (by omega)))]
    exact Bool.false_ne_true
  rw [e2, List.append_nil]
theorem pop_dot {n x y : Nat} (hn : n ≤ 16) (hx : x < 2 ^ n) : decide (pop (x &&& y) % 2 = 1) = dot n x y := by
  rw [dot_cnt, pop, memN, filter_low hn (Nat.lt_of_le_of_lt Nat.and_le_left hx)]
theorem sutner_plain {n : Nat} {ws : List (Nat × Nat)} (h : Gr n ws) : (solP (bsR n (openR n ws true)) (2 ^ n - 1)).2 = 0 ∧ (solP (bsR n (openR n ws true)) (2 ^ n - 1)).1 < 2 ^ n ∧ eff (openR n ws true) (solP (bsR n (openR n ws true)) (2 ^ n - 1)).1 = 2 ^ n - 1 ∧ refQ (qsR n (openR n ws true)) (2 ^ n - 1) = none := by
  have hS := openR_Sym h true
  have hI := inv_all (openR n ws true) n hS.len
  obtain ⟨h1, h2⟩ := hS.all_on hI (openR_diag h)
  have hs := hI.sol (2 ^ n - 1)
  obtain ⟨s1, s2, s3⟩ := hs
  have z : (solP (bsR n (openR n ws true)) (2 ^ n - 1)).2 = 0 := by
    show (solP (reducedP (openR n ws true) n).1 (2 ^ n - 1)).2 = 0
    rw [s1]; exact h1
  refine ⟨z, s2, s3 z, ?_⟩
  rw [refQ, List.find?_eq_none]
  intro q hq
  have hq2 := (hI.q q hq).2.1
  rw [pop_dot h.n16 (Nat.lt_of_lt_of_le hq2 (Nat.le_refl _)), h2 q hq]
  exact Bool.false_ne_true
end Go.Proofs.YtimknijehaamlaaDoor
