/-
  The iterator over the sums of quiet sets.
-/
import Derived.Test.YtimknijehaamlaaDoorSw4
import Derived.Test.YtimknijehaamlaaDoorAh5
import Derived.OwnWalkIn
import Derived.TacticsInMore
import Derived.LoopNIn
import Derived.LoopIn
set_option linter.unusedSimpArgs false
set_option linter.unusedVariables false
namespace Go.Proofs.YtimknijehaamlaaDoor
open Go Go.AH Go.Lin Go.RowKit Go.Shelf
attribute [local go_sem] Oper.semAt_some
set_option maxRecDepth 100000
set_option maxHeartbeats 1000000

def sumsL (Q : List Nat) : List Int := (List.range (2 ^ Q.length)).map fun c => ((sumC Q c : Nat) : Int)
def shp (Q : List Nat) : List (Nat × ABlk) := [(5, .ro [.rs 6 0 Q.length]), (6, .ro (ints (castL Q))), (100001, .ro tab64)]
def sst (Q : List Nat) (l c : Nat) : AS := ⟨[(0, .c (.yv l)), (1, .c (.ptr 5 0)), (9, .c (.int .i64 (2 ^ Q.length : Nat))), (10, .c (.int .i64 c))], shp Q, 7, 27, 7⟩
theorem sumI_lt {Q : List Nat} (hq : ∀ q ∈ Q, q < 65536) (L : List Int) : L.foldl (effI Q) 0 < 65536 := by
  have : ∀ (L : List Int) (a : Nat), a < 65536 → L.foldl (effI Q) a < 65536 := by
    intro L
    induction L with
    | nil => intro a h; exact h
    | cons i L ih =>
      intro a ha
      refine ih _ (Nat.xor_lt_two_pow (n := 16) ha ?_)
      rw [List.getD_eq_getElem?_getD]
      cases e : Q[i.toNat]? with
      | none => exact Nat.two_pow_pos 16
      | some r => exact hq r (List.mem_of_getElem? e)
  exact this L 0 (by decide)
theorem sum_mem {Q : List Nat} (hQ : Q.length ≤ 16) {c : Nat} (hc : c < 2 ^ Q.length) : (mem c).foldl (effI Q) 0 = sumC Q c := by
  have e : List.range 16 = List.range Q.length ++ (List.range (16 - Q.length)).map (Q.length + ·) := by
    rw [← List.range_add]; congr 1; omega
  have e2 : ((List.range (16 - Q.length)).map (Q.length + ·)).filter c.testBit = [] := by
    rw [List.filter_eq_nil_iff]
    intro i hi
    obtain ⟨j, _, rfl⟩ := List.mem_map.1 hi
    rw [Nat.testBit_lt_two_pow (Nat.lt_of_lt_of_le hc (Nat.pow_le_pow_right (by omega) (by omega)))]
    exact Bool.false_ne_true
  rw [mem, memN, e, List.filter_append, e2, List.append_nil, List.foldl_map, List.foldl_filter]
  rfl
def ss0 (Q : List Nat) (l : Nat) : AS := ⟨[(0, .c (.yv l)), (1, .c (.ptr 5 0))], shp Q, 7, 27, 7⟩
def ss1 (Q : List Nat) (l c : Nat) : AS := ⟨(11, .c (.bool (decide (((c : Nat) : Int) < ((2 ^ Q.length : Nat) : Int))))) :: (sst Q l c).tm, shp Q, 7, 27, 7⟩
def ss2 (Q : List Nat) (l c : Nat) : AS := ⟨(3, .c (.int .i64 c)) :: (sst Q l c).tm, shp Q, 7, 27, 7⟩
def ss3 (Q : List Nat) (l c : Nat) : AS := ⟨(4, .c (.ptr 7 0)) :: (3, .c (.int .i64 c)) :: (sst Q l c).tm, (7, .own [.int .i64 0]) :: shp Q, 8, 27, 7⟩
def ss4 (Q : List Nat) (l c : Nat) : AS := ⟨(4, .c (.ptr 7 0)) :: (sst Q l c).tm, (7, .own [.int .i64 (sumC Q c : Nat)]) :: shp Q, 9, 27, 7⟩
structure SInv {Q : List Nat} (R : AH.Ren) (W : World) (l : Nat) (J : List { x // x ∈ sumsL Q } → World → Prop) (pre : List { x // x ∈ sumsL Q }) (a : Act) (V : World) : Prop where
  nt : a.tmps.size = 27
  tm : ∀ t v, lk (sst Q l pre.length).tm t = some v → ∃ u, a.tmps[t]? = some u ∧ conV R v u
  hp : HRel R (shp Q) V
  dfs : ∃ ds, a.defers = marksOf ds ∧ Marks W.heap.size ds V
  sz : W.heap.size ≤ V.heap.size
  pr : pre.map Subtype.val = (sumsL Q).take pre.length
  le : pre.length ≤ 2 ^ Q.length
  j : J pre V
theorem sumsL_len (Q : List Nat) : (sumsL Q).length = 2 ^ Q.length := by simp [sumsL]
theorem shp_lt (Q : List Nat) : hpLt 7 (shp Q) := by simp [shp, hpLt, ABlk.lt, LL_cons, LL_nil, AC.lt, idOk, GB, ints_LL, tab64_LL]
theorem sums_iter {Q : List Nat} (hQ : Q.length ≤ 16) (hq : ∀ q ∈ Q, q < 65536) : FIter Tryd.prog 91 [5] (shp Q) (sumsL Q) := by
  refine ⟨Go.Proofs.enters_of Tryd.func91 (by kernel_rfl) rfl, fun R w n hok hn H l J Jx W hW hlW hJ hJx hY h0 => ?_⟩
  have hH : HRel R (shp Q) W := H.keep fun i b hb => hW.block _ (H.blk i b hb).lt
  obtain ⟨N, hN⟩ : ∃ N, N = 2 ^ Q.length := ⟨_, rfl⟩
  have hN2 : N ≤ 65536 := by rw [hN]; exact (Nat.pow_le_pow_right (by omega) hQ : 2 ^ Q.length ≤ 2 ^ 16)
  have hwl : IntKind.u64.wrap ((Q.length : Nat) : Int) = (Q.length : Nat) := wrapU (by omega)
  have hsh : (1 : Int) * 2 ^ (Int.toNat ((Q.length : Nat) : Int)) = (N : Int) := by simp [hN]
  have hlen : (ints (castL Q)).length = Q.length := by rw [ints_len, castL_len]
  refine callsIn_of_wp_marks Tryd.func91 rfl trivial ?_ rfl
  have hz : (#[Value.func (Fn.yield l) #[] #[]] ++ (List.map R.p0 [5]).toArray ++ Array.replicate (Tryd.f91.ntmps - (#[Value.func (Fn.yield l) #[] #[]] ++ (List.map R.p0 [5]).toArray).size) undef) = #[Value.func (Fn.yield l) #[] #[], R.p0 5, undef, undef, undef, undef, undef, undef, undef, undef, undef, undef, undef, undef, undef, undef, undef, undef, undef, undef, undef, undef, undef, undef, undef, undef, undef] := by
    simp [show Tryd.f91.ntmps = 27 from rfl, Array.replicate_succ]
  rw [hz]
  refine wpIn_seq (seg (md := true) (s := ss0 Q l) (t := sst Q l 0) tok (Fit.base (ds := []) (B := W.heap.size) hok rfl ?_ hH rfl ⟨rfl, Nat.le_of_ble_eq_true rfl⟩ (by simp [tupA, hpLt, tmLt, AV.lt, AE.lt, AC.lt, LL_cons, LL_nil, idOk, ABlk.lt, ints_LL, GB, tab64_LL, castL, shp, ss0, sst]) (shp_lt Q) rfl ⟨List.nodup_nil, fun d hd => absurd hd List.not_mem_nil⟩) ?_ ?_)
  · intro t v ht
    simp only [ss0, lk] at ht
    split at ht
    · rename_i e; subst e; injection ht with ht; subst ht; exact ⟨_, rfl, rfl⟩
    · split at ht
      · rename_i e; subst e; injection ht with ht; subst ht; exact ⟨_, rfl, rfl⟩
      · cases ht
  · refine Wk.on ?_
    rw [hwl]
    refine Wk.on ?_
    rw [hsh]
    refine Wk.on ?_
    exact Under.wk [] ⟨rfl, rfl, Nat.le_of_ble_eq_true rfl, Nat.le_of_ble_eq_true rfl⟩ rfl ⟨.inl rfl, .inl rfl, .inl (by rw [← hN]; rfl), .inl rfl, trivial⟩ ⟨.inl rfl, .inr (.inl (.inl (ints_ren _ _).symm)), .inl (congrArg ABlk.ro (tab64_ren _).symm), trivial⟩ rfl (by simp [sst, tupA, hpLt, tmLt, AV.lt, AE.lt, AC.lt, idOk, GB]) (shp_lt Q)
  intro a V R' F'
  obtain ⟨hdf, hj, hVs⟩ := F'.close (B := W.heap.size) (J := J) (x := []) ⟨List.nodup_nil, fun d hd => absurd hd List.not_mem_nil⟩ (Nat.le_refl _) hJ h0
  have hag := F'.agree0 hok
  refine wpIn_block (wpIn_loop_ghost (SInv R W l J) (fun pre => 2 ^ Q.length - pre.length) [] ⟨F'.nt, fun t v h => ?_, F'.hp.ag hag (shp_lt Q) rfl, hdf, hVs, rfl, Nat.zero_le _, hj⟩ ?_)
  · obtain ⟨u, h1, h2⟩ := F'.tm t v h
    exact ⟨u, h1, conV.agree hag (F'.wf.tm t v h) h2⟩
  clear hag hj hVs hdf F'
  rintro pre a V inv
  obtain ⟨ds, hd, hm⟩ := inv.dfs
  obtain ⟨c, hc⟩ : ∃ c, c = pre.length := ⟨_, rfl⟩
  have hcN : c ≤ N := by rw [hc, hN]; exact inv.le
  have htm := inv.tm
  rw [← hc] at htm
  have F1 : Fit ⟨V, R, 7, fun j => j ∈ ds⟩ R (sst Q l c) a V := Fit.base hok inv.nt htm inv.hp rfl ⟨rfl, Nat.le_of_ble_eq_true rfl⟩ (by simp [sst, ss0, ss1, ss2, ss3, ss4, tupA, hpLt, tmLt, AV.lt, AE.lt, AC.lt, idOk, GB]) (shp_lt Q) hd hm
  refine wpIn_seq (seg (md := true) (t := ss1 Q l c) tok F1 ?_ ?_)
  · refine Wk.on ?_
    exact Under.wk [] ⟨rfl, rfl, Nat.le_of_ble_eq_true rfl, Nat.le_of_ble_eq_true rfl⟩ rfl ⟨.inl rfl, .inl rfl, .inl rfl, .inl rfl, .inl rfl, trivial⟩ ⟨.inl rfl, .inr (.inl (.inl (ints_ren _ _).symm)), .inl (congrArg ABlk.ro (tab64_ren _).symm), trivial⟩ rfl (by simp [sst, ss0, ss1, ss2, ss3, ss4, tupA, hpLt, tmLt, AV.lt, AE.lt, AC.lt, idOk, GB]) (shp_lt Q)
  intro a1 V1 R1 F2
  have hev := (ev_sound F2 (x := .tmp 11) rfl).1
  by_cases hlt : c < N
  · have hev : a1.eval (.tmp 11) = .bool true := by
      have h2 : decide (((c : Nat) : Int) < ((2 ^ Q.length : Nat) : Int)) = true := decide_eq_true (by omega)
      have : a1.eval (.tmp 11) = .bool (decide (((c : Nat) : Int) < ((2 ^ Q.length : Nat) : Int))) := hev
      rw [this, h2]
    refine wpIn_seq (wpIn_cond_true hev (wpIn_skip ?_))
    refine wpIn_seq (wpIn_block ?_)
    refine wpIn_seq (seg (md := true) (t := ss2 Q l c) tok F2 ?_ ?_)
    · refine Wk.on ?_
      exact Under.wk [] ⟨rfl, rfl, Nat.le_of_ble_eq_true rfl, Nat.le_of_ble_eq_true rfl⟩ rfl ⟨.inl rfl, .inl rfl, .inl rfl, .inl rfl, .inl rfl, trivial⟩ ⟨.inl rfl, .inr (.inl (.inl (ints_ren _ _).symm)), .inl (congrArg ABlk.ro (tab64_ren _).symm), trivial⟩ rfl (by simp [sst, ss0, ss1, ss2, ss3, ss4, tupA, hpLt, tmLt, AV.lt, AE.lt, AC.lt, idOk, GB]) (shp_lt Q)
    intro a2 V2 R2 F3
    refine wpIn_seq (seg (md := true) (t := ss3 Q l c) tok F3 ?_ ?_)
    · refine Wk.on ?_
      exact Under.wk [] ⟨rfl, rfl, Nat.le_of_ble_eq_true rfl, Nat.le_of_ble_eq_true rfl⟩ rfl ⟨.inl rfl, .inl rfl, .inl rfl, .inl rfl, .inl rfl, .inl rfl, trivial⟩ ⟨.inl rfl, .inl rfl, .inr (.inl (.inl (ints_ren _ _).symm)), .inl (congrArg ABlk.ro (tab64_ren _).symm), trivial⟩ rfl (by simp [sst, ss0, ss1, ss2, ss3, ss4, tupA, hpLt, tmLt, AV.lt, AE.lt, AC.lt, idOk, GB]) (by simp [sst, ss0, ss1, ss2, ss3, ss4, shp, hpLt, ABlk.lt, LL_cons, LL_nil, AC.lt, idOk, GB, ints_LL, tab64_LL])
    intro a3 V3 R3 F4
    refine wpIn_seq (seg (md := true) (t := ss4 Q l c) tok F4 ?_ ?_)
    · refine Wk.on ?_
      refine CallA.det2 [] (.c (.fn 89 [] [8])) ([(7, .own [.int .i64 0]), (5, .ro [.rs 6 0 Q.length]), (6, .ro (ints (castL Q))), (100001, .ro tab64), (8, .own [.int .i64 c])]) (members_spec c) ?_
      refine Wk.on ?_
      refine Tr.range (md := true) tok rfl (mem c) ([(8, .ro [.int .i64 c]), (100001, .ro tab64)]) (members1_iter (n := c) (by omega) 8 (by decide)) (by (repeat (first | exact trivial | refine ⟨trivial, ?_⟩ | refine ⟨rfl, ?_⟩))) rfl (fun pre => [(7, .own [.int .i64 (pre.foldl (effI Q) 0 : Nat)]), (5, .ro [.rs 6 0 Q.length]), (6, .ro (ints (castL Q))), (100001, .ro tab64), (8, .ro [.int .i64 c])]) (fun _ => True) (9) (by decide) (by first | trivial | rfl | decide | simp) (by (repeat (first | exact trivial | refine ⟨trivial, ?_⟩ | refine ⟨rfl, ?_⟩))) (fun pre hpre => (by simp [tupA, hpLt, tmLt, AV.lt, AE.lt, AC.lt, LL_cons, LL_nil, idOk, ABlk.lt, ints_LL, GB, tab64_LL, castL, shp, ss0, sst])) (fun pre hpre => ⟨(by (repeat (first | exact trivial | refine ⟨trivial, ?_⟩ | refine ⟨rfl, ?_⟩))), (by (repeat (first | exact trivial | refine ⟨trivial, ?_⟩ | refine ⟨rfl, ?_⟩)))⟩) rfl rfl (by decide) ?_ ?_
      · intro pre x hpre _ hx hl
        obtain ⟨x0, x1, x2⟩ := mem_lt (k := Q.length) (by omega) hx
        obtain ⟨j, rfl⟩ : ∃ j : Nat, x = j := ⟨x.toNat, by omega⟩
        rw [Int.toNat_natCast] at x1
        obtain ⟨u, hu⟩ : ∃ u, u = pre.foldl (effI Q) 0 := ⟨_, rfl⟩
        obtain ⟨e, he⟩ : ∃ e, e = Q.getD j 0 := ⟨_, rfl⟩
        simp only [← hu]
        have hu2 : u < 65536 := by rw [hu]; exact sumI_lt hq _
        have he2 : e < 65536 := by
          rw [he, List.getD_eq_getElem?_getD, List.getElem?_eq_getElem x1]; exact hq _ (List.getElem_mem x1)
        refine Wk.on ?_
        refine Tr.draw (md := true) [⟨[], [17, 18, 19, 20], [], [], []⟩, ⟨[], [16, 18], [0], [], []⟩, ⟨[], [16, 17], [0, 1], [], []⟩, ⟨[1, 2], [16], [0], [], []⟩, ⟨[1, 2, 3], [16], [0], [], []⟩] tok (by kernel_rfl) (by kernel_rfl) ?_
        refine Wk.on ?_
        rw [show 0 + Int.toNat ((j : Nat) : Int) * 1 = j by rw [Int.toNat_natCast]; omega, ints_getD, castL_getD, ← he]
        refine Wk.on ?_
        refine Wk.on ?_
        refine ⟨(), trivial, RoundOk.nil ⟨?_, rfl, rfl, rfl, rfl, trivial⟩ rfl⟩
        show ABlk.own [.int .i64 ((((u : Int).toNat ^^^ (e : Int).toNat : Nat) : Int))] = ABlk.own _
        rw [List.foldl_append, ← hu, Int.toNat_natCast, Int.toNat_natCast, he]
        rfl
      · intro _
        rw [sum_mem hQ (by omega)]
        refine Wk.on ?_
        exact Under.wk [] ⟨rfl, rfl, Nat.le_of_ble_eq_true rfl, Nat.le_of_ble_eq_true rfl⟩ rfl ⟨.inl rfl, .inl rfl, .inl rfl, .inl rfl, .inl rfl, trivial⟩ ⟨.inl rfl, .inl rfl, .inr (.inl (.inl (ints_ren _ _).symm)), .inl (congrArg ABlk.ro (tab64_ren _).symm), trivial⟩ rfl (by simp [sst, ss0, ss1, ss2, ss3, ss4, tupA, hpLt, tmLt, AV.lt, AE.lt, AC.lt, idOk, GB]) (by simp [sst, ss0, ss1, ss2, ss3, ss4, shp, hpLt, ABlk.lt, LL_cons, LL_nil, AC.lt, idOk, GB, ints_LL, tab64_LL])
    intro a4 V4 R4 F5
    obtain ⟨⟨ds4, hd4, hm4⟩, hj4, hs4⟩ := F5.close hm inv.sz hJ inv.j
    have hag := F5.agree0 hok
    have hH4 : HRel R (shp Q) V4 := HRel.ag (R' := R4) (k := 7) ⟨fun i b hb => F5.hp.blk i b (by
        have hi : i ≠ 7 := fun e => by subst e; cases hb
        show lk ((7, _) :: shp Q) i = some b
        rw [lk, if_neg (Ne.symm hi)]; exact hb), fun i j b c' hi _ _ hw => by rw [allRo_sound (show allRo (shp Q) = true from rfl) i b hi] at hw; cases hw⟩ hag (shp_lt Q) rfl
    obtain ⟨sm, hsm⟩ : ∃ sm, sm = sumC Q c := ⟨_, rfl⟩
    obtain ⟨u0, g0, e0⟩ := F5.tm 0 _ rfl
    obtain ⟨u1, g1, e1⟩ := F5.tm 1 _ rfl
    obtain ⟨u4, g4, e4⟩ := F5.tm 4 _ rfl
    obtain ⟨u9, g9, e9⟩ := F5.tm 9 _ rfl
    obtain ⟨u10, g10, e10⟩ := F5.tm 10 _ rfl
    have e1 : u1 = .pointer (some (R.adr 5 0)) := conV.agree hag (x := .c (.ptr 5 0)) (.inl (by decide)) e1
    change u0 = _ at e0
    change u4 = _ at e4
    change u9 = _ at e9
    change u10 = _ at e10
    have hcell : V4.cell? (R4.adr 7 0) = some (.int .i64 (sm : Nat)) := by
      obtain ⟨cs, ty, h1, h2, h3, h4⟩ := F5.hp.blk 7 (.own [.int .i64 (sumC Q c : Nat)]) rfl
      obtain ⟨v, h5, h6⟩ := h4 0 (.int .i64 (sumC Q c : Nat)) rfl
      have h6 : v = .int .i64 (sumC Q c : Nat) := h6
      subst h6
      simp only [World.cell?, AH.Ren.adr, h1, hsm]
      simpa [h2] using h5
    obtain ⟨tmps4, defs4⟩ := a4
    obtain ⟨x0, x1, x2, x3, x4, x5, x6, x7, x8, x9, x10, x11, x12, x13, x14, x15, x16, x17, x18, x19, x20, x21, x22, x23, x24, x25, x26, hx⟩ := arr27 tmps4 F5.nt
    subst hx
    have hd4 : defs4 = marksOf ds4 := hd4
    subst hd4
    have g0 : some x0 = some u0 := g0
    have g1 : some x1 = some u1 := g1
    have g4 : some x4 = some u4 := g4
    have g9 : some x9 = some u9 := g9
    have g10 : some x10 = some u10 := g10
    injection g0 with g0
    injection g1 with g1
    injection g4 with g4
    injection g9 with g9
    injection g10 with g10
    subst g0 g1 g4 g9 g10
    subst e0 e1 e4 e9 e10
    have hnth : (sumsL Q)[c]? = some ((sm : Nat) : Int) := by
      rw [sumsL, List.getElem?_map, List.getElem?_range (by omega), hsm]; rfl
    have hin : ((sm : Nat) : Int) ∈ sumsL Q := List.mem_of_getElem? hnth
    have hl4 : pre.length < (sumsL Q).length := by rw [sumsL_len]; omega
    obtain ⟨fn, tmps, assign, body, hy, hR⟩ := hY pre ⟨(sm : Nat), hin⟩ V4 hj4 hl4
    clear F5 F4 F3 F2 F1 htm
    generalize R4.adr 7 0 = A at *
    obtain ⟨A5, hA5⟩ : ∃ A5, R.adr 5 0 = A5 := ⟨_, rfl⟩
    rw [hA5]
    show Code.wpIn (FW none) n Tryd.prog (Code.seq _ _) _ _ V4
    have hpk : ∃ _ : Unit, c = pre.length ∧ N = 2 ^ Q.length ∧ sm = sumC Q c ∧ R.adr 5 0 = A5 := ⟨(), hc, hN, hsm, hA5⟩
    clear hc hN hsm hwl hsh hA5
    obtain ⟨F, hF⟩ : ∃ F, F = FW none := ⟨_, rfl⟩
    have hro : F.round = none := by rw [hF]; rfl
    rw [← hF] at hR ⊢
    have hFp : ∃ _ : Unit, F = FW none := ⟨(), hF⟩
    clear hF
    gi_wp2
    refine hR.mono ?_
    rintro e W3 (⟨rfl, hJ3, hk3, hk4, hk5⟩ | ⟨rfl, hJx3, hk4⟩)
    · gi_wp2
      obtain ⟨_, hc, hN, hsm, hA5⟩ := hpk
      refine ⟨pre ++ [⟨(sm : Nat), hin⟩], ⟨rfl, ?_, hH4.keep hk3, ⟨ds4, rfl, hm4.1, fun d hd => ⟨(hm4.2 d hd).1, hk4 d _ (fun e => by have := (hm4.2 d hd).1; omega) (Nat.le_trans hW.size (hm4.2 d hd).1) (hm4.2 d hd).2⟩⟩, Nat.le_trans hs4 hk5, ?_, by rw [List.length_append, List.length_singleton]; omega, hJ3⟩, by rw [List.length_append, List.length_singleton]; omega⟩
      · intro t v ht
        simp only [sst, lk] at ht
        split at ht
        · rename_i e; subst e; injection ht with ht; subst ht; exact ⟨_, rfl, rfl⟩
        split at ht
        · rename_i e; subst e; injection ht with ht; subst ht; exact ⟨_, rfl, by show Value.pointer (some A5) = Value.pointer (some (R.adr 5 0)); rw [hA5]⟩
        split at ht
        · rename_i e; subst e; injection ht with ht; subst ht; exact ⟨_, rfl, by show Value.int .i64 _ = Value.int .i64 _; simp⟩
        split at ht
        · rename_i e; subst e; injection ht with ht; subst ht; exact ⟨_, rfl, by show Value.int .i64 _ = Value.int .i64 _; rw [List.length_append, List.length_singleton, ← hc]; rfl⟩
        · cases ht
      · rw [List.map_append, inv.pr, List.length_append, List.length_singleton, List.take_add_one, ← hc, hnth]; rfl
    · gi_wp2
      obtain ⟨_, hF⟩ := hFp
      obtain ⟨_, hc, hN, hsm, hA5⟩ := hpk
      subst hF
      refine leavesJ (B := W.heap.size) (J := fun _ V => Jx (pre ++ [⟨(sm : Nat), hin⟩]) V) (fun s A B row h hg hr => hJx _ A B row h hg hr) (fun V hV => ⟨_, results_none rfl _ _ _, ⟨⟨_, rfl⟩, .inr ⟨_, ?_, hV⟩⟩⟩) ds4 W3 hJx3 ⟨hm4.1, fun d hd => ⟨(hm4.2 d hd).1, hk4 d _ (fun e => by have := (hm4.2 d hd).1; omega) (Nat.le_trans hW.size (hm4.2 d hd).1) (hm4.2 d hd).2⟩⟩
      refine ⟨(sumsL Q).drop (c + 1), ?_⟩
      rw [List.map_append, inv.pr, ← hc]
      have h1 : List.take c (sumsL Q) ++ [((sm : Nat) : Int)] = (sumsL Q).take (c + 1) := by rw [List.take_add_one, hnth]; rfl
      show List.take c (sumsL Q) ++ [((sm : Nat) : Int)] ++ _ = _
      rw [h1, List.take_append_drop]
  · have hev : a1.eval (.tmp 11) = .bool false := by
      have h2 : decide (((c : Nat) : Int) < ((2 ^ Q.length : Nat) : Int)) = false := decide_eq_false (by omega)
      have : a1.eval (.tmp 11) = .bool (decide (((c : Nat) : Int) < ((2 ^ Q.length : Nat) : Int))) := hev
      rw [this, h2]
    obtain ⟨⟨ds4, hd4, hm4⟩, hj4, hs4⟩ := F2.close hm inv.sz hJ inv.j
    refine wpIn_seq (wpIn_cond_false hev (wpIn_exit ?_))
    show LeavesInM (FW none) n Tryd.prog Tryd.f91 a1.tmps _ a1.defers .returning V1
    rw [hd4]
    refine leavesJ (B := W.heap.size) (J := fun _ V => J pre V) (fun s A B row h hg hr => hJ _ A B row h hg hr) (fun V hV => ⟨_, results_none rfl _ _ _, ⟨⟨_, rfl⟩, .inl ⟨pre, ?_, hV⟩⟩⟩) ds4 V1 hj4 hm4
    show pre.map Subtype.val = sumsL Q
    rw [inv.pr, List.take_of_length_le]
    rw [sumsL_len]; omega
end Go.Proofs.YtimknijehaamlaaDoor

/-
  Contracts: the fewest lamps.
-/
namespace Go.Proofs.YtimknijehaamlaaDoor
open Go Go.AH Go.Lin
set_option maxRecDepth 100000
set_option maxHeartbeats 1000000

theorem sums_row (Q : List Nat) : FDet Tryd.prog 77 [.c (.row 0 Q.length)] [(0, .row 3 1 (ints (castL Q)))] 1 (.c (.fn 91 [] [1])) [(0, .row 3 1 (ints (castL Q))), (1, .own [.row 0 Q.length])] 2 := by
  refine FSpec.body2 tok true Tryd.func77 ?_
  refine Wk.on ?_
  exact AH.Fin.new [1] _ _ ⟨rfl, rfl, rfl⟩ rfl ⟨by show some (ABlk.row 3 1 _) = some (ABlk.row 3 1 ((ints _).map _)); rw [ints_ren], rfl, trivial⟩ rfl (by simp [tupA, hpLt, tmLt, AV.lt, AE.lt, AC.lt, LL_cons, LL_nil, idOk, ABlk.lt, ints_LL, GB, tab64_LL, pC, castL, lC, shp]) (by simp [tupA, hpLt, tmLt, AV.lt, AE.lt, AC.lt, LL_cons, LL_nil, idOk, ABlk.lt, ints_LL, GB, tab64_LL, pC, castL, lC, shp])
theorem sums_nil : FDet Tryd.prog 77 [.c .nils] [] 0 (.c (.fn 91 [] [0])) [(0, .own [.nils])] 1 := by
  refine FSpec.body2 tok true Tryd.func77 ?_
  refine Wk.on ?_
  exact AH.Fin.new [0] _ _ ⟨rfl, rfl, rfl⟩ rfl (by simp only [hpAll]; exact (by (repeat (first | exact trivial | refine ⟨rfl, ?_⟩)))) rfl (by simp [tupA, hpLt, tmLt, AV.lt, AE.lt, AC.lt, LL_cons, LL_nil, idOk, ABlk.lt, ints_LL, GB, tab64_LL, pC, castL, lC, shp]) (by simp [tupA, hpLt, tmLt, AV.lt, AE.lt, AC.lt, LL_cons, LL_nil, idOk, ABlk.lt, ints_LL, GB, tab64_LL, pC, castL, lC, shp])
def fI (first : Nat) (o : Nat) (s : Int) : Nat := if lessB pop (first ^^^ s.toNat) o then first ^^^ s.toNat else o
theorem fI_all (first : Nat) (Q : List Nat) : (sumsL Q).foldl (fI first) first = fewF pop first ((List.range (2 ^ Q.length)).map (sumC Q)) := by
  rw [sumsL, fewF, List.foldl_map, List.foldl_map]
  rfl
theorem sumC_lt {Q : List Nat} (hQ : Q.length ≤ 16) (hq : ∀ q ∈ Q, q < 65536) {c : Nat} (hc : c < 2 ^ Q.length) : sumC Q c < 65536 := by
  rw [← sum_mem hQ hc]; exact sumI_lt hq _
theorem fI_lt {first : Nat} (hf : first < 65536) : ∀ (L : List Int), (∀ s ∈ L, s.toNat < 65536) → ∀ o, o < 65536 → L.foldl (fI first) o < 65536
  | [], _, o, h => h
  | s :: L, hL, o, h => by
    refine fI_lt hf L (fun s hs => hL s (by simp [hs])) _ ?_
    unfold fI
    split
    · exact Nat.xor_lt_two_pow (n := 16) hf (hL s (by simp))
    · exact h
def fewN (n : Nat) (rows : List Nat) (t : Nat) : Nat := if (solP (bsR n rows) t).2 = 0 then fewF pop (solP (bsR n rows) t).1 ((List.range (2 ^ (qsR n rows).length)).map (sumC (qsR n rows))) else 0
theorem fewest_spec {n : Nat} {rows : List Nat} (h : Lm n rows) {t : Nat} (ht : t < 2 ^ n) : FDet Tryd.prog 58 [.c (.ptr 0 0), .c (.int .i64 t)] [(0, .ro (lC n rows)), (100001, .ro tab64)] 1 (.t [.c (.int .i64 (fewN n rows t : Nat)), .c (.bool (decide ((solP (bsR n rows) t).2 = 0)))]) [] 1 := by
  have hn := h.n16
  have hpw := h.pow
  have hl17 : (lC n rows).length = 17 := by rw [lC, List.length_cons, ints_len, castL_len, h.len]
  have hs := solve_spec h ht
  have hsl : (solP (bsR n rows) t).2 = red ((bsR n rows).map Prod.snd) t ∧ (solP (bsR n rows) t).1 < 2 ^ n ∧ ((solP (bsR n rows) t).2 = 0 → eff rows (solP (bsR n rows) t).1 = t) := (inv_all rows n (by rw [h.len]; omega)).sol t
  obtain ⟨hS, hB, hQ, hQs⟩ := h.small (Nat.le_refl n)
  have hr := reduced_spec h
  unfold fewN
  unfold bsR at hs hsl ⊢
  unfold qsR
  generalize reducedP rows n = BQ at *
  obtain ⟨B, Q⟩ := BQ
  dsimp only at hs hsl hS hB hQ hQs hr ⊢
  obtain ⟨_, hf, _⟩ := hsl
  generalize solP B t = sol at *
  obtain ⟨f, z⟩ := sol
  dsimp only at hs hf ⊢
  have hf2 : f < 65536 := by omega
  by_cases hz : z = 0
  · rw [if_pos hz, decide_eq_true hz]
    rw [decide_eq_true hz] at hs
    rcases B with _ | ⟨b0, B0⟩ <;> rcases Q with _ | ⟨q0, Q0⟩
    · skip
      have hr : FDet Tryd.prog 51 [.c (.ptr 0 0)] [(0, .ro (lC n rows))] 1 (.t [.c (.nils), .c (.nils)]) [] 1 := hr
      refine FSpec.body2 tok true Tryd.func58 ?_
      refine Wk.on ?_
      refine CallA.ro2 [0] (.t [.c (.int .i64 f), .c (.bool true)]) (hs) ?_
      refine Wk.on ?_
      refine CallA.det2 [0] (.t [.c (.nils), .c (.nils)]) ([(1, .own [.int .i64 f]), (0, .ro (lC n rows)), (100001, .ro tab64)]) (hr) ?_
      refine Wk.on ?_
      refine CallA.det2 [] (.c (.fn 91 [] [3])) ([(2, .own [.int .i64 f]), (1, .own [.int .i64 f]), (0, .ro (lC n rows)), (100001, .ro tab64), (3, .own [.nils])]) (sums_nil) ?_
      refine Wk.on ?_
      refine Tr.under (t := ⟨[(6, .c (.ptr 7 0)), (10, .c (.ptr 8 0)), (27, .c (.fn 91 [] [5]))], [(5, .ro [.rs 6 0 0]), (6, .ro (ints (castL []))), (100001, .ro tab64), (7, .own [.int .i64 f]), (8, .own [.int .i64 f])], 9, 38, 1⟩) (Under.wk [(5, 3), (6, 0), (7, 1), (8, 2)] ⟨rfl, rfl, Nat.le_of_ble_eq_true rfl, Nat.le_of_ble_eq_true rfl⟩ rfl ⟨.inl rfl, .inl rfl, .inl rfl, trivial⟩ ⟨.inr (.inl (.inr ⟨rfl, trivial⟩)), .inr (.inr ⟨rfl, rfl⟩), .inl (congrArg ABlk.ro (tab64_ren _).symm), .inl rfl, .inl rfl, trivial⟩ rfl (by simp [tupA, hpLt, tmLt, AV.lt, AE.lt, AC.lt, LL_cons, LL_nil, idOk, ABlk.lt, ints_LL, GB, tab64_LL, pC, castL, lC, shp]) (by simp [tupA, hpLt, tmLt, AV.lt, AE.lt, AC.lt, LL_cons, LL_nil, idOk, ABlk.lt, ints_LL, GB, tab64_LL, pC, castL, lC, shp])) ?_
      refine Tr.range (md := true) tok rfl (sumsL []) ([(5, .ro [.rs 6 0 0]), (6, .ro (ints (castL []))), (100001, .ro tab64)]) ((sums_iter hQ hQs)) (by (repeat (first | exact trivial | refine ⟨trivial, ?_⟩ | refine ⟨rfl, ?_⟩))) rfl (fun pre => [(5, .ro [.rs 6 0 0]), (6, .ro (ints (castL []))), (100001, .ro tab64), (7, .own [.int .i64 f]), (8, .own [.int .i64 (pre.foldl (fI f) f : Nat)])]) (fun _ => True) (9) (by decide) (by first | trivial | rfl | decide | simp) (by (repeat (first | exact trivial | refine ⟨trivial, ?_⟩ | refine ⟨rfl, ?_⟩))) (fun pre hpre => (by simp [tupA, hpLt, tmLt, AV.lt, AE.lt, AC.lt, LL_cons, LL_nil, idOk, ABlk.lt, ints_LL, GB, tab64_LL, pC, castL, lC, shp])) (fun pre hpre => ⟨(by (repeat (first | exact trivial | refine ⟨trivial, ?_⟩ | refine ⟨rfl, ?_⟩))), (by (repeat (first | exact trivial | refine ⟨trivial, ?_⟩ | refine ⟨rfl, ?_⟩)))⟩) rfl rfl (by decide) ?_ ?_
      · intro pre x hpre _ hx hl
        have hall : ∀ s ∈ pre, s.toNat < 65536 := fun s hs => by
          obtain ⟨c, hc, rfl⟩ := List.mem_map.1 (hpre s hs)
          rw [Int.toNat_natCast]; exact sumC_lt hQ hQs (List.mem_range.1 hc)
        obtain ⟨c, hc, rfl⟩ := List.mem_map.1 hx
        have hs2 := sumC_lt hQ hQs (List.mem_range.1 hc)
        obtain ⟨o, ho⟩ : ∃ o, o = pre.foldl (fI f) f := ⟨_, rfl⟩
        have ho2 : o < 65536 := by rw [ho]; exact fI_lt hf2 pre hall f hf2
        generalize sumC [] c = s at *
        simp only [← ho]
        have hx2 : f ^^^ s < 65536 := Nat.xor_lt_two_pow (n := 16) hf2 hs2
        have hfx : Int.toNat ((f : Nat) : Int) ^^^ Int.toNat ((s : Nat) : Int) = f ^^^ s := by rw [Int.toNat_natCast, Int.toNat_natCast]
        have hst : (pre ++ [((s : Nat) : Int)]).foldl (fI f) f = if lessB pop (f ^^^ s) o then f ^^^ s else o := by
          rw [List.foldl_append, ← ho]; rfl
        refine Wk.on ?_
        rw [hfx]
        refine CallA.ro2 [] (.c (.bool (lessB pop (f ^^^ s) o))) (less_spec hx2 ho2) ?_
        refine Wk.on ?_
        by_cases hl : lessB pop (f ^^^ s) o = true
        · rw [if_pos hl] at hst
          rw [hl]
          refine Wk.on ?_
          rw [hfx]
          refine Wk.on ?_
          refine ⟨(), trivial, RoundOk.nil ⟨rfl, rfl, rfl, rfl, ?_, trivial⟩ rfl⟩
          show ABlk.own [.int .i64 ((f ^^^ s : Nat) : Int)] = ABlk.own _
          rw [hst]
        · rw [if_neg hl] at hst
          rw [Bool.eq_false_iff.2 hl]
          refine Wk.on ?_
          refine ⟨(), trivial, RoundOk.nil ⟨rfl, rfl, rfl, rfl, ?_, trivial⟩ rfl⟩
          show ABlk.own [.int .i64 o] = ABlk.own _
          rw [hst]
      · intro _
        rw [fI_all]
        refine Wk.on ?_
        exact AH.Fin.nil2 ⟨rfl, rfl, rfl⟩
    · skip
      have hr : FDet Tryd.prog 51 [.c (.ptr 0 0)] [(0, .ro (lC n rows))] 1 (.t [.c (.nils), .c (.row 1 (q0 :: Q0).length)]) [(1, .row 3 1 (ints (castL (q0 :: Q0))))] 2 := hr
      refine FSpec.body2 tok true Tryd.func58 ?_
      refine Wk.on ?_
      refine CallA.ro2 [0] (.t [.c (.int .i64 f), .c (.bool true)]) (hs) ?_
      refine Wk.on ?_
      refine CallA.det2 [0] (.t [.c (.nils), .c (.row 2 (q0 :: Q0).length)]) ([(1, .own [.int .i64 f]), (0, .ro (lC n rows)), (100001, .ro tab64), (2, .row 3 1 (ints (castL (q0 :: Q0))))]) (hr) ?_
      refine Wk.on ?_
      refine CallA.det2 [2] (.c (.fn 91 [] [4])) ([(3, .own [.int .i64 f]), (1, .own [.int .i64 f]), (0, .ro (lC n rows)), (100001, .ro tab64), (4, .own [.row 2 (q0 :: Q0).length]), (2, .row 3 1 (ints (castL (q0 :: Q0))))]) (sums_row (q0 :: Q0)) ?_
      refine Wk.on ?_
      refine Tr.under (t := ⟨[(6, .c (.ptr 7 0)), (10, .c (.ptr 8 0)), (27, .c (.fn 91 [] [5]))], [(5, .ro [.rs 6 0 (q0 :: Q0).length]), (6, .ro (ints (castL (q0 :: Q0)))), (100001, .ro tab64), (7, .own [.int .i64 f]), (8, .own [.int .i64 f])], 9, 38, 1⟩) (Under.wk [(5, 4), (6, 2), (7, 1), (8, 3)] ⟨rfl, rfl, Nat.le_of_ble_eq_true rfl, Nat.le_of_ble_eq_true rfl⟩ rfl ⟨.inl rfl, .inl rfl, .inl rfl, trivial⟩ ⟨.inr (.inl (.inr ⟨⟨⟨rfl, rfl, rfl⟩, trivial⟩, trivial⟩)), .inr (.inl (.inl (ints_ren _ _).symm)), .inl (congrArg ABlk.ro (tab64_ren _).symm), .inl rfl, .inl rfl, trivial⟩ rfl (by simp [tupA, hpLt, tmLt, AV.lt, AE.lt, AC.lt, LL_cons, LL_nil, idOk, ABlk.lt, ints_LL, GB, tab64_LL, pC, castL, lC, shp]) (by simp [tupA, hpLt, tmLt, AV.lt, AE.lt, AC.lt, LL_cons, LL_nil, idOk, ABlk.lt, ints_LL, GB, tab64_LL, pC, castL, lC, shp])) ?_
      refine Tr.range (md := true) tok rfl (sumsL (q0 :: Q0)) ([(5, .ro [.rs 6 0 (q0 :: Q0).length]), (6, .ro (ints (castL (q0 :: Q0)))), (100001, .ro tab64)]) ((sums_iter hQ hQs)) (by (repeat (first | exact trivial | refine ⟨trivial, ?_⟩ | refine ⟨rfl, ?_⟩))) rfl (fun pre => [(5, .ro [.rs 6 0 (q0 :: Q0).length]), (6, .ro (ints (castL (q0 :: Q0)))), (100001, .ro tab64), (7, .own [.int .i64 f]), (8, .own [.int .i64 (pre.foldl (fI f) f : Nat)])]) (fun _ => True) (9) (by decide) (by first | trivial | rfl | decide | simp) (by (repeat (first | exact trivial | refine ⟨trivial, ?_⟩ | refine ⟨rfl, ?_⟩))) (fun pre hpre => (by simp [tupA, hpLt, tmLt, AV.lt, AE.lt, AC.lt, LL_cons, LL_nil, idOk, ABlk.lt, ints_LL, GB, tab64_LL, pC, castL, lC, shp])) (fun pre hpre => ⟨(by (repeat (first | exact trivial | refine ⟨trivial, ?_⟩ | refine ⟨rfl, ?_⟩))), (by (repeat (first | exact trivial | refine ⟨trivial, ?_⟩ | refine ⟨rfl, ?_⟩)))⟩) rfl rfl (by decide) ?_ ?_
      · intro pre x hpre _ hx hl
        have hall : ∀ s ∈ pre, s.toNat < 65536 := fun s hs => by
          obtain ⟨c, hc, rfl⟩ := List.mem_map.1 (hpre s hs)
          rw [Int.toNat_natCast]; exact sumC_lt hQ hQs (List.mem_range.1 hc)
        obtain ⟨c, hc, rfl⟩ := List.mem_map.1 hx
        have hs2 := sumC_lt hQ hQs (List.mem_range.1 hc)
        obtain ⟨o, ho⟩ : ∃ o, o = pre.foldl (fI f) f := ⟨_, rfl⟩
        have ho2 : o < 65536 := by rw [ho]; exact fI_lt hf2 pre hall f hf2
        generalize sumC (q0 :: Q0) c = s at *
        simp only [← ho]
        have hx2 : f ^^^ s < 65536 := Nat.xor_lt_two_pow (n := 16) hf2 hs2
        have hfx : Int.toNat ((f : Nat) : Int) ^^^ Int.toNat ((s : Nat) : Int) = f ^^^ s := by rw [Int.toNat_natCast, Int.toNat_natCast]
        have hst : (pre ++ [((s : Nat) : Int)]).foldl (fI f) f = if lessB pop (f ^^^ s) o then f ^^^ s else o := by
          rw [List.foldl_append, ← ho]; rfl
        refine Wk.on ?_
        rw [hfx]
        refine CallA.ro2 [] (.c (.bool (lessB pop (f ^^^ s) o))) (less_spec hx2 ho2) ?_
        refine Wk.on ?_
        by_cases hl : lessB pop (f ^^^ s) o = true
        · rw [if_pos hl] at hst
          rw [hl]
          refine Wk.on ?_
          rw [hfx]
          refine Wk.on ?_
          refine ⟨(), trivial, RoundOk.nil ⟨rfl, rfl, rfl, rfl, ?_, trivial⟩ rfl⟩
          show ABlk.own [.int .i64 ((f ^^^ s : Nat) : Int)] = ABlk.own _
          rw [hst]
        · rw [if_neg hl] at hst
          rw [Bool.eq_false_iff.2 hl]
          refine Wk.on ?_
          refine ⟨(), trivial, RoundOk.nil ⟨rfl, rfl, rfl, rfl, ?_, trivial⟩ rfl⟩
          show ABlk.own [.int .i64 o] = ABlk.own _
          rw [hst]
      · intro _
        rw [fI_all]
        refine Wk.on ?_
        exact AH.Fin.nil2 ⟨rfl, rfl, rfl⟩
    · skip
      have hr : FDet Tryd.prog 51 [.c (.ptr 0 0)] [(0, .ro (lC n rows))] 1 (.t [.c (.row 1 (b0 :: B0).length), .c (.nils)]) [(1, .row 93 2 (ints (prs (b0 :: B0))))] 2 := hr
      refine FSpec.body2 tok true Tryd.func58 ?_
      refine Wk.on ?_
      refine CallA.ro2 [0] (.t [.c (.int .i64 f), .c (.bool true)]) (hs) ?_
      refine Wk.on ?_
      refine CallA.det2 [0] (.t [.c (.row 2 (b0 :: B0).length), .c (.nils)]) ([(1, .own [.int .i64 f]), (0, .ro (lC n rows)), (100001, .ro tab64), (2, .row 93 2 (ints (prs (b0 :: B0))))]) (hr) ?_
      refine Wk.on ?_
      refine CallA.det2 [] (.c (.fn 91 [] [4])) ([(3, .own [.int .i64 f]), (1, .own [.int .i64 f]), (0, .ro (lC n rows)), (100001, .ro tab64), (2, .row 93 2 (ints (prs (b0 :: B0)))), (4, .own [.nils])]) (sums_nil) ?_
      refine Wk.on ?_
      refine Tr.under (t := ⟨[(6, .c (.ptr 7 0)), (10, .c (.ptr 8 0)), (27, .c (.fn 91 [] [5]))], [(5, .ro [.rs 6 0 0]), (6, .ro (ints (castL []))), (100001, .ro tab64), (7, .own [.int .i64 f]), (8, .own [.int .i64 f])], 9, 38, 1⟩) (Under.wk [(5, 4), (6, 0), (7, 1), (8, 3)] ⟨rfl, rfl, Nat.le_of_ble_eq_true rfl, Nat.le_of_ble_eq_true rfl⟩ rfl ⟨.inl rfl, .inl rfl, .inl rfl, trivial⟩ ⟨.inr (.inl (.inr ⟨rfl, trivial⟩)), .inr (.inr ⟨rfl, rfl⟩), .inl (congrArg ABlk.ro (tab64_ren _).symm), .inl rfl, .inl rfl, trivial⟩ rfl (by simp [tupA, hpLt, tmLt, AV.lt, AE.lt, AC.lt, LL_cons, LL_nil, idOk, ABlk.lt, ints_LL, GB, tab64_LL, pC, castL, lC, shp]) (by simp [tupA, hpLt, tmLt, AV.lt, AE.lt, AC.lt, LL_cons, LL_nil, idOk, ABlk.lt, ints_LL, GB, tab64_LL, pC, castL, lC, shp])) ?_
      refine Tr.range (md := true) tok rfl (sumsL []) ([(5, .ro [.rs 6 0 0]), (6, .ro (ints (castL []))), (100001, .ro tab64)]) ((sums_iter hQ hQs)) (by (repeat (first | exact trivial | refine ⟨trivial, ?_⟩ | refine ⟨rfl, ?_⟩))) rfl (fun pre => [(5, .ro [.rs 6 0 0]), (6, .ro (ints (castL []))), (100001, .ro tab64), (7, .own [.int .i64 f]), (8, .own [.int .i64 (pre.foldl (fI f) f : Nat)])]) (fun _ => True) (9) (by decide) (by first | trivial | rfl | decide | simp) (by (repeat (first | exact trivial | refine ⟨trivial, ?_⟩ | refine ⟨rfl, ?_⟩))) (fun pre hpre => (by simp [tupA, hpLt, tmLt, AV.lt, AE.lt, AC.lt, LL_cons, LL_nil, idOk, ABlk.lt, ints_LL, GB, tab64_LL, pC, castL, lC, shp])) (fun pre hpre => ⟨(by (repeat (first | exact trivial | refine ⟨trivial, ?_⟩ | refine ⟨rfl, ?_⟩))), (by (repeat (first | exact trivial | refine ⟨trivial, ?_⟩ | refine ⟨rfl, ?_⟩)))⟩) rfl rfl (by decide) ?_ ?_
      · intro pre x hpre _ hx hl
        have hall : ∀ s ∈ pre, s.toNat < 65536 := fun s hs => by
          obtain ⟨c, hc, rfl⟩ := List.mem_map.1 (hpre s hs)
          rw [Int.toNat_natCast]; exact sumC_lt hQ hQs (List.mem_range.1 hc)
        obtain ⟨c, hc, rfl⟩ := List.mem_map.1 hx
        have hs2 := sumC_lt hQ hQs (List.mem_range.1 hc)
        obtain ⟨o, ho⟩ : ∃ o, o = pre.foldl (fI f) f := ⟨_, rfl⟩
        have ho2 : o < 65536 := by rw [ho]; exact fI_lt hf2 pre hall f hf2
        generalize sumC [] c = s at *
        simp only [← ho]
        have hx2 : f ^^^ s < 65536 := Nat.xor_lt_two_pow (n := 16) hf2 hs2
        have hfx : Int.toNat ((f : Nat) : Int) ^^^ Int.toNat ((s : Nat) : Int) = f ^^^ s := by rw [Int.toNat_natCast, Int.toNat_natCast]
        have hst : (pre ++ [((s : Nat) : Int)]).foldl (fI f) f = if lessB pop (f ^^^ s) o then f ^^^ s else o := by
          rw [List.foldl_append, ← ho]; rfl
        refine Wk.on ?_
        rw [hfx]
        refine CallA.ro2 [] (.c (.bool (lessB pop (f ^^^ s) o))) (less_spec hx2 ho2) ?_
        refine Wk.on ?_
        by_cases hl : lessB pop (f ^^^ s) o = true
        · rw [if_pos hl] at hst
          rw [hl]
          refine Wk.on ?_
          rw [hfx]
          refine Wk.on ?_
          refine ⟨(), trivial, RoundOk.nil ⟨rfl, rfl, rfl, rfl, ?_, trivial⟩ rfl⟩
          show ABlk.own [.int .i64 ((f ^^^ s : Nat) : Int)] = ABlk.own _
          rw [hst]
        · rw [if_neg hl] at hst
          rw [Bool.eq_false_iff.2 hl]
          refine Wk.on ?_
          refine ⟨(), trivial, RoundOk.nil ⟨rfl, rfl, rfl, rfl, ?_, trivial⟩ rfl⟩
          show ABlk.own [.int .i64 o] = ABlk.own _
          rw [hst]
      · intro _
        rw [fI_all]
        refine Wk.on ?_
        exact AH.Fin.nil2 ⟨rfl, rfl, rfl⟩
    · skip
      have hr : FDet Tryd.prog 51 [.c (.ptr 0 0)] [(0, .ro (lC n rows))] 1 (.t [.c (.row 1 (b0 :: B0).length), .c (.row 2 (q0 :: Q0).length)]) [(1, .row 93 2 (ints (prs (b0 :: B0)))), (2, .row 3 1 (ints (castL (q0 :: Q0))))] 3 := hr
      refine FSpec.body2 tok true Tryd.func58 ?_
      refine Wk.on ?_
      refine CallA.ro2 [0] (.t [.c (.int .i64 f), .c (.bool true)]) (hs) ?_
      refine Wk.on ?_
      refine CallA.det2 [0] (.t [.c (.row 2 (b0 :: B0).length), .c (.row 3 (q0 :: Q0).length)]) ([(1, .own [.int .i64 f]), (0, .ro (lC n rows)), (100001, .ro tab64), (3, .row 3 1 (ints (castL (q0 :: Q0)))), (2, .row 93 2 (ints (prs (b0 :: B0))))]) (hr) ?_
      refine Wk.on ?_
      refine CallA.det2 [3] (.c (.fn 91 [] [5])) ([(4, .own [.int .i64 f]), (1, .own [.int .i64 f]), (0, .ro (lC n rows)), (100001, .ro tab64), (2, .row 93 2 (ints (prs (b0 :: B0)))), (5, .own [.row 3 (q0 :: Q0).length]), (3, .row 3 1 (ints (castL (q0 :: Q0))))]) (sums_row (q0 :: Q0)) ?_
      refine Wk.on ?_
      refine Tr.under (t := ⟨[(6, .c (.ptr 7 0)), (10, .c (.ptr 8 0)), (27, .c (.fn 91 [] [5]))], [(5, .ro [.rs 6 0 (q0 :: Q0).length]), (6, .ro (ints (castL (q0 :: Q0)))), (100001, .ro tab64), (7, .own [.int .i64 f]), (8, .own [.int .i64 f])], 9, 38, 1⟩) (Under.wk [(5, 5), (6, 3), (7, 1), (8, 4)] ⟨rfl, rfl, Nat.le_of_ble_eq_true rfl, Nat.le_of_ble_eq_true rfl⟩ rfl ⟨.inl rfl, .inl rfl, .inl rfl, trivial⟩ ⟨.inr (.inl (.inr ⟨⟨⟨rfl, rfl, rfl⟩, trivial⟩, trivial⟩)), .inr (.inl (.inl (ints_ren _ _).symm)), .inl (congrArg ABlk.ro (tab64_ren _).symm), .inl rfl, .inl rfl, trivial⟩ rfl (by simp [tupA, hpLt, tmLt, AV.lt, AE.lt, AC.lt, LL_cons, LL_nil, idOk, ABlk.lt, ints_LL, GB, tab64_LL, pC, castL, lC, shp]) (by simp [tupA, hpLt, tmLt, AV.lt, AE.lt, AC.lt, LL_cons, LL_nil, idOk, ABlk.lt, ints_LL, GB, tab64_LL, pC, castL, lC, shp])) ?_
      refine Tr.range (md := true) tok rfl (sumsL (q0 :: Q0)) ([(5, .ro [.rs 6 0 (q0 :: Q0).length]), (6, .ro (ints (castL (q0 :: Q0)))), (100001, .ro tab64)]) ((sums_iter hQ hQs)) (by (repeat (first | exact trivial | refine ⟨trivial, ?_⟩ | refine ⟨rfl, ?_⟩))) rfl (fun pre => [(5, .ro [.rs 6 0 (q0 :: Q0).length]), (6, .ro (ints (castL (q0 :: Q0)))), (100001, .ro tab64), (7, .own [.int .i64 f]), (8, .own [.int .i64 (pre.foldl (fI f) f : Nat)])]) (fun _ => True) (9) (by decide) (by first | trivial | rfl | decide | simp) (by (repeat (first | exact trivial | refine ⟨trivial, ?_⟩ | refine ⟨rfl, ?_⟩))) (fun pre hpre => (by simp [tupA, hpLt, tmLt, AV.lt, AE.lt, AC.lt, LL_cons, LL_nil, idOk, ABlk.lt, ints_LL, GB, tab64_LL, pC, castL, lC, shp])) (fun pre hpre => ⟨(by (repeat (first | exact trivial | refine ⟨trivial, ?_⟩ | refine ⟨rfl, ?_⟩))), (by (repeat (first | exact trivial | refine ⟨trivial, ?_⟩ | refine ⟨rfl, ?_⟩)))⟩) rfl rfl (by decide) ?_ ?_
      · intro pre x hpre _ hx hl
        have hall : ∀ s ∈ pre, s.toNat < 65536 := fun s hs => by
          obtain ⟨c, hc, rfl⟩ := List.mem_map.1 (hpre s hs)
          rw [Int.toNat_natCast]; exact sumC_lt hQ hQs (List.mem_range.1 hc)
        obtain ⟨c, hc, rfl⟩ := List.mem_map.1 hx
        have hs2 := sumC_lt hQ hQs (List.mem_range.1 hc)
        obtain ⟨o, ho⟩ : ∃ o, o = pre.foldl (fI f) f := ⟨_, rfl⟩
        have ho2 : o < 65536 := by rw [ho]; exact fI_lt hf2 pre hall f hf2
        generalize sumC (q0 :: Q0) c = s at *
        simp only [← ho]
        have hx2 : f ^^^ s < 65536 := Nat.xor_lt_two_pow (n := 16) hf2 hs2
        have hfx : Int.toNat ((f : Nat) : Int) ^^^ Int.toNat ((s : Nat) : Int) = f ^^^ s := by rw [Int.toNat_natCast, Int.toNat_natCast]
        have hst : (pre ++ [((s : Nat) : Int)]).foldl (fI f) f = if lessB pop (f ^^^ s) o then f ^^^ s else o := by
          rw [List.foldl_append, ← ho]; rfl
        refine Wk.on ?_
        rw [hfx]
        refine CallA.ro2 [] (.c (.bool (lessB pop (f ^^^ s) o))) (less_spec hx2 ho2) ?_
        refine Wk.on ?_
        by_cases hl : lessB pop (f ^^^ s) o = true
        · rw [if_pos hl] at hst
          rw [hl]
          refine Wk.on ?_
          rw [hfx]
          refine Wk.on ?_
          refine ⟨(), trivial, RoundOk.nil ⟨rfl, rfl, rfl, rfl, ?_, trivial⟩ rfl⟩
          show ABlk.own [.int .i64 ((f ^^^ s : Nat) : Int)] = ABlk.own _
          rw [hst]
        · rw [if_neg hl] at hst
          rw [Bool.eq_false_iff.2 hl]
          refine Wk.on ?_
          refine ⟨(), trivial, RoundOk.nil ⟨rfl, rfl, rfl, rfl, ?_, trivial⟩ rfl⟩
          show ABlk.own [.int .i64 o] = ABlk.own _
          rw [hst]
      · intro _
        rw [fI_all]
        refine Wk.on ?_
        exact AH.Fin.nil2 ⟨rfl, rfl, rfl⟩
  · rw [if_neg hz, decide_eq_false hz]
    rw [decide_eq_false hz] at hs
    refine FSpec.body2 tok true Tryd.func58 ?_
    refine Wk.on ?_
    refine CallA.ro2 [0] (.t [.c (.int .i64 f), .c (.bool false)]) (hs) ?_
    refine Wk.on ?_
    exact AH.Fin.nil2 ⟨rfl, rfl, rfl⟩
end Go.Proofs.YtimknijehaamlaaDoor

/-
  Contracts: Fewest; the law's wakefulness.
-/
namespace Go.Proofs.YtimknijehaamlaaDoor
open Go Go.AH Go.Lin
set_option maxRecDepth 100000
set_option maxHeartbeats 1000000

theorem Fewest_spec {n : Nat} {ws : List (Nat × Nat)} (h : Gr n ws) (own : Bool) (hw : ws.length ≤ 1000) {t : Nat} (ht : t < 2 ^ n) : FDet Tryd.prog 38 [.c (.int .i64 n), .c (.rs 0 0 ws.length), .c (.bool own), .c (.int .i64 t)] [(0, .ro (ints (prs ws))), (100001, .ro tab64)] 1
    (.t [.c (.int .i64 (fewN n (openR n ws own) t : Nat)), .c (.bool (decide ((solP (bsR n (openR n ws own)) t).2 = 0))), .c (.int .i64 0)]) [] 1 := by
  refine FSpec.body2 tok true Tryd.func38 ?_
  refine Wk.on ?_
  refine CallA.det2 [0, 1] (.t [.c (.ptr 2 0), .c (.int .i64 0)]) ([(1, .own [.int .i64 t]), (0, .ro (ints (prs ws))), (100001, .ro tab64), (2, .own (lC n (openR n ws own)))]) (open_s1 h own hw ht) ?_
  refine Wk.on ?_
  refine CallA.ro2 [2] (.t [.c (.int .i64 (fewN n (openR n ws own) t : Nat)), .c (.bool (decide ((solP (bsR n (openR n ws own)) t).2 = 0)))]) (fewest_spec (openR_lm h own) ht) ?_
  refine Wk.on ?_
  exact AH.Fin.nil2 ⟨rfl, rfl, rfl⟩

theorem gr2 : Gr 2 [(0, 1)] := ⟨by decide, by decide, by decide, fun i hi => absurd hi (by show ¬ i + 1 < 1; omega)⟩
theorem gr9 : Gr 9 (gridL 3 3 9) := ⟨by decide, by decide, by decide +kernel, fun i hi => (show ∀ i, i < (gridL 3 3 9).length → i + 1 < (gridL 3 3 9).length → 16 * ((gridL 3 3 9).getD i (0, 0)).1 + ((gridL 3 3 9).getD i (0, 0)).2 < 16 * ((gridL 3 3 9).getD (i + 1) (0, 0)).1 + ((gridL 3 3 9).getD (i + 1) (0, 0)).2 by decide +kernel) i (Nat.lt_of_succ_lt hi) hi⟩
theorem aw_quiet : FDet Tryd.prog 18 [.c (.int .i64 2), .c (.sl 0 0 1 (some 1)), .c (.bool true)] [(0, .ro [.int .i64 0, .int .i64 1])] 1 (.t [.c (.row 1 1), .c (.int .i64 0)]) [(1, .row 3 1 [.int .i64 3])] 2 := by
  have e : (tidyD (qsR 2 (openR 2 [(0, 1)] true))).reverse = [3] := by decide +kernel
  have := Quiet_spec gr2 (by decide) true (by decide)
  rw [e] at this
  exact FDet.wk this ⟨rfl, ⟨rfl, rfl, rfl⟩, rfl, trivial⟩ ⟨.inl rfl, trivial⟩
theorem aw_ref : FDet Tryd.prog 44 [.c (.int .i64 2), .c (.sl 0 0 1 (some 1)), .c (.bool true), .c (.int .i64 1), .c (.int .i64 3)] [(0, .ro [.int .i64 0, .int .i64 1]), (100001, .ro tab64)] 1 (.t [.c (.bool true), .c (.int .i64 0)]) [] 1 := by
  have e : (decide (eff (openR 2 [(0, 1)] true) 3 = 0) && decide (pop (3 &&& 1) % 2 = 1)) = true := by decide +kernel
  have := IsRefutation_spec gr2 true (by decide) (t := 1) (q := 3) (by decide) (by decide)
  rw [e] at this
  exact FDet.wk this ⟨rfl, ⟨rfl, rfl, rfl⟩, rfl, rfl, rfl, trivial⟩ ⟨.inl rfl, .inl rfl, trivial⟩
theorem aw_grid : FDet Tryd.prog 23 [.c (.int .i64 3), .c (.int .i64 3)] [] 0 (.t [.c (.int .i64 9), .c (.row 0 12), .c (.int .i64 0)]) [(0, .row 38 2 (ints (prs (gridL 3 3 9))))] 1 := by
  have := Grid_spec (h := 3) (w := 3) (by decide) (by decide) (by decide)
  exact this
theorem aw_few : FDet Tryd.prog 38 [.c (.int .i64 9), .c (.row 0 12), .c (.bool true), .c (.int .i64 511)] [(0, .row 38 2 (ints (prs (gridL 3 3 9)))), (100001, .ro tab64)] 1 (.t [.c (.int .i64 341), .c (.bool true), .c (.int .i64 0)]) [] 1 := by
  have e1 : fewN 9 (openR 9 (gridL 3 3 9) true) 511 = 341 := by decide +kernel
  have e2 : decide ((solP (bsR 9 (openR 9 (gridL 3 3 9) true)) 511).2 = 0) = true := by decide +kernel
  have := Fewest_spec gr9 true (by decide) (t := 511) (by decide)
  rw [e1, e2] at this
  exact FDet.wk this ⟨rfl, ⟨⟨rfl, rfl, rfl⟩, trivial⟩, rfl, rfl, trivial⟩ ⟨.inl rfl, .inl rfl, trivial⟩
theorem aw_poly : FDet Tryd.prog 28 [.c (.int .i64 3)] [(100001, .ro tab64)] 0 (.t [.c (.row 0 2), .c (.int .i64 0)]) [(0, .row 3 1 [.int .i64 0, .int .i64 2])] 1 := by
  have e : exQ (pathC 3 false) (pathC 3 false).2 = [0, 2] := by decide +kernel
  have := Polynomial_spec (n := 3) (by decide) (by decide)
  rw [e] at this
  exact this
theorem aw_gq : FDet Tryd.prog 26 [.c (.int .i64 5), .c (.int .i64 5), .c (.bool true)] [(100001, .ro tab64)] 0 (.t [.c (.int .i64 2), .c (.int .i64 0)]) [] 0 := by
  have e : ((comQ (pathC (5 + 1) true) (pathC (5 + 1) false)).2 : Int) - 1 = 2 := by decide +kernel
  have := GridQuiet_spec (h := 5) (w := 5) (by decide) (by decide) (by decide) (by decide) true
  rw [e] at this
  exact this
theorem open_zero : FDet Tryd.prog 50 [.c (.int .i64 0), .c .nils, .c (.bool false), .c .nils] [] 0 (.t [.c .nilp, .c (.int .i64 1)]) [] 0 := by
  refine FSpec.body2 tok true Tryd.func50 ?_
  refine Wk.on ?_
  exact AH.Fin.nil2 ⟨rfl, rfl, rfl⟩
theorem check_zero : FDet Tryd.prog 25 [.c (.int .i64 0), .c .nils] [] 0 (.c (.int .i64 1)) [] 0 := by
  refine FSpec.body2 tok true Tryd.func25 ?_
  refine Wk.on ?_
  refine CallA.ro2 [] (.t [.c .nilp, .c (.int .i64 1)]) (open_zero) ?_
  refine Wk.on ?_
  exact AH.Fin.nil2 ⟨rfl, rfl, rfl⟩
theorem awake_spec : FDet Tryd.prog 22 [] [(100001, .ro tab64)] 0 (.c (.bool true)) [] 0 := by
  refine FSpec.body2 tok true Tryd.func22 ?_
  refine Wk.on ?_
  refine CallA.det2 [0] (.t [.c (.row 1 1), .c (.int .i64 0)]) ([(0, .own [.int .i64 0, .int .i64 1]), (100001, .ro tab64), (1, .row 3 1 [.int .i64 3])]) (aw_quiet) ?_
  refine Wk.on ?_
  refine CallA.ro2 [0] (.t [.c (.bool true), .c (.int .i64 0)]) (aw_ref) ?_
  refine Wk.on ?_
  refine CallA.det2 [] (.t [.c (.int .i64 9), .c (.row 2 12), .c (.int .i64 0)]) ([(0, .own [.int .i64 0, .int .i64 1]), (100001, .ro tab64), (1, .row 3 1 [.int .i64 3]), (2, .row 38 2 (ints (prs (gridL 3 3 9))))]) (aw_grid) ?_
  refine Wk.on ?_
  refine CallA.det2 [2] (.t [.c (.int .i64 341), .c (.bool true), .c (.int .i64 0)]) ([(0, .own [.int .i64 0, .int .i64 1]), (100001, .ro tab64), (1, .row 3 1 [.int .i64 3])]) (aw_few) ?_
  refine Wk.on ?_
  refine CallA.det2 [] (.t [.c (.row 3 2), .c (.int .i64 0)]) ([(0, .own [.int .i64 0, .int .i64 1]), (100001, .ro tab64), (1, .row 3 1 [.int .i64 3]), (3, .row 3 1 [.int .i64 0, .int .i64 2])]) (aw_poly) ?_
  refine Wk.on ?_
  refine CallA.ro2 [] (.t [.c (.int .i64 2), .c (.int .i64 0)]) (aw_gq) ?_
  refine Wk.on ?_
  refine CallA.ro2 [] (.c (.int .i64 1)) (check_zero) ?_
  refine Wk.on ?_
  exact AH.Fin.nil2 ⟨rfl, rfl, rfl⟩
end Go.Proofs.YtimknijehaamlaaDoor

/-
  Any numbers make a graph; a graph's rows are symmetric. (Plain.)
-/
namespace Go.Proofs.YtimknijehaamlaaDoor
open Go Go.AH Go.Lin

theorem tabT_ok (ws : List (Int × Int)) {N : Nat} (h1 : 1 ≤ N) (h16 : N ≤ 16) (k : Nat) : ∀ j, (tabT ws N k).getD j false = true → j / 16 < j % 16 ∧ j % 16 < N := by
  have : ∀ (l : List (Int × Int)) (T : List Bool), T.length = 256 → (∀ j, T.getD j false = true → j / 16 < j % 16 ∧ j % 16 < N) → ∀ j, (l.foldl (tabF N) T).getD j false = true → j / 16 < j % 16 ∧ j % 16 < N := by
    intro l
    induction l with
    | nil => intro T _ h; exact h
    | cons p l ih =>
      intro T hl h
      refine ih _ (by rw [tabF, List.length_set, hl]) fun j hj => ?_
      have ha := um_lt p.1 (n := N) h1
      have hb := um_lt p.2 (n := N) h1
      rw [tabF] at hj
      generalize um p.1 N = a at *
      generalize um p.2 N = b at *
      rw [getD_set' (by rw [hl]; omega)] at hj
      split at hj
      · rename_i e
        have hab : a ≠ b := of_decide_eq_true hj
        omega
      · exact h j hj
  exact this _ _ (by rw [List.length_replicate]) fun j hj => by
    rw [List.getD_eq_getElem?_getD, List.getElem?_replicate] at hj
    split at hj <;> cases hj
theorem prT_gr {N : Nat} {T : List Bool} (h1 : 1 ≤ N) (h16 : N ≤ 16) (hT : ∀ j, T.getD j false = true → j / 16 < j % 16 ∧ j % 16 < N) : Gr N (prT T 256) := by
  have hp : ((List.range 256).filter fun i => T.getD i false).Pairwise (· < ·) := List.Pairwise.filter _ List.pairwise_lt_range
  have hm : ∀ x ∈ ((List.range 256).filter fun i => T.getD i false), x / 16 < x % 16 ∧ x % 16 < N := fun x hx => hT x (by simpa using (List.mem_filter.1 hx).2)
  rw [prT]
  generalize (List.range 256).filter (fun i => T.getD i false) = L at *
  have hg : ∀ i (hi : i < L.length), (L.map fun i => (i / 16, i % 16)).getD i (0, 0) = (L[i] / 16, L[i] % 16) := fun i hi => by
    rw [List.getD_eq_getElem?_getD, List.getElem?_map, List.getElem?_eq_getElem hi]; rfl
  refine ⟨h1, h16, fun i hi => ?_, fun i hi => ?_⟩
  · rw [List.length_map] at hi
    rw [hg i hi]
    exact hm _ (List.getElem_mem hi)
  · rw [List.length_map] at hi
    rw [hg i (by omega), hg (i + 1) hi]
    have := List.pairwise_iff_getElem.1 hp i (i + 1) (by omega) hi (by omega)
    show 16 * (L[i] / 16) + L[i] % 16 < 16 * (L[i + 1] / 16) + L[i + 1] % 16
    omega
theorem tame_gr (n : Int) (ws : List (Int × Int)) {most : Nat} (h1 : 1 ≤ most) (h2 : most ≤ 16) : Gr (tameN n most) (tameP n ws most) := by
  have := um_lt n (n := most) h1
  exact prT_gr (by unfold tameN; omega) (by unfold tameN; omega) (tabT_ok ws (by unfold tameN; omega) (by unfold tameN; omega) _)
theorem tameP_len (n : Int) (ws : List (Int × Int)) (most : Nat) : (tameP n ws most).length ≤ 256 := prT_len _ _

/-! Rows, bit by bit. -/
theorem orAt_get {rows : List Nat} {i v : Nat} (hi : i < rows.length) (k : Nat) : (orAt rows i v).getD k 0 = if i = k then rows.getD k 0 ||| v else rows.getD k 0 := by
  rw [orAt, List.getD_eq_getElem?_getD, List.getElem?_set]
  by_cases e : i = k
  · subst e
    rw [if_pos rfl, if_pos rfl, if_pos hi]; rfl
  · rw [if_neg e, if_neg e, ← List.getD_eq_getElem?_getD]
def SymR (rows : List Nat) : Prop := ∀ i j, i < 16 → j < 16 → (rows.getD i 0).testBit j = (rows.getD j 0).testBit i
theorem nearF_sym {rows : List Nat} (hl : rows.length = 16) (h : SymR rows) {p : Nat × Nat} (h1 : p.1 < 16) (h2 : p.2 < 16) : SymR (nearF rows p) := by
  intro i j hi hj
  have hl2 : (orAt rows p.1 (2 ^ p.2)).length = 16 := by rw [orAt, List.length_set, hl]
  have g : ∀ k m, ((nearF rows p).getD k 0).testBit m = ((rows.getD k 0).testBit m || (decide (p.1 = k) && decide (p.2 = m)) || (decide (p.2 = k) && decide (p.1 = m))) := by
    intro k m
    rw [nearF, orAt_get (by omega), orAt_get (by omega)]
    by_cases e1 : p.1 = k <;> by_cases e2 : p.2 = k <;> simp [e1, e2, Nat.testBit_or, Nat.testBit_two_pow, Bool.or_assoc]
  rw [g, g, h i j hi hj]
  cases (rows.getD j 0).testBit i <;> simp [Bool.or_comm, Bool.and_comm, and_comm, or_comm]
theorem ownF_sym {rows : List Nat} (hl : rows.length = 16) (h : SymR rows) {i : Nat} (hi : i < 16) : SymR (ownF rows i) := by
  intro a b ha hb
  have g : ∀ k m, ((ownF rows i).getD k 0).testBit m = ((rows.getD k 0).testBit m || (decide (i = k) && decide (i = m))) := by
    intro k m
    rw [ownF, orAt_get (by omega)]
    by_cases e : i = k <;> simp [e, Nat.testBit_or, Nat.testBit_two_pow]
  rw [g, g, h a b ha hb, Bool.and_comm]
end Go.Proofs.YtimknijehaamlaaDoor

/-
  A graph's rows are symmetric; all lamps can be lit. (Plain.)
-/
namespace Go.Proofs.YtimknijehaamlaaDoor
open Go Go.AH Go.Lin

theorem nearR_sym {n : Nat} {ws : List (Nat × Nat)} (h : Gr n ws) (k : Nat) (hk : k ≤ ws.length) : SymR (nearR (ws.take k)) := by
  have hn := h.n16
  induction k with
  | zero =>
    intro i j hi hj
    have : ∀ i, zero16.getD i 0 = 0 := fun i => by
      rw [zero16, List.getD_eq_getElem?_getD, List.getElem?_replicate]
      split <;> rfl
    show (zero16.getD i 0).testBit j = (zero16.getD j 0).testBit i
    rw [this, this, Nat.zero_testBit, Nat.zero_testBit]
  | succ k ih =>
    have ho := h.ok k (by omega)
    rw [take_succ ws (0, 0) (by omega), nearR, List.foldl_append]
    exact nearF_sym (nearR_lm h k (by omega)).len (ih (by omega)) (by omega) (by omega)
theorem ownR_sym {n : Nat} {rows : List Nat} (hL : Lm n rows) (h : SymR rows) (k : Nat) (hk : k ≤ n) : SymR (ownR k rows) := by
  have hn := hL.n16
  induction k with
  | zero => exact h
  | succ k ih =>
    rw [ownR, List.range_succ, List.foldl_append]
    exact ownF_sym (ownR_lm hL k (by omega)).len (ih (by omega)) (by omega)
theorem openR_sym {n : Nat} {ws : List (Nat × Nat)} (h : Gr n ws) (own : Bool) : SymR (openR n ws own) := by
  have h1 := nearR_sym h ws.length (Nat.le_refl _)
  have h2 := nearR_lm h ws.length (Nat.le_refl _)
  rw [List.take_of_length_le (Nat.le_refl _)] at h1 h2
  cases own
  · exact h1
  · exact ownR_sym h2 h1 n (Nat.le_refl _)
theorem openR_Sym {n : Nat} {ws : List (Nat × Nat)} (h : Gr n ws) (own : Bool) : Sym (openR n ws own) n := by
  have hn := h.n16
  have hl := openR_lm h own
  exact ⟨by rw [hl.len]; omega, fun i _ => hl.row i, fun i j hi hj => openR_sym h own i j (by omega) (by omega)⟩
theorem ownR_diag {n : Nat} {rows : List Nat} (hL : Lm n rows) (k : Nat) (hk : k ≤ n) : ∀ i, i < k → ((ownR k rows).getD i 0).testBit i = true := by
  have hn := hL.n16
  induction k with
  | zero => intro i hi; omega
  | succ k ih =>
    intro i hi
    rw [ownR, List.range_succ, List.foldl_append]
    show ((ownF (ownR k rows) k).getD i 0).testBit i = true
    rw [ownF, orAt_get (by rw [(ownR_lm hL k (by omega)).len]; omega)]
    by_cases e : k = i
    · subst e
      rw [if_pos rfl, Nat.testBit_or, Nat.testBit_two_pow_self, Bool.or_true]
    · rw [if_neg e]
      exact ih (by omega) i (by omega)
theorem openR_diag {n : Nat} {ws : List (Nat × Nat)} (h : Gr n ws) : ∀ i, i < n → ((openR n ws true).getD i 0).testBit i = true := by
  have h2 := nearR_lm h ws.length (Nat.le_refl _)
  rw [List.take_of_length_le (Nat.le_refl _)] at h2
  exact ownR_diag h2 n (Nat.le_refl _)
theorem dot_cnt (x y : Nat) : ∀ n, dot n x y = decide (((List.range n).filter (x &&& y).testBit).length % 2 = 1)
  | 0 => rfl
  | n + 1 => by
    rw [dot_succ, dot_cnt x y n, List.range_succ, List.filter_append, List.length_append, List.filter_cons, List.filter_nil, Nat.testBit_and]
    generalize ((List.range n).filter (x &&& y).testBit).length = m
    cases (x.testBit n && y.testBit n)
    · rw [Bool.xor_false]; rfl
    · rw [Bool.xor_true, ← decide_not]
      exact decide_eq_decide.2 (by simp; omega)
theorem filter_low {n z : Nat} (hn : n ≤ 16) (hz : z < 2 ^ n) : (List.range 16).filter z.testBit = (List.range n).filter z.testBit := by
  have e : List.range 16 = List.range n ++ (List.range (16 - n)).map (n + ·) := by
    rw [← List.range_add]; congr 1; omega
  rw [e, List.filter_append]
  have e2 : ((List.range (16 - n)).map (n + ·)).filter z.testBit = [] := by
    rw [List.filter_eq_nil_iff]
    intro i hi
    obtain ⟨j, _, rfl⟩ := List.mem_map.1 hi
    rw [Nat.testBit_lt_two_pow (Nat.lt_of_lt_of_le hz (Nat.pow_le_pow_right (by omega) (by omega)))]
    exact Bool.false_ne_true
  rw [e2, List.append_nil]
theorem pop_dot {n x y : Nat} (hn : n ≤ 16) (hx : x < 2 ^ n) : decide (pop (x &&& y) % 2 = 1) = dot n x y := by
  rw [dot_cnt, pop, memN, filter_low hn (Nat.lt_of_le_of_lt Nat.and_le_left hx)]
theorem sutner_plain {n : Nat} {ws : List (Nat × Nat)} (h : Gr n ws) : (solP (bsR n (openR n ws true)) (2 ^ n - 1)).2 = 0 ∧ (solP (bsR n (openR n ws true)) (2 ^ n - 1)).1 < 2 ^ n ∧ eff (openR n ws true) (solP (bsR n (openR n ws true)) (2 ^ n - 1)).1 = 2 ^ n - 1 ∧ refQ (qsR n (openR n ws true)) (2 ^ n - 1) = none := by
  have hS := openR_Sym h true
  have hI := inv_all (openR n ws true) n hS.len
  obtain ⟨h1, h2⟩ := hS.all_on hI (openR_diag h)
  have hs := hI.sol (2 ^ n - 1)
  obtain ⟨s1, s2, s3⟩ := hs
  have z : (solP (bsR n (openR n ws true)) (2 ^ n - 1)).2 = 0 := by
    show (solP (reducedP (openR n ws true) n).1 (2 ^ n - 1)).2 = 0
    rw [s1]; exact h1
  refine ⟨z, s2, s3 z, ?_⟩
  rw [refQ, List.find?_eq_none]
  intro q hq
  have hq2 := (hI.q q hq).2.1
  rw [pop_dot h.n16 (Nat.lt_of_lt_of_le hq2 (Nat.le_refl _)), h2 q hq]
  exact Bool.false_ne_true
end Go.Proofs.YtimknijehaamlaaDoor

/-
  The reference's rows are the program's. (Plain.)
-/
namespace Go.Proofs.YtimknijehaamlaaDoor
open Go Go.AH Go.Lin

theorem orAt_len (rows : List Nat) (i v : Nat) : (orAt rows i v).length = rows.length := by rw [orAt, List.length_set]
theorem nearF_len (rows : List Nat) (p : Nat × Nat) : (nearF rows p).length = rows.length := by rw [nearF, orAt_len, orAt_len]
theorem ownF_len (rows : List Nat) (i : Nat) : (ownF rows i).length = rows.length := orAt_len _ _ _
theorem nearF_bit {rows : List Nat} {p : Nat × Nat} (h1 : p.1 < rows.length) (h2 : p.2 < rows.length) (k m : Nat) : ((nearF rows p).getD k 0).testBit m = ((rows.getD k 0).testBit m || ((decide (p.1 = k) && decide (p.2 = m)) || (decide (p.2 = k) && decide (p.1 = m)))) := by
  rw [nearF, orAt_get (by rw [orAt_len]; omega), orAt_get (by omega)]
  by_cases e1 : p.1 = k <;> by_cases e2 : p.2 = k <;> simp [e1, e2, Nat.testBit_or, Nat.testBit_two_pow, Bool.or_assoc]
theorem ownF_bit {rows : List Nat} {i : Nat} (hi : i < rows.length) (k m : Nat) : ((ownF rows i).getD k 0).testBit m = ((rows.getD k 0).testBit m || (decide (i = k) && decide (i = m))) := by
  rw [ownF, orAt_get hi]
  by_cases e : i = k <;> simp [e, Nat.testBit_or, Nat.testBit_two_pow]
def adjB (ws : List (Nat × Nat)) (k m : Nat) : Bool := ws.any fun p => (decide (p.1 = k) && decide (p.2 = m)) || (decide (p.2 = k) && decide (p.1 = m))
theorem near_bit : ∀ {ws : List (Nat × Nat)} {rows : List Nat}, (∀ p ∈ ws, p.1 < rows.length ∧ p.2 < rows.length) → ∀ k m, ((ws.foldl nearF rows).getD k 0).testBit m = ((rows.getD k 0).testBit m || adjB ws k m)
  | [], rows, _, k, m => by simp [adjB]
  | p :: ws, rows, h, k, m => by
    have hp := h p (List.mem_cons_self ..)
    rw [List.foldl_cons, near_bit (fun q hq => by rw [nearF_len]; exact h q (List.mem_cons_of_mem _ hq)), nearF_bit hp.1 hp.2, adjB, adjB, List.any_cons, Bool.or_assoc]
theorem near_len (ws : List (Nat × Nat)) : ∀ rows : List Nat, (ws.foldl nearF rows).length = rows.length := by
  induction ws with
  | nil => intro rows; rfl
  | cons p ws ih => intro rows; rw [List.foldl_cons, ih, nearF_len]
theorem own_len (n : Nat) (rows : List Nat) : (ownR n rows).length = rows.length := by
  induction n with
  | zero => rfl
  | succ n ih => rw [ownR, List.range_succ, List.foldl_append]; exact (ownF_len _ _).trans ih
theorem own_bit {rows : List Nat} (n : Nat) (hn : n ≤ rows.length) (k m : Nat) : ((ownR n rows).getD k 0).testBit m = ((rows.getD k 0).testBit m || (decide (k < n) && decide (k = m))) := by
  induction n with
  | zero => simp [ownR]
  | succ n ih =>
    have := own_len n rows
    rw [ownR, List.range_succ, List.foldl_append]
    show ((ownF (ownR n rows) n).getD k 0).testBit m = _
    rw [ownF_bit (by omega), ih (by omega), Bool.or_assoc]
    congr 1
    by_cases e : n = k
    · subst e; simp
    · have : (k < n + 1) = (k < n) := by apply propext; omega
      simp [e, this]
theorem zero_bit (a k m : Nat) : ((List.replicate a 0).getD k 0).testBit m = false := by
  rw [List.getD_eq_getElem?_getD, List.getElem?_replicate]; split <;> exact Nat.zero_testBit _
theorem Gr.mem {n : Nat} {ws : List (Nat × Nat)} (h : Gr n ws) {p : Nat × Nat} (hp : p ∈ ws) : p.1 < p.2 ∧ p.2 < n := by
  obtain ⟨i, hi, rfl⟩ := List.getElem_of_mem hp
  have := h.ok i hi
  rw [List.getD_eq_getElem?_getD, List.getElem?_eq_getElem hi] at this
  exact this
theorem openR_bit {n : Nat} {ws : List (Nat × Nat)} (h : Gr n ws) (own : Bool) (k m : Nat) : ((openR n ws own).getD k 0).testBit m = (adjB ws k m || (own && (decide (k < n) && decide (k = m)))) := by
  have hn := h.n16
  have hz : zero16.length = 16 := rfl
  have hr : ∀ p ∈ ws, p.1 < zero16.length ∧ p.2 < zero16.length := fun p hp => by have := h.mem hp; omega
  have z := zero_bit 16 k m
  change (zero16.getD k 0).testBit m = false at z
  unfold openR
  cases own
  · show ((nearR ws).getD k 0).testBit m = _
    rw [nearR, near_bit hr, z, Bool.false_or, Bool.false_and, Bool.or_false]
  · show ((ownR n (nearR ws)).getD k 0).testBit m = _
    rw [own_bit n (by rw [nearR, near_len]; omega), nearR, near_bit hr, z, Bool.false_or, Bool.true_and]
/-- The reference's rows. -/
def ownL (n i : Nat) : List Nat := (List.range n).map fun j => if j < i then 2 ^ j else 0
def nearL (n : Nat) (ws : List (Nat × Nat)) (own : Bool) : List Nat := ws.foldl nearF (ownL n (if own then n else 0))
theorem ownL_len (n i : Nat) : (ownL n i).length = n := by simp [ownL]
theorem ownL_zero (n : Nat) : ownL n 0 = List.replicate n 0 := by
  apply List.ext_getElem <;> simp [ownL]
theorem ownL_succ (n i : Nat) (hi : i < n) : ownL n (i + 1) = (ownL n i).set i (2 ^ i) := by
  apply List.ext_getElem
  · simp [ownL]
  · intro j h1 h2
    simp only [ownL, List.getElem_map, List.getElem_range, List.getElem_set]
    by_cases e : i = j
    · subst e; simp
    · rw [if_neg e]
      have : (j < i + 1) = (j < i) := by apply propext; omega
      simp only [this]
theorem ownL_bit (n i k m : Nat) (hi : i ≤ n) : ((ownL n i).getD k 0).testBit m = (decide (k < i) && decide (k = m)) := by
  rw [List.getD_eq_getElem?_getD, ownL, List.getElem?_map]
  by_cases hk : k < n
  · rw [List.getElem?_eq_getElem (by simpa using hk)]
    by_cases e : k < i <;> simp [e, Nat.testBit_two_pow]
  · rw [List.getElem?_eq_none (by simpa using hk)]
    have : ¬ k < i := by omega
    simp [this]
theorem nearL_len (n : Nat) (ws : List (Nat × Nat)) (own : Bool) : (nearL n ws own).length = n := by rw [nearL, near_len, ownL_len]
theorem nearL_get {n : Nat} {ws : List (Nat × Nat)} (h : Gr n ws) (own : Bool) (k : Nat) : (nearL n ws own).getD k 0 = (openR n ws own).getD k 0 := by
  apply Nat.eq_of_testBit_eq
  intro m
  rw [openR_bit h, nearL, near_bit (fun p hp => by have := h.mem hp; rw [ownL_len]; omega), ownL_bit _ _ _ _ (by split <;> omega), Bool.or_comm]
  cases own <;> simp
theorem effX_more (rows : List Nat) {x n : Nat} (hx : x < 2 ^ n) (a d : Nat) : effX rows x (List.range (n + d)) a = effX rows x (List.range n) a := by
  induction d with
  | zero => rfl
  | succ d ih =>
    rw [← Nat.add_assoc, List.range_succ, effX, List.foldl_append]
    show (if x.testBit (n + d) then _ else _) = _
    rw [Nat.testBit_lt_two_pow (Nat.lt_of_lt_of_le hx (Nat.pow_le_pow_right (by omega) (by omega)))]
    exact ih
theorem effX_congr {rows rows' : List Nat} (h : ∀ k, rows.getD k 0 = rows'.getD k 0) (x : Nat) (is : List Nat) (a : Nat) : effX rows x is a = effX rows' x is a := by
  unfold effX
  congr 1
  funext a i
  rw [h i]
/-- A set's effect is the same by the program's rows and by the reference's. -/
theorem eff_near {n : Nat} {ws : List (Nat × Nat)} (h : Gr n ws) (own : Bool) {x : Nat} (hx : x < 2 ^ n) : eff (nearL n ws own) x = eff (openR n ws own) x := by
  have hl : (openR n ws own).length = n + (16 - n) := by have := (openR_lm h own).len; have := h.n16; omega
  unfold eff
  rw [hl, nearL_len, effX_more _ hx]
  exact effX_congr (nearL_get h own) x _ 0
theorem orAt_lt {n : Nat} {rows : List Nat} (hr : ∀ j, rows.getD j 0 < 2 ^ n) {i v : Nat} (hv : v < 2 ^ n) (j : Nat) : (orAt rows i v).getD j 0 < 2 ^ n := by
  by_cases hi : i < rows.length
  · rw [orAt_get hi]
    split
    · exact Nat.or_lt_two_pow (hr j) hv
    · exact hr j
  · rw [orAt, List.set_eq_of_length_le (by omega)]
    exact hr j
theorem nearF_lt {n : Nat} {rows : List Nat} (hr : ∀ j, rows.getD j 0 < 2 ^ n) {p : Nat × Nat} (h1 : p.1 < n) (h2 : p.2 < n) (j : Nat) : (nearF rows p).getD j 0 < 2 ^ n :=
  orAt_lt (orAt_lt hr (Nat.pow_lt_pow_right (by omega) h2)) (Nat.pow_lt_pow_right (by omega) h1) j
theorem near_lt {n : Nat} : ∀ {ws : List (Nat × Nat)}, (∀ p ∈ ws, p.1 < n ∧ p.2 < n) → ∀ {rows : List Nat}, (∀ j, rows.getD j 0 < 2 ^ n) → ∀ j, (ws.foldl nearF rows).getD j 0 < 2 ^ n
  | [], _, _, hr, j => hr j
  | p :: ws, h, _, hr, j => near_lt (fun q hq => h q (List.mem_cons_of_mem _ hq)) (nearF_lt hr (h p (List.mem_cons_self ..)).1 (h p (List.mem_cons_self ..)).2) j
theorem ownL_lt {n i : Nat} (hi : i ≤ n) (j : Nat) : (ownL n i).getD j 0 < 2 ^ n := by
  rw [List.getD_eq_getElem?_getD, ownL, List.getElem?_map]
  by_cases hk : j < n
  · rw [List.getElem?_eq_getElem (by simpa using hk)]
    rw [List.getElem_range]
    show (if j < i then 2 ^ j else 0) < 2 ^ n
    split
    · exact Nat.pow_lt_pow_right (by omega) hk
    · exact Nat.two_pow_pos n
  · rw [List.getElem?_eq_none (by simpa using hk)]
    exact Nat.two_pow_pos n
theorem near_take_lt {n : Nat} {ws : List (Nat × Nat)} (h : Gr n ws) {rows : List Nat} (hr : ∀ j, rows.getD j 0 < 2 ^ n) (k j : Nat) : ((ws.take k).foldl nearF rows).getD j 0 < 2 ^ n :=
  near_lt (fun p hp => by have := h.mem (List.mem_of_mem_take hp); omega) hr j
theorem nearL_lt {n : Nat} {ws : List (Nat × Nat)} (h : Gr n ws) (own : Bool) (j : Nat) : (nearL n ws own).getD j 0 < 2 ^ n :=
  near_lt (fun p hp => by have := h.mem hp; omega) (ownL_lt (by split <;> omega)) j
end Go.Proofs.YtimknijehaamlaaDoor

/-
  The reference's table of the fewest lamps. (Plain.)
-/
namespace Go.Proofs.YtimknijehaamlaaDoor
open Go Go.AH Go.Lin

/-- A table that is filled place by place. -/
def tabL (f : Nat → Int) (n i : Nat) : List Int := (List.range n).map fun j => if j < i then f j else 0
theorem tabL_len (f : Nat → Int) (n i : Nat) : (tabL f n i).length = n := by simp [tabL]
theorem tabL_zero (f : Nat → Int) (n : Nat) : tabL f n 0 = List.replicate n 0 := by
  apply List.ext_getElem <;> simp [tabL]
theorem tabL_succ (f : Nat → Int) (n i : Nat) : (tabL f n i).set i (f i) = tabL f n (i + 1) := by
  apply List.ext_getElem
  · simp [tabL]
  · intro j h1 h2
    simp only [tabL, List.getElem_map, List.getElem_range, List.getElem_set]
    by_cases e : i = j
    · subst e; simp
    · rw [if_neg e]
      have : (j < i + 1) = (j < i) := by apply propext; omega
      simp only [this]
theorem tabL_all (c : Int) (n : Nat) : tabL (fun _ => c) n n = List.replicate n c := by
  apply List.ext_getElem
  · simp [tabL]
  · intro j h1 h2
    have : j < n := by simpa [tabL] using h1
    simp [tabL, this]
/-- One set more. -/
def fewS (L : List Nat) (T : List Int) (s : Nat) : List Int := if T.getD (eff L s) 0 < 0 ∨ pop s < pop (T.getD (eff L s) 0).toNat then T.set (eff L s) s else T
def fewT (L : List Nat) (q k : Nat) : List Int := (List.range k).foldl (fewS L) (List.replicate q (-1))
theorem fewT_succ (L : List Nat) (q k : Nat) : fewT L q (k + 1) = fewS L (fewT L q k) k := by rw [fewT, List.range_succ, List.foldl_append]; rfl
theorem fewT_len (L : List Nat) (q k : Nat) : (fewT L q k).length = q := by
  induction k with
  | zero => simp [fewT]
  | succ k ih => rw [fewT_succ, fewS]; split <;> simp [ih]
theorem getD_setI {T : List Int} {i j : Nat} {v : Int} (hi : i < T.length) : (T.set i v).getD j 0 = if i = j then v else T.getD j 0 := by
  rw [List.getD_eq_getElem?_getD, List.getElem?_set]
  by_cases e : i = j
  · subst e; simp [hi]
  · simp [e, List.getD_eq_getElem?_getD]
/-- What stands in the table. -/
def FewAt (L : List Nat) (k t : Nat) (v : Int) : Prop := (v = -1 ∧ ∀ s, s < k → eff L s ≠ t) ∨ ∃ m : Nat, v = m ∧ Least pop (fun s => s < k ∧ eff L s = t) m
theorem fewT_at {L : List Nat} {q : Nat} (hL : ∀ x, eff L x < q) : ∀ k t, t < q → FewAt L k t ((fewT L q k).getD t 0)
  | 0, t, ht => .inl ⟨by simp [fewT, List.getD_eq_getElem?_getD, ht], fun s hs => by omega⟩
  | k + 1, t, ht => by
    have ih := fewT_at hL k t ht
    have hk := hL k
    have hl := fewT_len L q k
    rw [fewT_succ, fewS]
    by_cases e : eff L k = t
    · subst e
      generalize fewT L q k = T at *
      rcases ih with ⟨h1, h2⟩ | ⟨m, h1, h2⟩
      · rw [if_pos (.inl (by omega)), getD_setI (by omega), if_pos rfl]
        refine .inr ⟨k, rfl, ⟨by omega, rfl⟩, fun x hx => ?_⟩
        rw [lessB_iff]
        have : ¬ x < k := fun h => h2 x h hx.2
        have hx1 := hx.1
        have : x = k := by omega
        subst this; omega
      · have hm := h2.is
        rw [h1, Int.toNat_natCast]
        by_cases c : pop k < pop m
        · rw [if_pos (.inr c), getD_setI (by omega), if_pos rfl]
          refine .inr ⟨k, rfl, ⟨by omega, rfl⟩, fun x hx => ?_⟩
          rw [lessB_iff]
          by_cases hxk : x = k
          · subst hxk; omega
          · have h3 := h2.le x ⟨by have := hx.1; omega, hx.2⟩
            rw [lessB_iff] at h3
            omega
        · rw [if_neg (by omega), h1]
          refine .inr ⟨m, rfl, ⟨by have := hm.1; omega, hm.2⟩, fun x hx => ?_⟩
          by_cases hxk : x = k
          · subst hxk
            rw [lessB_iff]
            have := hm.1
            omega
          · exact h2.le x ⟨by have := hx.1; omega, hx.2⟩
    · have key : FewAt L (k + 1) t ((fewT L q k).getD t 0) := by
        rcases ih with ⟨h1, h2⟩ | ⟨m, h1, h2⟩
        · refine .inl ⟨h1, fun s hs h => ?_⟩
          by_cases hs2 : s = k
          · subst hs2; exact e h
          · exact h2 s (by omega) h
        · refine .inr ⟨m, h1, ⟨by have := h2.is.1; omega, h2.is.2⟩, fun x hx => ?_⟩
          by_cases hxk : x = k
          · subst hxk; exact absurd hx.2 e
          · exact h2.le x ⟨by have := hx.1; omega, hx.2⟩
      split
      · rw [getD_setI (by rw [hl]; exact hk), if_neg e]; exact key
      · exact key
theorem FewAt.range {L : List Nat} {k t : Nat} {v : Int} (h : FewAt L k t v) : -1 ≤ v ∧ v < (k : Int) + 1 ∧ v.toNat ≤ k := by
  rcases h with ⟨h, _⟩ | ⟨m, h, hm⟩
  · omega
  · have := hm.is.1; omega
/-- The table of the reference holds what the program says. -/
theorem few_law {n : Nat} {ws : List (Nat × Nat)} (h : Gr n ws) (own : Bool) {t : Nat} (ht : t < 2 ^ n) :
    ((solP (bsR n (openR n ws own)) t).2 = 0 → (fewT (nearL n ws own) (2 ^ n) (2 ^ n)).getD t 0 = (fewN n (openR n ws own) t : Nat) ∧ fewN n (openR n ws own) t < 2 ^ n) ∧
    (¬ (solP (bsR n (openR n ws own)) t).2 = 0 → (fewT (nearL n ws own) (2 ^ n) (2 ^ n)).getD t 0 = -1 ∧ fewN n (openR n ws own) t = 0) := by
  have hS := openR_Sym h own
  have hI := inv_all (openR n ws own) n hS.len
  have he : ∀ x, x < 2 ^ n → eff (nearL n ws own) x = eff (openR n ws own) x := fun x hx => eff_near h own hx
  have hq : ∀ x, eff (nearL n ws own) x < 2 ^ n := fun x => by
    unfold eff effX
    have : ∀ (is : List Nat) (a : Nat), a < 2 ^ n → is.foldl (fun a i => if x.testBit i then a ^^^ (nearL n ws own).getD i 0 else a) a < 2 ^ n := fun is => by
      induction is with
      | nil => exact fun _ h => h
      | cons i is ih =>
        intro a ha
        refine ih _ ?_
        show (if x.testBit i = true then a ^^^ (nearL n ws own).getD i 0 else a) < 2 ^ n
        split
        · exact Nat.xor_lt_two_pow ha (nearL_lt h own i)
        · exact ha
    exact this _ _ (Nat.two_pow_pos n)
  have hat := fewT_at hq (2 ^ n) t ht
  refine ⟨fun hz => ?_, fun hz => ?_⟩
  · have hf := hI.fewest hz pop
    have hfe : fewN n (openR n ws own) t = fewF pop (solP (bsR n (openR n ws own)) t).1 ((List.range (2 ^ (qsR n (openR n ws own)).length)).map (sumC (qsR n (openR n ws own)))) := by rw [fewN, if_pos hz]
    rw [hfe]
    rcases hat with ⟨_, h2⟩ | ⟨m, h1, h2⟩
    · exact absurd ((he _ hf.is.1).trans hf.is.2) (h2 _ hf.is.1)
    · have : m = fewF pop (solP (bsR n (openR n ws own)) t).1 ((List.range (2 ^ (qsR n (openR n ws own)).length)).map (sumC (qsR n (openR n ws own)))) :=
        Least.uniq h2 ⟨⟨hf.is.1, (he _ hf.is.1).trans hf.is.2⟩, fun x hx => hf.le x ⟨hx.1, (he x hx.1).symm.trans hx.2⟩⟩
      rw [← this]
      exact ⟨h1, h2.is.1⟩
  · refine ⟨?_, by rw [fewN, if_neg hz]⟩
    rcases hat with ⟨h1, _⟩ | ⟨m, h1, h2⟩
    · exact h1
    · have hr := hI.reach.2 ⟨m, h2.is.1, (he m h2.is.1).symm.trans h2.is.2⟩
      exact absurd ((hI.sol t).1.trans hr) hz
end Go.Proofs.YtimknijehaamlaaDoor

/-
  Contracts: the reference's Near, Effect, Size, IsRefutation.
-/
namespace Go.Proofs.YtimknijehaamlaaDoor
open Go Go.AH Go.Lin
set_option maxRecDepth 100000
set_option maxHeartbeats 1000000

theorem pget0 (ws : List (Nat × Nat)) (i : Nat) : (ints (prs ws)).getD (0 + Int.toNat ((i : Nat) : Int) * 2 + Int.toNat 0 * 1) (.int .i64 0) = .int .i64 ((ws.getD i (0, 0)).1 : Nat) := by
  rw [ints_getD, show 0 + Int.toNat ((i : Nat) : Int) * 2 + Int.toNat 0 * 1 = i * 2 by simp, (prs_get ws i).1]
theorem pget1 (ws : List (Nat × Nat)) (i : Nat) : (ints (prs ws)).getD (0 + Int.toNat ((i : Nat) : Int) * 2 + Int.toNat 1 * 1) (.int .i64 0) = .int .i64 ((ws.getD i (0, 0)).2 : Nat) := by
  rw [ints_getD, show 0 + Int.toNat ((i : Nat) : Int) * 2 + Int.toNat 1 * 1 = i * 2 + 1 by simp, (prs_get ws i).2]
theorem cget (L : List Nat) (i : Nat) : (ints (castL L)).getD (0 + Int.toNat ((i : Nat) : Int) * 1) (.int .i64 0) = .int .i64 ((L.getD i 0 : Nat) : Int) := by
  rw [ints_getD, show 0 + Int.toNat ((i : Nat) : Int) * 1 = i by simp, castL_getD]
theorem castL_set (L : List Nat) (i v : Nat) : (castL L).set i (v : Int) = castL (L.set i v) := List.map_set.symm
theorem cset (L : List Nat) (i v : Nat) : (ints (castL L)).set (0 + Int.toNat ((i : Nat) : Int) * 1) (.int .i64 (v : Int)) = ints (castL (L.set i v)) := by
  rw [show 0 + Int.toNat ((i : Nat) : Int) * 1 = i by simp]
  exact ints_set _ _ _
theorem castL_rep (n : Nat) : castL (List.replicate n 0) = List.replicate n 0 := by simp [castL]
theorem rep_ints (n : Nat) : rep n [.int .i64 0] = ints (List.replicate n 0) := by
  induction n with
  | zero => rfl
  | succ n ih => rw [rep, ih, List.replicate_succ]; rfl
theorem Near_spec {n : Nat} {ws : List (Nat × Nat)} (h : Gr n ws) (own : Bool) (hw : ws.length ≤ 1000) : FDet Tryd.prog 21 [.c (.int .i64 n), .c (.rs 0 0 ws.length), .c (.bool own)] [(0, .ro (ints (prs ws)))] 1 (.c (.sl 1 0 n (some n))) [(1, .own (ints (castL (nearL n ws own))))] 2 := by
  have hn1 := h.n1
  have hn := h.n16
  have hlen : (ints (prs ws)).length = ws.length * 2 := by rw [ints_len, prs_len]
  refine FSpec.body2 tok true Tryd.func21 ?_
  refine Wk.on ?_
  refine ⟨⟨Nat.le_of_ble_eq_true rfl, Nat.le_of_ble_eq_true rfl, rfl, by omega, rfl, by show (8 : Int) * (n : Int) ≤ _; omega, by omega⟩, ?_⟩
  rw [Int.toNat_natCast]
  refine Wk.on ?_
  refine Tr.loop (md := true) (X := Nat) (st := fun i => ⟨[(0, .c (.int .i64 n)), (1, .c (.rs 0 0 ws.length)), (2, .c (.bool own)), (7, .c (.sl 1 0 n (some n))), (8, .c (.int .i64 i))], [(1, .own (ints (castL (ownL n i)))), (0, .ro (ints (prs ws)))], 2, 64, 1⟩) (inv := fun i => i ≤ n ∧ (own = false → i = 0)) (μ := fun i => n - i) (x0 := 0) (l := []) tok ⟨by omega, fun _ => rfl⟩ ?_ ?_
  · exact Sub.nil ⟨rfl, rfl, (by simp [pC, castL, prs]), rfl, (by simp [tupA, hpLt, tmLt, AV.lt, AE.lt, AC.lt, LL_cons, LL_nil, idOk, ABlk.lt, ints_LL, GB, pC, castL, prs]), (by simp [tupA, hpLt, tmLt, AV.lt, AE.lt, AC.lt, LL_cons, LL_nil, idOk, ABlk.lt, ints_LL, GB, pC, castL, prs])⟩ (by (repeat (first | exact trivial | refine ⟨trivial, ?_⟩ | refine ⟨rfl, ?_⟩))) ⟨by show ABlk.own (rep n [.int .i64 0]) = _; rw [rep_ints, ownL_zero, castL_rep], rfl, trivial⟩
  rintro i ⟨hi, hio⟩
  have hol : (ints (castL (ownL n i))).length = n := by rw [ints_len, castL_len, ownL_len]
  by_cases hc : i < n ∧ own = true
  · obtain ⟨hil, rfl⟩ := hc
    obtain ⟨q, hq⟩ : ∃ q, q = 2 ^ i := ⟨_, rfl⟩
    have hsh : (1 : Int) * 2 ^ (Int.toNat ((i : Nat) : Int)) = (q : Int) := by simp [hq]
    have hq2 : q < 65536 := by rw [hq]; exact Nat.pow_lt_pow_right (n := 16) (by omega) (by omega)
    have hsu := ownL_succ n i hil
    rw [← hq] at hsu
    refine Wk.on ?_
    rw [decide_eq_true (show ((i : Nat) : Int) < ((n : Nat) : Int) by omega)]
    refine Wk.on ?_
    rw [hsh]
    refine Wk.on ?_
    refine Again.mk (i + 1) (Sub.nil ⟨rfl, rfl, (by simp [pC, castL, prs]), rfl, (by simp [tupA, hpLt, tmLt, AV.lt, AE.lt, AC.lt, LL_cons, LL_nil, idOk, ABlk.lt, ints_LL, GB, pC, castL, prs]), (by simp [tupA, hpLt, tmLt, AV.lt, AE.lt, AC.lt, LL_cons, LL_nil, idOk, ABlk.lt, ints_LL, GB, pC, castL, prs])⟩ (by (repeat (first | exact trivial | refine ⟨trivial, ?_⟩ | refine ⟨rfl, ?_⟩))) ⟨by show ABlk.own ((ints (castL (ownL n i))).set (0 + Int.toNat ((i : Nat) : Int) * 1) (.int .i64 (q : Int))) = ABlk.own _; rw [cset, hsu], rfl, trivial⟩) (⟨by omega, fun h => by cases h⟩) (by omega)
  · have hex : ownL n i = ownL n (if own then n else 0) := by
      cases own
      · rw [hio rfl]; rfl
      · have : i = n := by
          have : ¬ i < n := fun h => hc ⟨h, rfl⟩
          omega
        rw [this]; rfl
    obtain ⟨L0, hL0⟩ : ∃ L0, L0 = ownL n i := ⟨_, rfl⟩
    have hL0l : L0.length = n := by rw [hL0, ownL_len]
    have hnear : nearL n ws own = ws.foldl nearF L0 := by rw [nearL, ← hex, hL0]
    rw [hnear]
    rw [← hL0] at hol ⊢
    obtain ⟨F, hF⟩ : ∃ F : Nat → List Nat, F = fun k => (ws.take k).foldl nearF L0 := ⟨_, rfl⟩
    have hF0 : F 0 = L0 := by rw [hF]; rfl
    have hFl : ∀ k, (F k).length = n := fun k => by rw [hF]; exact (near_len _ _).trans hL0l
    have hFn : F ws.length = ws.foldl nearF L0 := by rw [hF]; show (ws.take ws.length).foldl nearF L0 = _; rw [List.take_length]
    have hFs : ∀ k, k < ws.length → F (k + 1) = nearF (F k) (ws.getD k (0, 0)) := fun k hk => by rw [hF]; show (ws.take (k + 1)).foldl nearF L0 = _; rw [take_succ ws (0, 0) hk, List.foldl_append]; rfl
    have hFb : ∀ k j, (F k).getD j 0 < 2 ^ n := fun k j => by rw [hF]; exact near_take_lt h (by rw [hL0]; exact ownL_lt hi) k j
    have hp16 : 2 ^ n ≤ 65536 := (Nat.pow_le_pow_right (by omega) hn : 2 ^ n ≤ 2 ^ 16)
    rw [← hFn]
    rw [← hF0] at hol ⊢
    clear hF
    by_cases hil : i < n
    · have ho : own = false := by
        cases own
        · rfl
        · exact absurd ⟨hil, rfl⟩ hc
      subst ho
      refine Wk.on ?_
      rw [decide_eq_true (show ((i : Nat) : Int) < ((n : Nat) : Int) by omega)]
      refine Wk.on ?_
      refine Tr.loop (md := true) (X := Nat) (st := fun k => ⟨[(1, .c (.rs 0 0 ws.length)), (7, .c (.sl 1 0 n (some n))), (9, .c (.int .i64 k))], [(1, .own (ints (castL (F k)))), (0, .ro (ints (prs ws)))], 2, 64, 1⟩) (inv := fun k => k ≤ ws.length) (μ := fun k => ws.length - k) (x0 := 0) (l := []) tok (by omega) ?_ ?_
      · exact Sub.nil ⟨rfl, rfl, (by simp [pC, castL, prs]), rfl, (by simp [tupA, hpLt, tmLt, AV.lt, AE.lt, AC.lt, LL_cons, LL_nil, idOk, ABlk.lt, ints_LL, GB, pC, castL, prs]), (by simp [tupA, hpLt, tmLt, AV.lt, AE.lt, AC.lt, LL_cons, LL_nil, idOk, ABlk.lt, ints_LL, GB, pC, castL, prs])⟩ (by (repeat (first | exact trivial | refine ⟨trivial, ?_⟩ | refine ⟨rfl, ?_⟩))) (by (repeat (first | exact trivial | refine ⟨trivial, ?_⟩ | refine ⟨rfl, ?_⟩)))
      intro k hk
      have hFkl : (ints (castL (F k))).length = n := by rw [ints_len, castL_len, hFl]
      by_cases hkl : k < ws.length
      · obtain ⟨a, ha⟩ : ∃ a, a = (ws.getD k (0, 0)).1 := ⟨_, rfl⟩
        obtain ⟨b, hb⟩ : ∃ b, b = (ws.getD k (0, 0)).2 := ⟨_, rfl⟩
        have hok := h.ok k hkl
        rw [← ha, ← hb] at hok
        obtain ⟨hab, hbn⟩ := hok
        have hsu := hFs k hkl
        have hgl := hFb k
        generalize F k = G at *
        obtain ⟨qa, hqa⟩ : ∃ q, q = 2 ^ a := ⟨_, rfl⟩
        obtain ⟨qb, hqb⟩ : ∃ q, q = 2 ^ b := ⟨_, rfl⟩
        have hqa2 : qa < 65536 := by rw [hqa]; exact Nat.pow_lt_pow_right (n := 16) (by omega) (by omega)
        have hqb2 : qb < 65536 := by rw [hqb]; exact Nat.pow_lt_pow_right (n := 16) (by omega) (by omega)
        have hsa : (1 : Int) * 2 ^ (Int.toNat (a : Int)) = (qa : Int) := by simp [hqa]
        have hsb : (1 : Int) * 2 ^ (Int.toNat (b : Int)) = (qb : Int) := by simp [hqb]
        have hG1 : ∀ j, (orAt G a qb).getD j 0 < 2 ^ n := orAt_lt hgl (by rw [hqb]; exact Nat.pow_lt_pow_right (by omega) hbn)
        have hnf : nearF G (ws.getD k (0, 0)) = orAt (orAt G a qb) b qa := by rw [nearF, ← ha, ← hb, hqa, hqb]
        rw [hnf] at hsu
        obtain ⟨ea, hea⟩ : ∃ e, e = G.getD a 0 := ⟨_, rfl⟩
        have hea2 : ea < 65536 := by have := hgl a; omega
        obtain ⟨G1, hG1d⟩ : ∃ g, g = orAt G a qb := ⟨_, rfl⟩
        rw [← hG1d] at hG1 hsu
        have hG1l : (ints (castL G1)).length = n := by rw [hG1d, ints_len, castL_len, orAt_len, ← castL_len, ← ints_len, hFkl]
        obtain ⟨eb, heb⟩ : ∃ e, e = G1.getD b 0 := ⟨_, rfl⟩
        have heb2 : eb < 65536 := by have := hG1 b; omega
        refine Wk.on ?_
        rw [decide_eq_true (show ((k : Nat) : Int) < ((ws.length : Nat) : Int) by omega)]
        refine Wk.on ?_
        refine Tr.draw (md := true) [⟨[], [34, 38, 39, 40, 41, 42], [], [], []⟩, ⟨[], [33, 38, 39, 40, 41, 42], [0], [], []⟩, ⟨[0, 1], [38, 39, 40, 41, 42], [], [], []⟩, ⟨[0, 1, 2], [38, 39, 40, 41, 42], [], [], []⟩, ⟨[0, 1, 2, 3], [38, 39, 40, 41, 42], [], [], []⟩, ⟨[], [10, 33, 34, 35, 36, 37, 39], [0, 1, 2, 3, 4], [], []⟩, ⟨[], [10, 33, 34, 35, 36, 37, 38], [0, 1, 2, 3, 4, 5], [], []⟩, ⟨[5, 6], [10, 33, 34, 35, 36, 37], [0, 1, 2, 3, 4], [], []⟩, ⟨[5, 6, 7], [10, 33, 34, 35, 36, 37], [0, 1, 2, 3, 4], [], []⟩, ⟨[5, 6, 7, 8], [10, 33, 34, 35, 36, 37], [0, 1, 2, 3, 4], [], []⟩, ⟨[0, 1, 2, 3, 4], [38, 39, 40, 41, 42], [5, 6, 7, 8, 9], [], []⟩] tok (by kernel_rfl) (by kernel_rfl) ?_
        refine Wk.on ?_
        rw [pget0, ← ha]
        refine Wk.on ?_
        rw [pget1, ← hb]
        refine Wk.on ?_
        refine Tr.draw (md := true) [⟨[], [44, 45, 46, 47, 48, 49, 50, 51], [], [], []⟩, ⟨[], [43, 45, 46, 47, 48, 49, 50, 51], [0], [], []⟩, ⟨[], [43, 44, 46, 49, 50], [0, 1], [], []⟩, ⟨[], [43, 44, 45, 49, 50], [0, 1, 2], [], []⟩, ⟨[2, 3], [43, 44, 49, 50], [0, 1], [], []⟩, ⟨[2, 3, 4], [43, 44, 49, 50], [0, 1], [], []⟩, ⟨[], [43, 44, 45, 46, 47, 48], [0, 1, 2, 3, 4, 5], [], []⟩, ⟨[6], [43, 44, 45, 46, 47, 48], [0, 1, 2, 3, 4, 5], [], []⟩, ⟨[2, 3, 4, 5, 6, 7], [43, 44], [0, 1], [], []⟩] tok (by kernel_rfl) (by kernel_rfl) ?_
        refine Wk.on ?_
        rw [cget, ← hea]
        refine Wk.on ?_
        rw [hsb]
        refine Wk.on ?_
        have hc1 : (ints (castL G)).set (0 + Int.toNat ((a : Nat) : Int) * 1) (.int .i64 ((Int.toNat ((ea : Nat) : Int) ||| Int.toNat ((qb : Nat) : Int) : Nat) : Int)) = ints (castL G1) := by
          rw [Int.toNat_natCast ea, Int.toNat_natCast qb, cset, hG1d, hea]; rfl
        rw [hc1]
        refine Tr.draw (md := true) [⟨[], [54, 55, 56, 57, 58, 59, 60, 61], [], [], []⟩, ⟨[], [53, 55, 56, 57, 58, 59, 60, 61], [0], [], []⟩, ⟨[], [53, 54, 56, 59, 60], [0, 1], [], []⟩, ⟨[], [53, 54, 55, 59, 60], [0, 1, 2], [], []⟩, ⟨[2, 3], [53, 54, 59, 60], [0, 1], [], []⟩, ⟨[2, 3, 4], [53, 54, 59, 60], [0, 1], [], []⟩, ⟨[], [53, 54, 55, 56, 57, 58], [0, 1, 2, 3, 4, 5], [], []⟩, ⟨[6], [53, 54, 55, 56, 57, 58], [0, 1, 2, 3, 4, 5], [], []⟩, ⟨[2, 3, 4, 5, 6, 7], [53, 54], [0, 1], [], []⟩] tok (by kernel_rfl) (by kernel_rfl) ?_
        refine Wk.on ?_
        rw [cget, ← heb]
        refine Wk.on ?_
        rw [hsa]
        refine Wk.on ?_
        refine Again.mk (k + 1) (Sub.nil ⟨rfl, rfl, (by simp [pC, castL, prs]), rfl, (by simp [tupA, hpLt, tmLt, AV.lt, AE.lt, AC.lt, LL_cons, LL_nil, idOk, ABlk.lt, ints_LL, GB, pC, castL, prs]), (by simp [tupA, hpLt, tmLt, AV.lt, AE.lt, AC.lt, LL_cons, LL_nil, idOk, ABlk.lt, ints_LL, GB, pC, castL, prs])⟩ (by (repeat (first | exact trivial | refine ⟨trivial, ?_⟩ | refine ⟨rfl, ?_⟩))) ⟨by show ABlk.own ((ints (castL G1)).set (0 + Int.toNat ((b : Nat) : Int) * 1) (.int .i64 ((Int.toNat ((eb : Nat) : Int) ||| Int.toNat ((qa : Nat) : Int) : Nat) : Int))) = ABlk.own (ints (castL (F (k + 1)))); rw [Int.toNat_natCast eb, Int.toNat_natCast qa, cset, hsu, heb]; rfl, rfl, trivial⟩) (by omega) (by omega)
      · obtain rfl : k = ws.length := by omega
        generalize F ws.length = G at *
        refine Wk.on ?_
        rw [decide_eq_false (show ¬ ((ws.length : Nat) : Int) < ((ws.length : Nat) : Int) by omega)]
        refine Wk.on ?_
        intro _
        refine Wk.on ?_
        exact AH.Fin.new [1] _ _ ⟨rfl, rfl, rfl⟩ rfl ⟨by show some (ABlk.own _) = some (ABlk.own ((ints _).map _)); rw [ints_ren], trivial⟩ rfl (by simp [tupA, hpLt, tmLt, AV.lt, AE.lt, AC.lt, LL_cons, LL_nil, idOk, ABlk.lt, ints_LL, GB, pC, castL, prs]) (by simp [tupA, hpLt, tmLt, AV.lt, AE.lt, AC.lt, LL_cons, LL_nil, idOk, ABlk.lt, ints_LL, GB, pC, castL, prs])
    · skip
      skip
      refine Wk.on ?_
      rw [decide_eq_false (show ¬ ((i : Nat) : Int) < ((n : Nat) : Int) by omega)]
      refine Wk.on ?_
      refine Tr.loop (md := true) (X := Nat) (st := fun k => ⟨[(1, .c (.rs 0 0 ws.length)), (7, .c (.sl 1 0 n (some n))), (9, .c (.int .i64 k))], [(1, .own (ints (castL (F k)))), (0, .ro (ints (prs ws)))], 2, 64, 1⟩) (inv := fun k => k ≤ ws.length) (μ := fun k => ws.length - k) (x0 := 0) (l := []) tok (by omega) ?_ ?_
      · exact Sub.nil ⟨rfl, rfl, (by simp [pC, castL, prs]), rfl, (by simp [tupA, hpLt, tmLt, AV.lt, AE.lt, AC.lt, LL_cons, LL_nil, idOk, ABlk.lt, ints_LL, GB, pC, castL, prs]), (by simp [tupA, hpLt, tmLt, AV.lt, AE.lt, AC.lt, LL_cons, LL_nil, idOk, ABlk.lt, ints_LL, GB, pC, castL, prs])⟩ (by (repeat (first | exact trivial | refine ⟨trivial, ?_⟩ | refine ⟨rfl, ?_⟩))) (by (repeat (first | exact trivial | refine ⟨trivial, ?_⟩ | refine ⟨rfl, ?_⟩)))
      intro k hk
      have hFkl : (ints (castL (F k))).length = n := by rw [ints_len, castL_len, hFl]
      by_cases hkl : k < ws.length
      · obtain ⟨a, ha⟩ : ∃ a, a = (ws.getD k (0, 0)).1 := ⟨_, rfl⟩
        obtain ⟨b, hb⟩ : ∃ b, b = (ws.getD k (0, 0)).2 := ⟨_, rfl⟩
        have hok := h.ok k hkl
        rw [← ha, ← hb] at hok
        obtain ⟨hab, hbn⟩ := hok
        have hsu := hFs k hkl
        have hgl := hFb k
        generalize F k = G at *
        obtain ⟨qa, hqa⟩ : ∃ q, q = 2 ^ a := ⟨_, rfl⟩
        obtain ⟨qb, hqb⟩ : ∃ q, q = 2 ^ b := ⟨_, rfl⟩
        have hqa2 : qa < 65536 := by rw [hqa]; exact Nat.pow_lt_pow_right (n := 16) (by omega) (by omega)
        have hqb2 : qb < 65536 := by rw [hqb]; exact Nat.pow_lt_pow_right (n := 16) (by omega) (by omega)
        have hsa : (1 : Int) * 2 ^ (Int.toNat (a : Int)) = (qa : Int) := by simp [hqa]
        have hsb : (1 : Int) * 2 ^ (Int.toNat (b : Int)) = (qb : Int) := by simp [hqb]
        have hG1 : ∀ j, (orAt G a qb).getD j 0 < 2 ^ n := orAt_lt hgl (by rw [hqb]; exact Nat.pow_lt_pow_right (by omega) hbn)
        have hnf : nearF G (ws.getD k (0, 0)) = orAt (orAt G a qb) b qa := by rw [nearF, ← ha, ← hb, hqa, hqb]
        rw [hnf] at hsu
        obtain ⟨ea, hea⟩ : ∃ e, e = G.getD a 0 := ⟨_, rfl⟩
        have hea2 : ea < 65536 := by have := hgl a; omega
        obtain ⟨G1, hG1d⟩ : ∃ g, g = orAt G a qb := ⟨_, rfl⟩
        rw [← hG1d] at hG1 hsu
        have hG1l : (ints (castL G1)).length = n := by rw [hG1d, ints_len, castL_len, orAt_len, ← castL_len, ← ints_len, hFkl]
        obtain ⟨eb, heb⟩ : ∃ e, e = G1.getD b 0 := ⟨_, rfl⟩
        have heb2 : eb < 65536 := by have := hG1 b; omega
        refine Wk.on ?_
        rw [decide_eq_true (show ((k : Nat) : Int) < ((ws.length : Nat) : Int) by omega)]
        refine Wk.on ?_
        refine Tr.draw (md := true) [⟨[], [34, 38, 39, 40, 41, 42], [], [], []⟩, ⟨[], [33, 38, 39, 40, 41, 42], [0], [], []⟩, ⟨[0, 1], [38, 39, 40, 41, 42], [], [], []⟩, ⟨[0, 1, 2], [38, 39, 40, 41, 42], [], [], []⟩, ⟨[0, 1, 2, 3], [38, 39, 40, 41, 42], [], [], []⟩, ⟨[], [10, 33, 34, 35, 36, 37, 39], [0, 1, 2, 3, 4], [], []⟩, ⟨[], [10, 33, 34, 35, 36, 37, 38], [0, 1, 2, 3, 4, 5], [], []⟩, ⟨[5, 6], [10, 33, 34, 35, 36, 37], [0, 1, 2, 3, 4], [], []⟩, ⟨[5, 6, 7], [10, 33, 34, 35, 36, 37], [0, 1, 2, 3, 4], [], []⟩, ⟨[5, 6, 7, 8], [10, 33, 34, 35, 36, 37], [0, 1, 2, 3, 4], [], []⟩, ⟨[0, 1, 2, 3, 4], [38, 39, 40, 41, 42], [5, 6, 7, 8, 9], [], []⟩] tok (by kernel_rfl) (by kernel_rfl) ?_
        refine Wk.on ?_
        rw [pget0, ← ha]
        refine Wk.on ?_
        rw [pget1, ← hb]
        refine Wk.on ?_
        refine Tr.draw (md := true) [⟨[], [44, 45, 46, 47, 48, 49, 50, 51], [], [], []⟩, ⟨[], [43, 45, 46, 47, 48, 49, 50, 51], [0], [], []⟩, ⟨[], [43, 44, 46, 49, 50], [0, 1], [], []⟩, ⟨[], [43, 44, 45, 49, 50], [0, 1, 2], [], []⟩, ⟨[2, 3], [43, 44, 49, 50], [0, 1], [], []⟩, ⟨[2, 3, 4], [43, 44, 49, 50], [0, 1], [], []⟩, ⟨[], [43, 44, 45, 46, 47, 48], [0, 1, 2, 3, 4, 5], [], []⟩, ⟨[6], [43, 44, 45, 46, 47, 48], [0, 1, 2, 3, 4, 5], [], []⟩, ⟨[2, 3, 4, 5, 6, 7], [43, 44], [0, 1], [], []⟩] tok (by kernel_rfl) (by kernel_rfl) ?_
        refine Wk.on ?_
        rw [cget, ← hea]
        refine Wk.on ?_
        rw [hsb]
        refine Wk.on ?_
        have hc1 : (ints (castL G)).set (0 + Int.toNat ((a : Nat) : Int) * 1) (.int .i64 ((Int.toNat ((ea : Nat) : Int) ||| Int.toNat ((qb : Nat) : Int) : Nat) : Int)) = ints (castL G1) := by
          rw [Int.toNat_natCast ea, Int.toNat_natCast qb, cset, hG1d, hea]; rfl
        rw [hc1]
        refine Tr.draw (md := true) [⟨[], [54, 55, 56, 57, 58, 59, 60, 61], [], [], []⟩, ⟨[], [53, 55, 56, 57, 58, 59, 60, 61], [0], [], []⟩, ⟨[], [53, 54, 56, 59, 60], [0, 1], [], []⟩, ⟨[], [53, 54, 55, 59, 60], [0, 1, 2], [], []⟩, ⟨[2, 3], [53, 54, 59, 60], [0, 1], [], []⟩, ⟨[2, 3, 4], [53, 54, 59, 60], [0, 1], [], []⟩, ⟨[], [53, 54, 55, 56, 57, 58], [0, 1, 2, 3, 4, 5], [], []⟩, ⟨[6], [53, 54, 55, 56, 57, 58], [0, 1, 2, 3, 4, 5], [], []⟩, ⟨[2, 3, 4, 5, 6, 7], [53, 54], [0, 1], [], []⟩] tok (by kernel_rfl) (by kernel_rfl) ?_
        refine Wk.on ?_
        rw [cget, ← heb]
        refine Wk.on ?_
        rw [hsa]
        refine Wk.on ?_
        refine Again.mk (k + 1) (Sub.nil ⟨rfl, rfl, (by simp [pC, castL, prs]), rfl, (by simp [tupA, hpLt, tmLt, AV.lt, AE.lt, AC.lt, LL_cons, LL_nil, idOk, ABlk.lt, ints_LL, GB, pC, castL, prs]), (by simp [tupA, hpLt, tmLt, AV.lt, AE.lt, AC.lt, LL_cons, LL_nil, idOk, ABlk.lt, ints_LL, GB, pC, castL, prs])⟩ (by (repeat (first | exact trivial | refine ⟨trivial, ?_⟩ | refine ⟨rfl, ?_⟩))) ⟨by show ABlk.own ((ints (castL G1)).set (0 + Int.toNat ((b : Nat) : Int) * 1) (.int .i64 ((Int.toNat ((eb : Nat) : Int) ||| Int.toNat ((qa : Nat) : Int) : Nat) : Int))) = ABlk.own (ints (castL (F (k + 1)))); rw [Int.toNat_natCast eb, Int.toNat_natCast qa, cset, hsu, heb]; rfl, rfl, trivial⟩) (by omega) (by omega)
      · obtain rfl : k = ws.length := by omega
        generalize F ws.length = G at *
        refine Wk.on ?_
        rw [decide_eq_false (show ¬ ((ws.length : Nat) : Int) < ((ws.length : Nat) : Int) by omega)]
        refine Wk.on ?_
        intro _
        refine Wk.on ?_
        exact AH.Fin.new [1] _ _ ⟨rfl, rfl, rfl⟩ rfl ⟨by show some (ABlk.own _) = some (ABlk.own ((ints _).map _)); rw [ints_ren], trivial⟩ rfl (by simp [tupA, hpLt, tmLt, AV.lt, AE.lt, AC.lt, LL_cons, LL_nil, idOk, ABlk.lt, ints_LL, GB, pC, castL, prs]) (by simp [tupA, hpLt, tmLt, AV.lt, AE.lt, AC.lt, LL_cons, LL_nil, idOk, ABlk.lt, ints_LL, GB, pC, castL, prs])
theorem effX_lt {k : Nat} {L : List Nat} (h : ∀ j, L.getD j 0 < 2 ^ k) (x : Nat) : ∀ (is : List Nat) (a : Nat), a < 2 ^ k → effX L x is a < 2 ^ k
  | [], _, ha => ha
  | i :: is, a, ha => effX_lt h x is _ (by show (if x.testBit i = true then a ^^^ L.getD i 0 else a) < 2 ^ k; split; exact Nat.xor_lt_two_pow ha (h i); exact ha)
theorem shrN (x i : Nat) : ((x : Nat) : Int) / 2 ^ Int.toNat ((i : Nat) : Int) = ((x / 2 ^ i : Nat) : Int) := by
  rw [Int.toNat_natCast, Int.natCast_ediv, Int.natCast_pow]; rfl
theorem rem2 (y : Nat) : ((y : Nat) : Int) % 2 = ((y % 2 : Nat) : Int) := rfl
theorem bit1 (x i : Nat) : decide (((x / 2 ^ i % 2 : Nat) : Int) = 1) = x.testBit i := by
  rw [Nat.testBit_eq_decide_div_mod_eq]
  exact decide_eq_decide.2 (by omega)
theorem refEffect_spec {L : List Nat} {k : Nat} (hL : ∀ j, L.getD j 0 < 2 ^ k) (hk : k ≤ 16) (hl : L.length ≤ 16) (x : Nat) : FDet Tryd.prog 36 [.c (.rs 0 0 L.length), .c (.int .i64 x)] [(0, .ro (ints (castL L)))] 1 (.c (.int .i64 (eff L x : Nat))) [] 1 := by
  have hp16 : 2 ^ k ≤ 65536 := (Nat.pow_le_pow_right (by omega) hk : 2 ^ k ≤ 2 ^ 16)
  have hcl : (ints (castL L)).length = L.length := by rw [ints_len, castL_len]
  refine FSpec.body2 tok true Tryd.func36 ?_
  refine Wk.on ?_
  refine Tr.loop (md := true) (X := Nat) (st := fun i => ⟨[(0, .c (.rs 0 0 L.length)), (1, .c (.int .i64 x)), (5, .c (.int .i64 (effX L x (List.range i) 0 : Nat))), (6, .c (.int .i64 i))], [(0, .ro (ints (castL L)))], 1, 25, 1⟩) (inv := fun i => i ≤ L.length) (μ := fun i => L.length - i) (x0 := 0) (l := []) tok (by omega) ?_ ?_
  · exact Sub.nil ⟨rfl, rfl, (by simp [pC, castL, prs]), rfl, (by simp [tupA, hpLt, tmLt, AV.lt, AE.lt, AC.lt, LL_cons, LL_nil, idOk, ABlk.lt, ints_LL, GB, pC, castL, prs]), (by simp [tupA, hpLt, tmLt, AV.lt, AE.lt, AC.lt, LL_cons, LL_nil, idOk, ABlk.lt, ints_LL, GB, pC, castL, prs])⟩ (by (repeat (first | exact trivial | refine ⟨trivial, ?_⟩ | refine ⟨rfl, ?_⟩))) (by (repeat (first | exact trivial | refine ⟨trivial, ?_⟩ | refine ⟨rfl, ?_⟩)))
  intro i hi
  have hb := effX_lt hL x (List.range i) 0 (Nat.two_pow_pos k)
  have hsu : effX L x (List.range (i + 1)) 0 = if x.testBit i then effX L x (List.range i) 0 ^^^ L.getD i 0 else effX L x (List.range i) 0 := by rw [List.range_succ, effX, List.foldl_append]; rfl
  have hge := hL i
  by_cases hil : i < L.length
  · generalize effX L x (List.range i) 0 = e at *
    obtain ⟨y, hy⟩ : ∃ y, y = x / 2 ^ i := ⟨_, rfl⟩
    have hb1 : decide (((y % 2 : Nat) : Int) = 1) = x.testBit i := by rw [hy]; exact bit1 x i
    refine Wk.on ?_
    rw [decide_eq_true (show ((i : Nat) : Int) < ((L.length : Nat) : Int) by omega)]
    refine Wk.on ?_
    rw [shrN, ← hy]
    refine Wk.on ?_
    rw [rem2, hb1]
    obtain ⟨g, hg⟩ : ∃ g, g = L.getD i 0 := ⟨_, rfl⟩
    rw [← hg] at hsu hge
    obtain ⟨u, hu⟩ : ∃ u, u = x.testBit i := ⟨_, rfl⟩
    rw [← hu] at hsu ⊢
    cases u
    · refine Wk.on ?_
      rw [if_neg Bool.false_ne_true] at hsu
      refine Again.mk (i + 1) (Sub.nil ⟨rfl, rfl, (by simp [pC, castL, prs]), rfl, (by simp [tupA, hpLt, tmLt, AV.lt, AE.lt, AC.lt, LL_cons, LL_nil, idOk, ABlk.lt, ints_LL, GB, pC, castL, prs]), (by simp [tupA, hpLt, tmLt, AV.lt, AE.lt, AC.lt, LL_cons, LL_nil, idOk, ABlk.lt, ints_LL, GB, pC, castL, prs])⟩ ⟨rfl, rfl, by show AV.c (.int .i64 (e : Int)) = .c (.int .i64 (effX L x (List.range (i + 1)) 0 : Nat)); rw [hsu], rfl, trivial⟩ (by (repeat (first | exact trivial | refine ⟨trivial, ?_⟩ | refine ⟨rfl, ?_⟩)))) (by omega) (by omega)
    · refine Wk.on ?_
      rw [cget, ← hg]
      refine Wk.on ?_
      rw [if_pos rfl] at hsu
      refine Again.mk (i + 1) (Sub.nil ⟨rfl, rfl, (by simp [pC, castL, prs]), rfl, (by simp [tupA, hpLt, tmLt, AV.lt, AE.lt, AC.lt, LL_cons, LL_nil, idOk, ABlk.lt, ints_LL, GB, pC, castL, prs]), (by simp [tupA, hpLt, tmLt, AV.lt, AE.lt, AC.lt, LL_cons, LL_nil, idOk, ABlk.lt, ints_LL, GB, pC, castL, prs])⟩ ⟨rfl, rfl, by show AV.c (.int .i64 ((Int.toNat ((e : Nat) : Int) ^^^ Int.toNat ((g : Nat) : Int) : Nat) : Int)) = .c (.int .i64 (effX L x (List.range (i + 1)) 0 : Nat)); rw [hsu, Int.toNat_natCast e, Int.toNat_natCast g], rfl, trivial⟩ (by (repeat (first | exact trivial | refine ⟨trivial, ?_⟩ | refine ⟨rfl, ?_⟩)))) (by omega) (by omega)
  · obtain rfl : i = L.length := by omega
    refine Wk.on ?_
    rw [decide_eq_false (show ¬ ((L.length : Nat) : Int) < ((L.length : Nat) : Int) by omega)]
    refine Wk.on ?_
    intro _
    refine Wk.on ?_
    exact AH.Fin.nil2 ⟨rfl, rfl, rfl⟩
def cntN (x i : Nat) : Nat := ((List.range i).filter x.testBit).length
theorem cntN_succ (x i : Nat) : cntN x (i + 1) = cntN x i + x / 2 ^ i % 2 := by
  rw [cntN, cntN, List.range_succ, List.filter_append, List.length_append, List.filter_cons, List.filter_nil]
  have h := Nat.testBit_eq_decide_div_mod_eq (x := x) (i := i)
  by_cases e : x / 2 ^ i % 2 = 1
  · rw [h, decide_eq_true e, if_pos rfl, e]; rfl
  · rw [h, decide_eq_false e, if_neg Bool.false_ne_true, show x / 2 ^ i % 2 = 0 by omega]; rfl
theorem cntN_le (x i : Nat) : cntN x i ≤ i := by
  have := List.length_filter_le x.testBit (List.range i)
  rw [List.length_range] at this; exact this
theorem cntN_pop {x i : Nat} (hi : i ≤ 16) (h : x < 2 ^ i) : cntN x i = pop x := by
  rw [cntN, pop, memN, filter_low hi h]
theorem Size_spec {x : Nat} (hx : x < 65536) : FDet Tryd.prog 42 [.c (.int .i64 x)] [] 0 (.c (.int .i64 (pop x : Nat))) [] 0 := by
  refine FSpec.body2 tok true Tryd.func42 ?_
  refine Wk.on ?_
  refine Tr.loop (md := true) (X := Nat) (st := fun i => ⟨[(0, .c (.int .i64 x)), (3, .c (.int .i64 (cntN x i : Nat))), (4, .c (.int .i64 i))], [], 0, 18, 0⟩) (inv := fun i => i ≤ 16) (μ := fun i => 16 - i) (x0 := 0) (l := []) tok (by omega) ?_ ?_
  · exact Sub.nil ⟨rfl, rfl, (by simp [pC, castL, prs]), rfl, (by simp [tupA, hpLt, tmLt, AV.lt, AE.lt, AC.lt, LL_cons, LL_nil, idOk, ABlk.lt, ints_LL, GB, pC, castL, prs]), (by simp [tupA, hpLt, tmLt, AV.lt, AE.lt, AC.lt, LL_cons, LL_nil, idOk, ABlk.lt, ints_LL, GB, pC, castL, prs])⟩ (by (repeat (first | exact trivial | refine ⟨trivial, ?_⟩ | refine ⟨rfl, ?_⟩))) (by (repeat (first | exact trivial | refine ⟨trivial, ?_⟩ | refine ⟨rfl, ?_⟩)))
  intro i hi
  have hs := cntN_succ x i
  have hle := cntN_le x i
  by_cases hil : 0 < x / 2 ^ i
  · have hi16 : i < 16 := by
      refine Nat.lt_of_not_le fun h => ?_
      have : x < 2 ^ i := Nat.lt_of_lt_of_le hx (Nat.pow_le_pow_right (by omega) h : 2 ^ 16 ≤ 2 ^ i)
      rw [Nat.div_eq_of_lt this] at hil
      exact absurd hil (Nat.lt_irrefl 0)
    have hm : x / 2 ^ i % 2 < 2 := Nat.mod_lt _ (by omega)
    obtain ⟨z, hz⟩ : ∃ z, z = x / 2 ^ i := ⟨_, rfl⟩
    rw [← hz] at hil hs hm
    refine Wk.on ?_
    rw [shrN, ← hz, decide_eq_true (show (0 : Int) < ((z : Nat) : Int) by omega)]
    refine Wk.on ?_
    rw [shrN, ← hz]
    refine Wk.on ?_
    rw [rem2]
    generalize z % 2 = y at *
    generalize cntN x i = c at *
    refine Wk.on ?_
    refine Again.mk (i + 1) (Sub.nil ⟨rfl, rfl, (by simp [pC, castL, prs]), rfl, (by simp [tupA, hpLt, tmLt, AV.lt, AE.lt, AC.lt, LL_cons, LL_nil, idOk, ABlk.lt, ints_LL, GB, pC, castL, prs]), (by simp [tupA, hpLt, tmLt, AV.lt, AE.lt, AC.lt, LL_cons, LL_nil, idOk, ABlk.lt, ints_LL, GB, pC, castL, prs])⟩ ⟨rfl, by show AV.c (.int .i64 ((c : Int) + (y : Int))) = .c (.int .i64 (cntN x (i + 1) : Nat)); rw [hs]; rfl, rfl, trivial⟩ (by (repeat (first | exact trivial | refine ⟨trivial, ?_⟩ | refine ⟨rfl, ?_⟩)))) (by omega) (by omega)
  · have hlt : x < 2 ^ i := Nat.lt_of_not_le fun h => hil (Nat.div_pos h (Nat.two_pow_pos i))
    rw [← cntN_pop hi hlt]
    generalize cntN x i = c at *
    refine Wk.on ?_
    obtain ⟨z, hz⟩ : ∃ z, z = x / 2 ^ i := ⟨_, rfl⟩
    rw [← hz] at hil
    rw [shrN, ← hz, decide_eq_false (show ¬ (0 : Int) < ((z : Nat) : Int) by omega)]
    refine Wk.on ?_
    exact AH.Fin.nil2 ⟨rfl, rfl, rfl⟩
theorem refIsRef_spec {L : List Nat} {k : Nat} (hL : ∀ j, L.getD j 0 < 2 ^ k) (hk : k ≤ 16) (hl : L.length ≤ 16) {t q : Nat} (ht : t < 65536) (hq : q < 65536) : FDet Tryd.prog 45 [.c (.rs 0 0 L.length), .c (.int .i64 t), .c (.int .i64 q)] [(0, .ro (ints (castL L)))] 1 (.c (.bool (decide (eff L q = 0) && decide (pop (t &&& q) % 2 = 1)))) [] 1 := by
  have htq : t &&& q < 65536 := Nat.lt_of_le_of_lt Nat.and_le_left ht
  refine FSpec.body2 tok true Tryd.func45 ?_
  refine Wk.on ?_
  refine CallA.ro2 [0] (.c (.int .i64 (eff L q : Nat))) (refEffect_spec hL hk hl q) ?_
  refine Wk.on ?_
  by_cases hz : eff L q = 0
  · rw [hz]
    refine Wk.on ?_
    rw [show (Int.toNat ((t : Nat) : Int) &&& Int.toNat ((q : Nat) : Int) : Nat) = t &&& q by rw [Int.toNat_natCast, Int.toNat_natCast]]
    refine CallA.ro2 [] (.c (.int .i64 (pop (t &&& q) : Nat))) (Size_spec htq) ?_
    refine Wk.on ?_
    rw [rem2]
    generalize pop (t &&& q) % 2 = y at *
    rw [decide_eq_decide.2 (show ((y : Nat) : Int) = 1 ↔ y = 1 by omega)]
    refine Wk.on ?_
    exact AH.Fin.nil2 ⟨rfl, rfl, rfl⟩
  · rw [decide_eq_false (show ¬ ((eff L q : Nat) : Int) = 0 by omega), decide_eq_false hz]
    refine Wk.on ?_
    exact AH.Fin.nil2 ⟨rfl, rfl, rfl⟩
end Go.Proofs.YtimknijehaamlaaDoor

/-
  Contract: any numbers made a graph; pairs or none.
-/
namespace Go.Proofs.YtimknijehaamlaaDoor
open Go Go.AH Go.Lin
set_option maxRecDepth 100000
set_option maxHeartbeats 1000000

theorem tame_rs (n : Int) (ws : List (Int × Int)) {most : Nat} (h1 : 1 ≤ most) (h2 : most ≤ 16) (h4 : ws.length ≤ 9223372036854775807) (h : tameP n ws most ≠ []) : FDet Tryd.prog 17 [.c (.int .i64 n), .c (.rs 0 0 ws.length), .c (.int .i64 most)] [(0, .ro (ints (flI ws)))] 1 (.t [.c (.int .i64 (tameN n most : Nat)), .c (.rs 1 0 (tameP n ws most).length)]) [(1, .row 38 2 (ints (prs (tameP n ws most))))] 2 := by
  have := tame_spec n ws h1 h2 h4
  generalize tameP n ws most = P at *
  cases P with
  | nil => exact absurd rfl h
  | cons b L => exact FDet.post this _ _ ⟨rfl, ⟨⟨rfl, rfl, rfl⟩, trivial⟩, trivial⟩ ⟨⟨⟨rfl, rfl⟩, .inl rfl⟩, trivial⟩ (by simp [tupA, hpLt, tmLt, AV.lt, AE.lt, AC.lt, LL_cons, LL_nil, idOk, ABlk.lt, ints_LL, GB, tab64_LL, pC, castL, prs, tmV, tmH, tmK]) (by simp [tupA, hpLt, tmLt, AV.lt, AE.lt, AC.lt, LL_cons, LL_nil, idOk, ABlk.lt, ints_LL, GB, tab64_LL, pC, castL, prs, tmV, tmH, tmK]) rfl
theorem tame_ns (n : Int) (ws : List (Int × Int)) {most : Nat} (h1 : 1 ≤ most) (h2 : most ≤ 16) (h4 : ws.length ≤ 9223372036854775807) (h : tameP n ws most = []) : FDet Tryd.prog 17 [.c (.int .i64 n), .c (.rs 0 0 ws.length), .c (.int .i64 most)] [(0, .ro (ints (flI ws)))] 1 (.t [.c (.int .i64 (tameN n most : Nat)), .c (.rs 0 0 (tameP n ws most).length)]) [] 1 := by
  have := tame_spec n ws h1 h2 h4
  rw [h] at this ⊢
  exact FDet.post this _ _ ⟨rfl, rfl, trivial⟩ trivial (by simp [tupA, hpLt, tmLt, AV.lt, AE.lt, AC.lt, LL_cons, LL_nil, idOk, ABlk.lt, ints_LL, GB, tab64_LL, pC, castL, prs, tmV, tmH, tmK]) (by simp [tupA, hpLt, tmLt, AV.lt, AE.lt, AC.lt, LL_cons, LL_nil, idOk, ABlk.lt, ints_LL, GB, tab64_LL, pC, castL, prs, tmV, tmH, tmK]) rfl
end Go.Proofs.YtimknijehaamlaaDoor

/-
  Contracts: the reference's Effect of a list that was made; solutions. (Plain.)
-/
namespace Go.Proofs.YtimknijehaamlaaDoor
open Go Go.AH Go.Lin
set_option maxRecDepth 100000
set_option maxHeartbeats 1000000

theorem refEffect_sl {L : List Nat} {k n : Nat} (hL : ∀ j, L.getD j 0 < 2 ^ k) (hk : k ≤ 16) (hn : L.length = n) (hl : n ≤ 16) (x : Nat) : FDet Tryd.prog 36 [.c (.sl 0 0 n (some n)), .c (.int .i64 x)] [(0, .ro (ints (castL L)))] 1 (.c (.int .i64 (eff L x : Nat))) [] 1 := by
  subst hn
  exact FDet.wk (refEffect_spec hL hk hl x) ⟨⟨rfl, rfl, rfl⟩, rfl, trivial⟩ ⟨.inl rfl, trivial⟩
theorem solve_plain {n : Nat} {ws : List (Nat × Nat)} (h : Gr n ws) (own : Bool) (t : Nat) : (solP (bsR n (openR n ws own)) t).1 < 2 ^ n ∧ ((solP (bsR n (openR n ws own)) t).2 = 0 → eff (openR n ws own) (solP (bsR n (openR n ws own)) t).1 = t) := by
  have hS := openR_Sym h own
  have hI := inv_all (openR n ws own) n hS.len
  obtain ⟨_, s2, s3⟩ := hI.sol t
  exact ⟨s2, s3⟩
theorem iget (T : List Int) (i : Nat) : (ints T).getD (0 + Int.toNat ((i : Nat) : Int) * 1) (.int .i64 0) = .int .i64 (T.getD i 0) := by
  rw [show 0 + Int.toNat ((i : Nat) : Int) * 1 = i by simp]
  simp [ints, List.getD_eq_getElem?_getD]
theorem iset (T : List Int) (i : Nat) (v : Int) : (ints T).set (0 + Int.toNat ((i : Nat) : Int) * 1) (.int .i64 v) = ints (T.set i v) := by
  rw [show 0 + Int.toNat ((i : Nat) : Int) * 1 = i by simp]
  simp [ints, List.map_set]
end Go.Proofs.YtimknijehaamlaaDoor

/-
  Contract: the reference's Fewest.
-/
namespace Go.Proofs.YtimknijehaamlaaDoor
open Go Go.AH Go.Lin
set_option maxRecDepth 100000
set_option maxHeartbeats 1000000

theorem refFewest_spec {n : Nat} {L : List Nat} (hL : ∀ j, L.getD j 0 < 2 ^ n) (hn : n ≤ 12) (hl : L.length = n) : FDet Tryd.prog 39 [.c (.sl 0 0 n (some n))] [(0, .ro (ints (castL L)))] 1 (.c (.sl 1 0 (2 ^ n) (some (2 ^ n)))) [(1, .own (ints (fewT L (2 ^ n) (2 ^ n))))] 2 := by
  obtain ⟨q, hq⟩ : ∃ q, q = 2 ^ n := ⟨_, rfl⟩
  have hsh : (1 : Int) * 2 ^ (Int.toNat ((n : Nat) : Int)) = (q : Int) := by simp [hq]
  have hq2 : q ≤ 4096 := by rw [hq]; exact (Nat.pow_le_pow_right (by omega) hn : 2 ^ n ≤ 2 ^ 12)
  have hq0 : 0 < q := by rw [hq]; exact Nat.two_pow_pos n
  have hcl : (ints (castL L)).length = n := by rw [ints_len, castL_len, hl]
  have hef : ∀ x, eff L x < q := fun x => by rw [hq]; exact effX_lt hL x _ 0 (Nat.two_pow_pos n)
  rw [← hq]
  refine FSpec.body2 tok true Tryd.func39 ?_
  refine Wk.on ?_
  rw [hsh]
  refine Wk.on ?_
  refine ⟨⟨Nat.le_of_ble_eq_true rfl, Nat.le_of_ble_eq_true rfl, rfl, by omega, rfl, by show (8 : Int) * (q : Int) ≤ _; omega, by omega⟩, ?_⟩
  rw [Int.toNat_natCast]
  refine Wk.on ?_
  refine Tr.loop (md := true) (X := Nat) (st := fun i => ⟨[(0, .c (.sl 0 0 n (some n))), (3, .c (.int .i64 n)), (4, .c (.sl 1 0 q (some q))), (5, .c (.int .i64 i))], [(1, .own (ints (tabL (fun _ => -1) q i))), (0, .ro (ints (castL L)))], 2, 51, 1⟩) (inv := fun i => i ≤ q) (μ := fun i => q - i) (x0 := 0) (l := []) tok (by omega) ?_ ?_
  · exact Sub.nil ⟨rfl, rfl, (by simp [tab64_LL, pC, castL, prs, tmV, tmH, tmK]), rfl, (by simp [tupA, hpLt, tmLt, AV.lt, AE.lt, AC.lt, LL_cons, LL_nil, idOk, ABlk.lt, ints_LL, GB, tab64_LL, pC, castL, prs, tmV, tmH, tmK]), (by simp [tupA, hpLt, tmLt, AV.lt, AE.lt, AC.lt, LL_cons, LL_nil, idOk, ABlk.lt, ints_LL, GB, tab64_LL, pC, castL, prs, tmV, tmH, tmK])⟩ (by (repeat (first | exact trivial | refine ⟨trivial, ?_⟩ | refine ⟨rfl, ?_⟩))) ⟨by show ABlk.own (rep q [.int .i64 0]) = _; rw [rep_ints, tabL_zero], rfl, trivial⟩
  intro i hi
  have htl : (ints (tabL (fun _ => -1) q i)).length = q := by rw [ints_len, tabL_len]
  by_cases hil : i < q
  · have hsu := tabL_succ (fun _ => -1) q i
    refine Wk.on ?_
    rw [hsh, decide_eq_true (show ((i : Nat) : Int) < ((q : Nat) : Int) by omega)]
    refine Wk.on ?_
    refine Again.mk (i + 1) (Sub.nil ⟨rfl, rfl, (by simp [tab64_LL, pC, castL, prs, tmV, tmH, tmK]), rfl, (by simp [tupA, hpLt, tmLt, AV.lt, AE.lt, AC.lt, LL_cons, LL_nil, idOk, ABlk.lt, ints_LL, GB, tab64_LL, pC, castL, prs, tmV, tmH, tmK]), (by simp [tupA, hpLt, tmLt, AV.lt, AE.lt, AC.lt, LL_cons, LL_nil, idOk, ABlk.lt, ints_LL, GB, tab64_LL, pC, castL, prs, tmV, tmH, tmK])⟩ (by (repeat (first | exact trivial | refine ⟨trivial, ?_⟩ | refine ⟨rfl, ?_⟩))) ⟨by show ABlk.own ((ints (tabL (fun _ => -1) q i)).set (0 + Int.toNat ((i : Nat) : Int) * 1) (.int .i64 (-1))) = ABlk.own (ints (tabL (fun _ => -1) q (i + 1))); rw [iset, hsu], rfl, trivial⟩) (by omega) (by omega)
  obtain rfl : i = q := by omega
  have h0 : tabL (fun _ => -1) i i = fewT L i 0 := tabL_all _ _
  rw [h0] at htl ⊢
  clear h0
  refine Wk.on ?_
  rw [hsh, decide_eq_false (show ¬ ((i : Nat) : Int) < ((i : Nat) : Int) by omega)]
  refine Wk.on ?_
  refine Tr.loop (md := true) (X := Nat) (st := fun s => ⟨[(0, .c (.sl 0 0 n (some n))), (3, .c (.int .i64 n)), (4, .c (.sl 1 0 i (some i))), (6, .c (.int .i64 s))], [(1, .own (ints (fewT L i s))), (0, .ro (ints (castL L)))], 2, 51, 1⟩) (inv := fun s => s ≤ i) (μ := fun s => i - s) (x0 := 0) (l := []) tok (by omega) ?_ ?_
  · exact Sub.nil ⟨rfl, rfl, (by simp [tab64_LL, pC, castL, prs, tmV, tmH, tmK]), rfl, (by simp [tupA, hpLt, tmLt, AV.lt, AE.lt, AC.lt, LL_cons, LL_nil, idOk, ABlk.lt, ints_LL, GB, tab64_LL, pC, castL, prs, tmV, tmH, tmK]), (by simp [tupA, hpLt, tmLt, AV.lt, AE.lt, AC.lt, LL_cons, LL_nil, idOk, ABlk.lt, ints_LL, GB, tab64_LL, pC, castL, prs, tmV, tmH, tmK])⟩ (by (repeat (first | exact trivial | refine ⟨trivial, ?_⟩ | refine ⟨rfl, ?_⟩))) (by (repeat (first | exact trivial | refine ⟨trivial, ?_⟩ | refine ⟨rfl, ?_⟩)))
  intro s hs
  have htl : (ints (fewT L i s)).length = i := by rw [ints_len, fewT_len]
  by_cases hsl : s < i
  · have hsu := fewT_succ L i s
    have he := hef s
    have hat := (fewT_at hef s (eff L s) he).range
    have re := refEffect_sl hL (by omega) hl (by omega) s
    rw [fewS] at hsu
    generalize fewT L i s = T at *
    generalize eff L s = e at *
    obtain ⟨v, hv⟩ : ∃ v, v = T.getD e 0 := ⟨_, rfl⟩
    rw [← hv] at hsu hat
    obtain ⟨v1, v2, v3⟩ := hat
    have hps := Size_spec (x := s) (by omega)
    refine Wk.on ?_
    rw [hsh, decide_eq_true (show ((s : Nat) : Int) < ((i : Nat) : Int) by omega)]
    refine Wk.on ?_
    refine CallA.ro2 [0] (.c (.int .i64 e)) (re) ?_
    refine Wk.on ?_
    refine Tr.draw (md := true) [⟨[], [32], [], [], []⟩, ⟨[], [31], [0], [], []⟩, ⟨[0, 1], [], [], [], []⟩, ⟨[0, 1, 2], [], [], [], []⟩, ⟨[0, 1, 2, 3], [], [], [], []⟩, ⟨[0, 1, 2, 3, 4], [], [], [], []⟩, ⟨[0, 1, 2, 3, 4, 5], [39, 40, 41, 42], [], [], []⟩, ⟨[0, 1, 2, 3, 4, 5, 6], [39, 40, 41, 42], [], [], []⟩, ⟨[0, 1, 2, 3, 4, 5], [37, 38, 40], [6, 7], [], []⟩, ⟨[0, 1, 2, 3, 4, 5], [37, 38, 39], [6, 7, 8], [], []⟩, ⟨[0, 1, 2, 3, 4, 5, 8, 9], [37, 38], [6, 7], [], []⟩, ⟨[0, 1, 2, 3, 4, 5, 8, 9, 10], [37, 38], [6, 7], [], []⟩] tok (by kernel_rfl) (by kernel_rfl) ?_
    refine Wk.on ?_
    rw [iget, ← hv]
    refine Wk.on ?_
    by_cases c0 : v < 0
    · rw [decide_eq_true c0]
      rw [if_pos (.inl c0)] at hsu
      refine Wk.on ?_
      refine Again.mk (s + 1) (Sub.nil ⟨rfl, rfl, (by simp [tab64_LL, pC, castL, prs, tmV, tmH, tmK]), rfl, (by simp [tupA, hpLt, tmLt, AV.lt, AE.lt, AC.lt, LL_cons, LL_nil, idOk, ABlk.lt, ints_LL, GB, tab64_LL, pC, castL, prs, tmV, tmH, tmK]), (by simp [tupA, hpLt, tmLt, AV.lt, AE.lt, AC.lt, LL_cons, LL_nil, idOk, ABlk.lt, ints_LL, GB, tab64_LL, pC, castL, prs, tmV, tmH, tmK])⟩ (by (repeat (first | exact trivial | refine ⟨trivial, ?_⟩ | refine ⟨rfl, ?_⟩))) ⟨by show ABlk.own ((ints T).set (0 + Int.toNat ((e : Nat) : Int) * 1) (.int .i64 (s : Int))) = ABlk.own (ints (fewT L i (s + 1))); rw [iset, hsu], rfl, trivial⟩) (by omega) (by omega)
    · rw [decide_eq_false c0]
      obtain ⟨m, rfl⟩ : ∃ m : Nat, v = m := ⟨v.toNat, by omega⟩
      rw [Int.toNat_natCast] at hsu
      have hpm := Size_spec (x := m) (by omega)
      refine Wk.on ?_
      refine CallQ.ro2 [] (.c (.int .i64 (pop s : Nat))) (hps) ?_
      refine Wk.on ?_
      rw [iget, ← hv]
      refine Wk.on ?_
      refine CallA.ro2 [] (.c (.int .i64 (pop m : Nat))) (hpm) ?_
      refine Wk.on ?_
      generalize pop s = ps at *
      generalize pop m = pm at *
      by_cases c1 : ps < pm
      · rw [decide_eq_true (show ((ps : Nat) : Int) < ((pm : Nat) : Int) by omega)]
        rw [if_pos (.inr c1)] at hsu
        refine Wk.on ?_
        refine Again.mk (s + 1) (Sub.nil ⟨rfl, rfl, (by simp [tab64_LL, pC, castL, prs, tmV, tmH, tmK]), rfl, (by simp [tupA, hpLt, tmLt, AV.lt, AE.lt, AC.lt, LL_cons, LL_nil, idOk, ABlk.lt, ints_LL, GB, tab64_LL, pC, castL, prs, tmV, tmH, tmK]), (by simp [tupA, hpLt, tmLt, AV.lt, AE.lt, AC.lt, LL_cons, LL_nil, idOk, ABlk.lt, ints_LL, GB, tab64_LL, pC, castL, prs, tmV, tmH, tmK])⟩ (by (repeat (first | exact trivial | refine ⟨trivial, ?_⟩ | refine ⟨rfl, ?_⟩))) ⟨by show ABlk.own ((ints T).set (0 + Int.toNat ((e : Nat) : Int) * 1) (.int .i64 (s : Int))) = ABlk.own (ints (fewT L i (s + 1))); rw [iset, hsu], rfl, trivial⟩) (by omega) (by omega)
      · rw [decide_eq_false (show ¬ ((ps : Nat) : Int) < ((pm : Nat) : Int) by omega)]
        rw [if_neg (by omega)] at hsu
        refine Wk.on ?_
        refine Again.mk (s + 1) (Sub.nil ⟨rfl, rfl, (by simp [tab64_LL, pC, castL, prs, tmV, tmH, tmK]), rfl, (by simp [tupA, hpLt, tmLt, AV.lt, AE.lt, AC.lt, LL_cons, LL_nil, idOk, ABlk.lt, ints_LL, GB, tab64_LL, pC, castL, prs, tmV, tmH, tmK]), (by simp [tupA, hpLt, tmLt, AV.lt, AE.lt, AC.lt, LL_cons, LL_nil, idOk, ABlk.lt, ints_LL, GB, tab64_LL, pC, castL, prs, tmV, tmH, tmK])⟩ (by (repeat (first | exact trivial | refine ⟨trivial, ?_⟩ | refine ⟨rfl, ?_⟩))) ⟨by show ABlk.own (ints T) = ABlk.own (ints (fewT L i (s + 1))); rw [hsu], rfl, trivial⟩) (by omega) (by omega)
  obtain rfl : s = i := by omega
  generalize fewT L s s = T at *
  refine Wk.on ?_
  rw [hsh, decide_eq_false (show ¬ ((s : Nat) : Int) < ((s : Nat) : Int) by omega)]
  refine Wk.on ?_
  exact AH.Fin.new [1] _ _ ⟨rfl, rfl, rfl⟩ rfl ⟨by show some (ABlk.own _) = some (ABlk.own ((ints _).map _)); rw [ints_ren], trivial⟩ rfl (by simp [tupA, hpLt, tmLt, AV.lt, AE.lt, AC.lt, LL_cons, LL_nil, idOk, ABlk.lt, ints_LL, GB, tab64_LL, pC, castL, prs, tmV, tmH, tmK]) (by simp [tupA, hpLt, tmLt, AV.lt, AE.lt, AC.lt, LL_cons, LL_nil, idOk, ABlk.lt, ints_LL, GB, tab64_LL, pC, castL, prs, tmV, tmH, tmK])
end Go.Proofs.YtimknijehaamlaaDoor
