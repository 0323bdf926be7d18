/-
  The iterator over a set's elements.
-/
import Derived.Test.YtfphkpdobbffeaaDoorSwC2
import Derived.RangeFuncLeaves
import Derived.OwnWalkIn
import Derived.TacticsInMore
import Derived.LoopNIn
import Derived.LoopIn
set_option linter.unusedSimpArgs false
set_option linter.unusedVariables false
namespace Go.Proofs.YtfphkpdobbffeaaDoor
open Go Go.AH Go.RowKit Go.Shelf
attribute [local go_sem] Oper.semAt_some
set_option maxRecDepth 100000
set_option maxHeartbeats 1000000

theorem tz_calls {n : Nat} (hn : n < 1024) (h0 : 0 < n) {R : AH.Ren} (hok : R.ok) {w : World} (H : HRel R [(100002, .ro tab64)] w) : Calls Tryd.prog 99 #[.int .u64 n] w fun e w' => e = .returned (.int .i64 (tz n)) ∧ Below w.heap.size w w' := by
  refine ((tz_spec hn h0).run w R #[.int .u64 n] hok rfl ?_ H).mono ?_
  · intro i v hi
    cases i with
    | zero => simp at hi; subst hi; exact ⟨_, rfl, rfl⟩
    | succ i => simp at hi
  · rintro e w' ⟨u, r, hp', k', R', rfl, ⟨rfl, rfl, rfl⟩, _, _, _, hc, _, _, _, _, _, hf⟩
    have hc : u = _ := hc
    subst hc
    refine ⟨rfl, (hf.mono (M' := fun _ => False) ?_).below⟩
    rintro k ⟨i, b, hb, hw, _⟩
    simp only [lk] at hb
    split at hb
    · injection hb with hb; subst hb; cases hw
    · cases hb

theorem and_bits : ∀ x : Nat, x < 1024 → 0 < x → bits BinOp.and IntKind.u64 (x : Int) ((x : Int) - 1) = ((x &&& (x - 1) : Nat) : Int) := by decide +kernel
theorem members1_in (F : Fence) (m : Nat) (h98 : F.fn 98) (h99 : F.fn 99) (hro : F.round = none) (hm : 1 ≤ m) {n : Nat} (hn : n < 1024) (R : AH.Ren)
    (ht : ∀ (k x : Nat) (w : World), x < 1024 → 0 < x → HRel R [(100002, .ro tab64)] w → CallsIn F k Tryd.prog 99 #[.int .u64 x] w fun e w' => e = .returned (.int .i64 (tz x)) ∧ Below w.heap.size w w') (l : Nat) (A : Addr)
    (J Jx : List { x // x ∈ mem n } → World → Prop) (W : World) (hJ : AbidesFrom W.heap.size J)
    (hY : ∀ pre x W1, J pre W1 → pre.length < (mem n).length → YieldAt F (m - 1) Tryd.prog l #[Value.int .i64 x.1] W1 fun e W' =>
      (e = .returned (.bool true) ∧ J (pre ++ [x]) W' ∧ W'.heap[R.ρ 100002]? = W1.heap[R.ρ 100002]?) ∨ (e = .returned (.bool false) ∧ Jx (pre ++ [x]) W'))
    (hc : W.cell? A = some (.int .i64 n)) (hT : HRel R [(100002, .ro tab64)] W) (h0 : J [] W) :
    CallsIn F m Tryd.prog 98 #[.func (.yield l) #[] #[], .pointer (some A)] W fun e W' => (∃ v, e = .returned v) ∧ ((∃ xs, xs.map Subtype.val = mem n ∧ J xs W') ∨ (∃ pre, pre.map Subtype.val <+: mem n ∧ Jx pre W')) := by
  have hwrap : IntKind.u64.wrap (n : Int) = n := by
    have : ∀ n : Nat, n < 1024 → IntKind.u64.wrap (n : Int) = n := by decide +kernel
    exact this n hn
  refine callsIn_of_wp Tryd.func98 rfl h98 ?_ hro
  simp only [Tryd.ntmps98, List.size_toArray, List.length_cons, List.length_nil, Nat.reduceAdd, Nat.reduceSub, Array.replicate_succ, Array.replicate_zero, List.push_toArray, List.append_toArray, List.nil_append, List.cons_append]
  gi_wp2
  gi_loopw [3] (fun p wr => ∃ (z : Int) (x : Nat) (pre : List { x // x ∈ mem n }), p = .int .u64 z ∧ z = x ∧ x < 1024 ∧ mem n = pre.map Subtype.val ++ mem x ∧ J pre wr ∧ HRel R [(100002, .ro tab64)] wr)
    (fun p _ => match p with | .int _ k => k.toNat | _ => 0)
  case atStart =>
    exact ⟨_, n, [], rfl, rfl, hn, rfl, h0, hT⟩
  case round =>
    obtain ⟨z, x, pre, rfl, hz, hx, hmem, hJs, hT'⟩ := hrel
    by_cases hx0 : x = 0
    · subst hx0
      obtain rfl : z = 0 := hz
      gi_wp2
      go_end0
      exact ⟨⟨_, rfl⟩, .inl ⟨pre, by simpa [mem, memN_zero] using hmem.symm, hJs⟩⟩
    · subst hz
      have hxi : ((x : Int) == 0) = false := by simpa using hx0
      have hpos : 0 < x := by omega
      have hst := mem_step hx hpos
      have hin : (tz x : Int) ∈ mem n := by rw [hmem, hst]; simp
      have hlen : pre.length < (mem n).length := by
        have := congrArg List.length hmem
        rw [hst] at this
        simp at this ⊢; omega
      gi_wp2_with (gi_at_call 99; refine (ht (m - 1) x wr hx hpos hT').mono ?_; rintro e w2 ⟨rfl, hb⟩; have hg : wr.grownBy w2 none := ⟨hb.os, hb.tape, hb.output, hb.size, fun k hk _ => hb.block k hk⟩; have hJ2 : J pre w2 := hJ pre wr w2 none hJs hg (fun r e => by cases e); obtain ⟨fn, tmps, assign, body, hy, hR⟩ := hY pre ⟨tz x, hin⟩ w2 hJ2 hlen)
      refine hR.mono ?_
      rintro e W3 (⟨rfl, hJ3, hk3⟩ | ⟨rfl, hJx3⟩)
      · gi_wp2
        go_roundw
        case rel =>
          refine ⟨_, x &&& (x - 1), pre ++ [⟨tz x, hin⟩], rfl, and_bits x hx hpos, by have := (memN_step x hx hpos).2; omega, hmem.trans (by rw [hst]; simp), hJ3, ?_⟩
          have hT2 : HRel R [(100002, .ro tab64)] w2 := ⟨fun i b hi => (hT'.blk i b hi).of_block (hb.block _ (hT'.blk i b hi).lt), hT'.inj⟩
          refine ⟨fun i b hi => (hT2.blk i b hi).of_block ?_, hT'.inj⟩
          simp only [lk] at hi
          split at hi
          · rename_i e; subst e; exact hk3
          · cases hi
        case measure =>
          have h1 := and_bits x hx hpos
          have h2 := (memN_step x hx hpos).2
          simp only [h1]
          show (((x &&& (x - 1) : Nat) : Int)).toNat < ((x : Nat) : Int).toNat
          omega
      · gi_wp2
        refine bodyPost_ret (results_none rfl _ _ _) rfl ?_
        exact ⟨⟨_, rfl⟩, .inr ⟨pre ++ [⟨tz x, hin⟩], ⟨mem (x &&& (x - 1)), (hmem.trans (by rw [hst]; simp)).symm⟩, hJx3⟩⟩

theorem members1_iter {n : Nat} (hn : n < 1024) (id : Nat) (hid : id < GB) : FIter Tryd.prog 98 [id] [(id, .ro [.int .i64 n]), (100002, .ro tab64)] (mem n) := by
  have hne : id ≠ 100002 := by unfold GB at hid; omega
  refine ⟨Go.Proofs.enters_of Tryd.func98 (by kernel_rfl) rfl, fun R w m hok hm H l J Jx W hW hJ hJx hY h0 => ?_⟩
  have hB := H.blk id (.ro [.int .i64 n]) (by simp [lk])
  obtain ⟨c, t, z, h1, h2⟩ := hB
  obtain ⟨v, h3, h4⟩ := h2 0 (.int .i64 n) rfl
  have h4 : v = .int .i64 n := h4
  subst h4
  have hlt : R.ρ id < w.heap.size := (Array.getElem?_eq_some_iff.1 h1).1
  have hc : W.cell? (R.adr id 0) = some (.int .i64 n) := by
    simp only [World.cell?, AH.Ren.adr, hW.block _ hlt, h1]
    simpa using h3
  have hT : HRel R [(100002, .ro tab64)] W := by
    refine ⟨fun i b hi => ?_, fun i j b c hi _ _ hw => ?_⟩
    · simp only [lk] at hi
      split at hi
      · rename_i e; subst e; injection hi with hi; subst hi
        have := H.blk 100002 (.ro tab64) (by simp [lk, hne])
        exact this.of_block (hW.block _ this.lt)
      · cases hi
    · simp only [lk] at hi
      split at hi
      · injection hi with hi; subst hi; cases hw
      · cases hi
  refine members1_in (FW none) m trivial trivial rfl hm hn R (fun k x w hx h0 H => callsFW (tz_calls hx h0 hok H)) l (R.adr id 0) J Jx W hJ (fun pre x W1 hJ1 hl => ?_) hc hT h0
  obtain ⟨fn, tmps, assign, body, hy, hR⟩ := hY pre x W1 hJ1 hl
  refine ⟨fn, tmps, assign, body, hy, hR.mono ?_⟩
  rintro e W' (⟨h5, h6, h7⟩ | h5)
  · exact .inl ⟨h5, h6, h7 100002 (.ro tab64) (by simp [lk, hne])⟩
  · exact .inr h5

theorem members_spec (n : Nat) : FDet Tryd.prog 74 [.c (.int .i64 n)] [] 0 (.c (.fn 98 [] [0])) [(0, .own [.int .i64 n])] 1 := by
  refine FSpec.of_body tok true Tryd.func74 rfl (by kernel_rfl) (by decide) (by simp [tupA, hpLt, tmLt, AV.lt, AE.lt, AC.lt, LL_cons, LL_nil, idOk, ABlk.lt, ints_LL, GB]) (by simp [tupA, hpLt, tmLt, AV.lt, AE.lt, AC.lt, LL_cons, LL_nil, idOk, ABlk.lt, ints_LL, GB]) (by show 1 ≤ _; decide) ?_
  (conv => whnf); (repeat ((first | (refine ⟨rfl, ?_⟩) | (refine ⟨trivial, ?_⟩) | (refine ⟨fun _ => ?_, fun h => absurd h (by decide)⟩) | (refine ⟨fun h => absurd h (by decide), fun _ => ?_⟩) | (refine ⟨by (first | exact Nat.le_of_ble_eq_true rfl | exact ⟨rfl, Nat.le_of_ble_eq_true rfl⟩ | exact ⟨Nat.le_of_ble_eq_true rfl, rfl⟩ | exact ⟨rfl, rfl⟩ | (with_reducible assumption) | exact ⟨by with_reducible assumption, rfl⟩ | ((with_reducible refine bsCond ?_); rfl) | ((with_reducible refine nilsCond ?_); rfl) | omega | exact ⟨rfl, by omega⟩ | exact ⟨by omega, rfl⟩ | exact ⟨by omega, by omega, by omega, by omega, rfl⟩ | decide | (unfold I64; omega) | exact ⟨by omega, by omega, by unfold I64; omega⟩  | exact ⟨trivial, fun q hq => absurd hq List.not_mem_nil⟩ | (simp [AV.all, AC.all, AE.all, ABlk.all, avAll, holes, rgN, outside, ints_LA, LA_nil, LA_cons] <;> fail) | exact ⟨by omega, by show _ < (64 : Int); omega⟩), ?_⟩)); (conv => whnf)))
  exact AH.Fin.new [0] _ _ ⟨rfl, rfl, rfl⟩ rfl (by simp only [hpAll]; exact (by (repeat (first | exact trivial | refine ⟨rfl, ?_⟩)))) rfl (by simp [tupA, hpLt, tmLt, AV.lt, AE.lt, AC.lt, LL_cons, LL_nil, idOk, ABlk.lt, ints_LL, GB]) (by simp [tupA, hpLt, tmLt, AV.lt, AE.lt, AC.lt, LL_cons, LL_nil, idOk, ABlk.lt, ints_LL, GB])
end Go.Proofs.YtfphkpdobbffeaaDoor
