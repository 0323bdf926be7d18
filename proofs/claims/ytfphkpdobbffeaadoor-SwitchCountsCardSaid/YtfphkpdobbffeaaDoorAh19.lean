/-
  A region that draws its order: the rule.
-/
import Derived.Test.YtfphkpdobbffeaaDoorAh18
set_option linter.unusedSimpArgs false
set_option linter.unusedVariables false
namespace Go.AH
open Go.RowKit

variable {P : Program} {T : Nat → Option TI} {md : Bool} {E : Env} {R R2 : Ren} {s : AS} {a : Act} {w w' : World} {n : Nat} {r : Option Nat}

/-- How many of the first N have not come up. -/
def unl (listed : Array Bool) : Nat → Nat
  | 0 => 0
  | k + 1 => unl listed k + (if listed.getD k false = true then 0 else 1)
theorem getD_set {listed : Array Bool} {i k : Nat} (hi : i < listed.size) : (listed.setIfInBounds i true).getD k false = if k = i then true else listed.getD k false := by
  by_cases e : k = i
  · subst e; simp [hi]
  · rw [if_neg e, getD_set_ne false (fun h => e h.symm)]
theorem unl_set {listed : Array Bool} {i : Nat} (hi : i < listed.size) (hn : listed.getD i false = false) : ∀ N, unl (listed.setIfInBounds i true) N + (if i < N then 1 else 0) = unl listed N
  | 0 => by simp [unl]
  | k + 1 => by
    have ih := unl_set hi hn k
    simp only [unl, getD_set hi]
    by_cases e : k = i
    · subst e
      rw [if_neg (Nat.lt_irrefl _)] at ih
      rw [hn]; simp; omega
    · rw [if_neg e]
      by_cases h : i < k
      · rw [if_pos h] at ih; rw [if_pos (show i < k + 1 by omega)]; omega
      · rw [if_neg h] at ih; rw [if_neg (show ¬ i < k + 1 by omega)]; omega
theorem unl_zero {listed : Array Bool} : ∀ {N : Nat}, unl listed N = 0 → ∀ k, k < N → listed.getD k false = true
  | N + 1, h, k, hk => by
    simp only [unl] at h
    by_cases e : listed.getD N false = true
    · by_cases e2 : k = N
      · subst e2; exact e
      · exact unl_zero (N := N) (by omega) k (by omega)
    · rw [if_neg e] at h; omega
theorem unl_le (listed : Array Bool) : ∀ N, unl listed N ≤ N
  | 0 => Nat.le_refl _
  | k + 1 => by have := unl_le listed k; simp only [unl]; split <;> omega

variable {ops : Array Oper} {pl : List PE} {Q : Exit → Act → World → Prop}

/-- Behind the plan the text's order is the only one. -/
theorem tail_any (hP : PlanP ops pl) : ∀ (d q fuel : Nat) (listed : Array Bool) (a : Act) (w : World), q + d = ops.size → pl.length ≤ q → d ≤ fuel → listed.size = ops.size → (∀ k, k < ops.size → (listed.getD k false = true ↔ k < q)) →
    wpOpsIn (FW r) n P ops Q (List.range' q d) a w → wpAnyIn (FW r) n P .any ops Q fuel listed a w := by
  have ready : ∀ (q : Nat) (listed : Array Bool), pl.length ≤ q → listed.size = ops.size → (∀ k, k < ops.size → (listed.getD k false = true ↔ k < q)) → ∀ i, i ∈ Region.ready .any ops listed ↔ (i = q ∧ q < ops.size) := by
    intro q listed hq hsz hl i
    rw [mem_ready]
    constructor
    · rintro ⟨h0, o, ho, hall⟩
      have hi : i < ops.size := (Array.getElem?_eq_some_iff.1 ho).1
      have h0' : listed.getD i false = false := by
        have : listed.getD i true = listed.getD i false := by simp [hsz, hi]
        rw [← this]; exact h0
      have hqi : q ≤ i := by
        by_cases h : i < q
        · rw [(hl i hi).2 h] at h0'; cases h0'
        · omega
      by_cases e : i = q
      · exact ⟨e, by omega⟩
      · exfalso
        obtain ⟨e, he, hb, h⟩ := hP.suf i o ho (by simp; omega) q (by omega)
        have h1 := hall e he hb
        have h2 := hP.lo i o ho e he hb
        have h3 := (hl e.on (by omega)).1 h1
        rcases h with h | ⟨_, ⟨p, hp, hj⟩ | ⟨_, hj⟩⟩
        · omega
        · have hlt := (List.getElem?_eq_some_iff.1 hp).1
          have hx : e.on < ops.size := by omega
          have := (hP.bf e.on _ p (Array.getElem?_eq_getElem hx) hp q hj).1
          omega
        · omega
    · rintro ⟨rfl, hi⟩
      have h0 : listed.getD i true = false := by
        have h1 : ¬ listed.getD i false = true := fun h => by have := (hl i hi).1 h; omega
        have : listed.getD i true = listed.getD i false := by simp [hsz, hi]
        rw [this]; simpa using h1
      exact ⟨h0, ops[i], Array.getElem?_eq_getElem hi, fun e he hb => by
        have h2 := hP.lo i _ (Array.getElem?_eq_getElem hi) e he hb
        exact (hl e.on (by omega)).2 h2⟩
  intro d
  induction d with
  | zero =>
    intro q fuel listed a w hqd hq hf hsz hl h
    have hr : Region.ready .any ops listed = [] := List.eq_nil_iff_forall_not_mem.2 fun i hi => by
      have := (ready q listed hq hsz hl i).1 hi; omega
    have h : Q .normal a w := by simpa [wpOpsIn] using h
    cases fuel with
    | zero => exact ⟨hr, h⟩
    | succ f => exact ⟨fun _ => h, fun i hi => by rw [hr] at hi; cases hi⟩
  | succ d ih =>
    intro q fuel listed a w hqd hq hf hsz hl h
    cases fuel with
    | zero => omega
    | succ f =>
      refine ⟨fun hr => ?_, fun i hi => ?_⟩
      · have := (ready q listed hq hsz hl q).2 ⟨rfl, by omega⟩
        rw [hr] at this; cases this
      · obtain ⟨rfl, hi2⟩ := (ready q listed hq hsz hl i).1 hi
        rw [List.range'_succ, wpOpsIn_cons] at h
        refine wpOpIn_mono (fun a w h => ih (i + 1) f _ a w (by omega) (by omega) (by omega) (by simp [hsz]) (fun k hk => ?_) h) h
        rw [getD_set (by omega)]
        by_cases e : k = i
        · simp [e]
        · rw [if_neg e, hl k hk]; omega

theorem any_of_walk {s0 : AS} {Rs : List Rc} (hP : PlanP ops pl) (hlen : Rs.length = pl.length) (hsz' : pl.length ≤ ops.size) (hpe : ∀ k q, At Rs k q → pl[k]? = some q.pe) (hG : Good P ops s0 Rs)
    (hfin : ∀ a w, JJ s0 Rs E (fun _ => true) a w → wpOpsIn (FW r) n P ops Q (List.range' pl.length (ops.size - pl.length)) a w) :
    ∀ (fuel : Nat) (listed : Array Bool) (a : Act) (w : World), listed.size = ops.size → unl listed pl.length + (ops.size - pl.length) ≤ fuel → (∀ k, pl.length ≤ k → k < ops.size → listed.getD k false = false) →
      (∀ k q, At Rs k q → listed.getD k false = true → ∀ j ∈ q.pe.bf, listed.getD j false = true) → JJ s0 Rs E (fun k => listed.getD k false) a w → wpAnyIn (FW r) n P .any ops Q fuel listed a w := by
  have opsAt : ∀ k q, At Rs k q → ∃ o, ops[k]? = some o ∧ q.dst = o.dst := fun k q hq => by
    obtain ⟨pre, rest, e, hl⟩ := hq.split
    have := (Good.suf (pre := pre) (l := q :: rest) (by rw [← e]; exact hG)).2.run
    obtain ⟨o, _, _, ho, hd, _⟩ := this
    exact ⟨o, by rw [← hl]; exact ho, hd⟩
  have plan : Plan ops Rs := ⟨fun i k p q hp hq hik hn => by
      obtain ⟨oi, hoi, hdi⟩ := opsAt i p hp
      obtain ⟨ok, hok, hdk⟩ := opsAt k q hq
      have := hP.un k ok q.pe i oi p.pe hok (hpe k q hq) hik hoi (hpe i p hp) hn
      exact ⟨fun d h => this.2.2 d (by rw [← hdk]; exact h), fun d h => this.2.1 d (by rw [← hdi]; exact h), this.1⟩,
    fun i k p q d hp hq hik h1 h2 => by
      obtain ⟨oi, hoi, hdi⟩ := opsAt i p hp
      obtain ⟨ok, hok, hdk⟩ := opsAt k q hq
      exact hP.same k ok q.pe i oi p.pe d hok (hpe k q hq) hik hoi (hpe i p hp) (by rw [← hdi]; exact h1) (by rw [← hdk]; exact h2)⟩
  intro fuel
  induction fuel with
  | zero =>
    intro listed a w hsz hf hno hdown hJ
    have hall := unl_zero (listed := listed) (N := pl.length) (by omega)
    have hJ' : JJ s0 Rs E (fun _ => true) a w := by
      obtain ⟨R, F, h1, h2, h3, h4⟩ := hJ
      have e1 : ∀ k q, At Rs k q → (fun k => listed.getD k false) k = (fun _ => true) k := fun k q hq => hall k (by have := hq.lt; omega)
      refine ⟨R, ((F.tm_sub (tm' := tmR (fun _ => true) s0.tm Rs) fun t v h => ?_).hp_sub (hp' := hpR (fun _ => true) s0.hp Rs) fun i c h => ?_), h1, h2, h3, fun i q hq _ => h4 i q hq (e1 i q hq)⟩
      · rw [← h]; exact tmR_S fun k q hq _ => e1 k q hq
      · show lk (hpR _ s0.hp Rs) i = some c
        rw [← h]; exact hpR_S fun k q hq _ => e1 k q hq
    refine tail_any hP (ops.size - pl.length) pl.length 0 listed a w (by omega) (Nat.le_refl _) (by omega) hsz (fun k hk => ?_) (hfin a w hJ')
    constructor
    · intro h; by_cases e : k < pl.length
      · exact e
      · rw [hno k (by omega) hk] at h; cases h
    · exact hall k
  | succ f ih =>
    intro listed a w hsz hf hno hdown hJ
    by_cases hz : unl listed pl.length = 0
    · have hall := unl_zero (listed := listed) (N := pl.length) hz
      have hJ' : JJ s0 Rs E (fun _ => true) a w := by
        obtain ⟨R, F, h1, h2, h3, h4⟩ := hJ
        have e1 : ∀ k q, At Rs k q → (fun k => listed.getD k false) k = (fun _ => true) k := fun k q hq => hall k (by have := hq.lt; omega)
        refine ⟨R, ((F.tm_sub (tm' := tmR (fun _ => true) s0.tm Rs) fun t v h => ?_).hp_sub (hp' := hpR (fun _ => true) s0.hp Rs) fun i c h => ?_), h1, h2, h3, fun i q hq _ => h4 i q hq (e1 i q hq)⟩
        · rw [← h]; exact tmR_S fun k q hq _ => e1 k q hq
        · show lk (hpR _ s0.hp Rs) i = some c
          rw [← h]; exact hpR_S fun k q hq _ => e1 k q hq
      refine tail_any hP (ops.size - pl.length) pl.length (f + 1) listed a w (by omega) (Nat.le_refl _) (by omega) hsz (fun k hk => ?_) (hfin a w hJ')
      constructor
      · intro h; by_cases e : k < pl.length
        · exact e
        · rw [hno k (by omega) hk] at h; cases h
      · exact hall k
    · -- some of the plan have not come up
      have least : ∃ i, i < pl.length ∧ listed.getD i false = false ∧ ∀ k, k < i → listed.getD k false = true := by
        have : ∀ N, unl listed N ≠ 0 → ∃ i, i < N ∧ listed.getD i false = false ∧ ∀ k, k < i → listed.getD k false = true := by
          intro N
          induction N with
          | zero => intro h; exact absurd rfl h
          | succ N ih2 =>
            intro h
            by_cases h2 : unl listed N = 0
            · refine ⟨N, by omega, ?_, unl_zero h2⟩
              cases e : listed.getD N false with
              | false => rfl
              | true => simp only [unl, h2, e] at h; simp at h
            · obtain ⟨i, h3, h4⟩ := ih2 h2
              exact ⟨i, by omega, h4⟩
        exact this _ hz
      obtain ⟨i0, hi0, hun0, hlow⟩ := least
      refine ⟨fun hr => ?_, fun i hi => ?_⟩
      · exfalso
        have hlt : i0 < ops.size := by omega
        have : i0 ∈ Region.ready .any ops listed := mem_ready.2 ⟨by
          have : listed.getD i0 true = listed.getD i0 false := by simp [hsz, hlt]
          rw [this]; exact hun0, ops[i0], Array.getElem?_eq_getElem hlt, fun e he hb => hlow _ (hP.lo i0 _ (Array.getElem?_eq_getElem hlt) e he hb)⟩
        rw [hr] at this; cases this
      · obtain ⟨h0, o, ho, hall⟩ := mem_ready.1 hi
        have hlt : i < ops.size := (Array.getElem?_eq_some_iff.1 ho).1
        have h0' : listed.getD i false = false := by
          have : listed.getD i true = listed.getD i false := by simp [hsz, hlt]
          rw [← this]; exact h0
        -- what comes before has come up
        have before : ∀ j, (∃ e ∈ o.after, Region.binds .any e = true ∧ (e.on = j ∨ (e.on < i ∧ ((∃ q, pl[e.on]? = some q ∧ j ∈ q.bf) ∨ (pl[e.on]? = none ∧ j < e.on))))) → listed.getD j false = true := by
          rintro j ⟨e, he, hb, h⟩
          have h1 := hall e he hb
          rcases h with h | ⟨h2, ⟨q, hq, hj⟩ | ⟨hq, hj⟩⟩
          · rw [← h]; exact h1
          · obtain ⟨q', hq'⟩ := At.of_lt (l := Rs) (i := e.on) (by rw [hlen]; exact (List.getElem?_eq_some_iff.1 hq).1)
            have h3 := hpe _ q' hq'
            rw [hq] at h3; injection h3 with h3
            exact hdown e.on q' hq' h1 j (by rw [← h3]; exact hj)
          · have : pl.length ≤ e.on := by simpa using hq
            rw [hno e.on this (by omega)] at h1; cases h1
        have him : i < pl.length := by
          by_cases h : i < pl.length
          · exact h
          · exfalso
            have := before i0 (hP.suf i o ho (by simp; omega) i0 (by omega))
            rw [hun0] at this; cases this
        obtain ⟨p, hp⟩ := At.of_lt (l := Rs) (i := i) (by omega)
        have hbf : ∀ j ∈ p.pe.bf, listed.getD j false = true := fun j hj => before j (hP.bf i o p.pe ho (hpe i p hp) j hj).2
        refine wpOpIn_mono (fun a' w' hJ' => ih (listed.setIfInBounds i true) a' w' (by simp [hsz]) ?_ ?_ ?_ hJ') (sched_step (S' := fun k => (listed.setIfInBounds i true).getD k false) hG plan hJ hdown hp h0' hbf ⟨?_, ?_⟩)
        · have := unl_set (listed := listed) (i := i) (by omega) h0' pl.length
          rw [if_pos him] at this; omega
        · intro k hk hk2
          rw [getD_set (by omega), if_neg (by omega)]; exact hno k hk hk2
        · intro k q hq hs j hj
          rw [getD_set (by omega)] at hs ⊢
          split
          · rfl
          · by_cases e : k = i
            · subst e
              have e2 : q = p := hq.uniq hp
              subst e2; exact hbf j hj
            · rw [if_neg e] at hs; exact hdown k q hq hs j hj
        · show (listed.setIfInBounds i true).getD i false = true
          rw [getD_set (by omega), if_pos rfl]
        · intro k hk
          show (listed.setIfInBounds i true).getD k false = _
          rw [getD_set (by omega), if_neg hk]

theorem tmR_false (tm : List (Nat × AV)) : ∀ Rs : List Rc, tmR (fun _ => false) tm Rs = tm
  | [] => rfl
  | r :: rest => by simp [tmR, tmR_false tm rest]
theorem hpR_false (hp : List (Nat × ABlk)) : ∀ Rs : List Rc, hpR (fun _ => false) hp Rs = hp
  | [] => rfl
  | r :: rest => by simp [hpR, hpR_false hp rest]

theorem Tr.draw {id : Nat} {Q : Exit → AS → Prop} (pl : List PE) (hT : TOk P T) (hm : P.follows .mixedOrders = true) (hc : planOk ops pl = true) (h : drawA P T md ops.toList (Q .normal) pl ops.toList 0 [] s) : Tr P (.region id ops true) s Q := Tr.intro fun E R a w n r F ht => by
  refine wpIn_region_any hm ?_
  have Fd : Fit E R s a { w with drawn := w.drawn + 1 } := F.keep0 ⟨rfl, rfl, rfl, Nat.le_refl _, fun _ _ _ => rfl⟩
  have hP := planOk_sound hc
  have rep0 : ∀ k, (Array.replicate ops.size false).getD k false = false := fun k => by
    by_cases h : k < ops.size <;> simp [h]
  obtain ⟨Rs, s', hG, hlen, hpe, hS, hN, hops, hle⟩ := draw_extract (s0 := s) hT pl ops.toList [] [] [] s (by simp) rfl trivial ⟨fun k q h => h.elim⟩ ⟨rfl, rfl, rfl, fun _ _ h => h, fun _ _ h => h⟩ Fd.nk.2 h
  rw [List.append_nil] at hG hpe hS hN
  have hle' : pl.length ≤ ops.size := by simpa using hle
  refine any_of_walk (E := E) hP hlen hle' (fun k q hq => by simpa using hpe k q hq (Nat.zero_le _)) hG ?_ ops.size _ a _ (by simp) ?_ ?_ ?_ ?_
  · rintro a' w' ⟨R', F', _⟩
    have F2 : Fit E R' s' a' w' := by
      have := (F'.tm_sub (tm' := s'.tm) hS.tm).hp_sub (hp' := s'.hp) hS.hp
      obtain ⟨tm, hp, nx, nt, k0⟩ := s'
      obtain ⟨e1, e2, e3, _, _⟩ := hS
      simp only at e1 e2 e3
      subst e1; subst e2; subst e3
      exact this
    have hpre : ops.toList = ops.toList.take pl.length ++ ops.toList.drop pl.length := (List.take_append_drop _ _).symm
    have := opsW_sound (P := P) (n := n) (r := r) hT (ops := ops) (K := Q .normal) (Q := fun e a' w' => ∃ R' s', Q e s' ∧ Fit E R' s' a' w') (fun s' R' a' w' hk F' => ⟨R', s', hk, F'⟩) (ops.toList.drop pl.length) (ops.toList.take pl.length) s' R' a' w' hpre hops F2
    have e1 : (List.take pl.length ops.toList).length = pl.length := by simp; omega
    have e2 : (List.drop pl.length ops.toList).length = ops.size - pl.length := by simp
    rw [e1, e2] at this
    exact this
  · have := unl_le (Array.replicate ops.size false) pl.length; omega
  · intro k _ hk; simp [hk]
  · intro k q hq hs; rw [rep0] at hs; cases hs
  · have e : (fun k => (Array.replicate ops.size false).getD k false) = fun _ => false := by funext k; exact rep0 k
    have hnx : s.nx ≤ nxR s.nx Rs := Good.nx0 hG
    refine ⟨R, ?_, Fd.wf.tm, Fd.wf.hp, Fd.nk.1, fun i q hq hs => by rw [e] at hs; cases hs⟩
    have := Fd.ren (R' := R) (m := nxR s.nx Rs) (Agree.refl _ _) Fd.ok hnx hN
    rw [e]
    unfold StR
    rw [tmR_false, hpR_false]
    exact this

#print axioms Tr.draw
end Go.AH
