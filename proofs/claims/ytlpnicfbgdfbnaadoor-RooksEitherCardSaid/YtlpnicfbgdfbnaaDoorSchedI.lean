/- The law of Sched in a fence. -/
import Derived.Test.YtlpnicfbgdfbnaaDoorSched
import Derived.OrdersIn
import Derived.AtR
import Derived.WalkKit
namespace Go.Proofs.YtlpnicfbgdfbnaaDoor
open Go.RowKit

section
variable {F : Fence} {n : Nat} {P : Program} {ops : Array Oper} {Q : Exit → Act → World → Prop}

/-- One operation of the region: what its value and the world behind it must meet. -/
def RStepIn (F : Fence) (n : Nat) (P : Program) (ops : Array Oper) (Q : Exit → Act → World → Prop) (o : Oper) (a : Act) (w : World) (post : Value → World → Prop) : Prop :=
  ∀ K : Act → World → Prop, (∀ v w', post v w' → K (a.put o.dst v) w') →
    if Region.wanted o (yielded ops a.tmps) then o.wpIn F n P a w K Q else (∀ f, o.about P w a.eval = some f → F.fn f) ∧ K (a.put o.dst undef) w

theorem wpAnyIn_sched (ds : List Nat) (hok : schedOk ops ds = true) (base : Array Value) (dfs : List Deferred) (S : (Nat → Bool) → (Nat → Value) → World → Prop)
    (hs : ∀ i o, ops[i]? = some o → ∀ d y w, d i = false → (∀ e ∈ o.after, Region.binds .any e = true → d e.on = true) → S d y w →
      RStepIn F n P ops Q o { tmps := hole base ds y, defers := dfs } w fun v w' => S (fun j => j == i || d j) (updO y o.dst v) w')
    (he : ∀ d y w, (∀ i, i < ops.size → d i = true) → S d y w → Q .normal { tmps := hole base ds y, defers := dfs } w) :
    ∀ (fuel : Nat) (listed : Array Bool) (y : Nat → Value) (w : World), listed.size = ops.size → ((List.range ops.size).filter fun i => !listed.getD i true).length ≤ fuel →
      S (fun i => listed.getD i false) y w → wpAnyIn F n P .any ops Q fuel listed { tmps := hole base ds y, defers := dfs } w := by
  have hready : ∀ listed : Array Bool, listed.size = ops.size → Region.ready .any ops listed = [] → ∀ i, i < ops.size → listed.getD i false = true := by
    intro listed hsz hr
    intro i
    induction i using Nat.strongRecOn with
    | _ i ih =>
      intro hi
      cases hl : listed.getD i false with
      | true => rfl
      | false =>
        exfalso
        have ho : ops[i]? = some ops[i] := Array.getElem?_eq_getElem hi
        have hmem : i ∈ Region.ready .any ops listed := by
          unfold Region.ready
          rw [List.mem_filter]
          refine ⟨List.mem_range.2 hi, ?_⟩
          have h1 : listed.getD i true = false := by
            have hi' : i < listed.size := by omega
            simp only [Array.getD, hi', dite_true] at hl ⊢
            exact hl
          rw [ho]
          simp only [h1, Bool.not_false, Bool.true_and, Option.map_some, Option.getD_some]
          rw [Array.all_eq_true']
          intro e he'
          by_cases hb : Region.binds .any e = true
          · have := schedOk_edge hok ho he' hb
            rw [ih e.on this (by omega)]; simp
          · simp [Bool.eq_false_iff.2 hb]
        rw [hr] at hmem
        cases hmem
  intro fuel
  induction fuel with
  | zero =>
    intro listed y w hsz hcnt hS
    have hall : ∀ i, i < ops.size → listed.getD i false = true := by
      intro i hi
      have hnil := List.length_eq_zero_iff.1 (Nat.le_zero.1 hcnt)
      have := List.filter_eq_nil_iff.1 hnil i (List.mem_range.2 hi)
      have hi' : i < listed.size := by omega
      simp only [Array.getD, hi', dite_true] at this ⊢
      simpa using this
    refine ⟨?_, he _ y w hall hS⟩
    unfold Region.ready
    rw [List.filter_eq_nil_iff]
    intro i hi
    have := hall i (List.mem_range.1 hi)
    have hi' : i < listed.size := by have := List.mem_range.1 hi; omega
    rw [getD_both hi'] at this
    rw [getD_both hi', this]; simp
  | succ fuel ih =>
    intro listed y w hsz hcnt hS
    refine ⟨fun hr => he _ y w (hready listed hsz hr) hS, fun i hi => ?_⟩
    unfold Region.ready at hi
    rw [List.mem_filter] at hi
    obtain ⟨hi1, hi2⟩ := hi
    have hlt := List.mem_range.1 hi1
    have hlt' : i < listed.size := by omega
    have ho : ops[i]? = some ops[i] := Array.getElem?_eq_getElem hlt
    rw [ho] at hi2
    simp only [Option.map_some, Option.getD_some, Bool.and_eq_true, Bool.not_eq_true'] at hi2
    have hf : listed.getD i false = false := by
      have := hi2.1
      simp only [Array.getD, hlt', dite_true] at this ⊢
      exact this
    have hedge : ∀ e ∈ ops[i].after, Region.binds .any e = true → listed.getD e.on false = true := by
      intro e he' hb
      have := Array.all_eq_true'.1 hi2.2 e he'
      simpa [hb] using this
    have st := hs i ops[i] ho (fun i => listed.getD i false) y w hf hedge hS
    unfold wpOpIn
    simp only [ho]
    refine st (wpAnyIn F n P .any ops Q fuel (listed.setIfInBounds i true)) ?_
    intro v w' hS'
    have hput : ({ tmps := hole base ds y, defers := dfs } : Act).put ops[i].dst v = { tmps := hole base ds (updO y ops[i].dst v), defers := dfs } := by
      unfold Act.put updO
      cases hd : ops[i].dst with
      | none => rfl
      | some d => simp only []; rw [hole_put _ _ _ _ _ (schedOk_dst hok ho hd)]
    rw [hput]
    refine ih _ _ _ (by simpa using hsz) ?_ ?_
    · have h1 : ((List.range ops.size).filter fun j => !(listed.setIfInBounds i true).getD j true) = ((List.range ops.size).filter fun j => !listed.getD j true).filter (fun j => !(j == i)) := by
        rw [List.filter_filter]
        refine List.filter_congr fun j hj => ?_
        have hj' : j < listed.size := by have := List.mem_range.1 hj; omega
        by_cases hji : j = i
        · subst hji
          rw [getD_both (by simpa using hj')]
          simp
        · have : (j == i) = false := by simpa using hji
          rw [getD_both (by simpa using hj'), getD_both hj', this, Array.getElem_setIfInBounds_ne (by simpa using hj') (Ne.symm hji)]
          simp
      rw [h1]
      have hmem : i ∈ (List.range ops.size).filter fun j => !listed.getD j true := by
        rw [List.mem_filter]
        exact ⟨hi1, by rw [getD_both hlt'] at hf; rw [getD_both hlt', hf]; rfl⟩
      have : ((List.filter (fun j => !listed.getD j true) (List.range ops.size)).filter (fun j => !(j == i))).length < (List.filter (fun j => !listed.getD j true) (List.range ops.size)).length :=
        List.length_filter_lt_length_iff_exists.2 ⟨i, hmem, by simp⟩
      omega
    · have : (fun j => (listed.setIfInBounds i true).getD j false) = fun j => j == i || listed.getD j false := by
        funext j
        by_cases hji : j = i
        · subst hji; simp [Array.getD, hlt']
        · have h1 : (j == i) = false := by simpa using hji
          rw [h1, Bool.false_or]
          by_cases hj : j < listed.size
          · rw [getD_both (by simpa using hj), getD_both hj, Array.getElem_setIfInBounds_ne (by simpa using hj) (Ne.symm hji)]
          · simp [Array.getD, hj]
      rw [this]
      exact hS'

/-- **THE LAW, IN A FENCE.** -/
theorem wpIn_region_sched {id : Nat} {a : Act} {w : World} (hm : P.follows .mixedOrders = true) (ds : List Nat) (hok : schedOk ops ds = true) (S : (Nat → Bool) → (Nat → Value) → World → Prop)
    (h0 : S (fun _ => false) (fun t => a.tmps.getD t undef) w.drew)
    (hs : ∀ i o, ops[i]? = some o → ∀ d y w, d i = false → (∀ e ∈ o.after, Region.binds .any e = true → d e.on = true) → S d y w →
      RStepIn F n P ops Q o { tmps := hole a.tmps ds y, defers := a.defers } w fun v w' => S (fun j => j == i || d j) (updO y o.dst v) w')
    (he : ∀ d y w, (∀ i, i < ops.size → d i = true) → S d y w → Q .normal { tmps := hole a.tmps ds y, defers := a.defers } w) :
    (Code.region id ops true).wpIn F n P Q a w := by
  refine wpIn_region_any hm ?_
  have hself := hole_self ds a.tmps
  have key := wpAnyIn_sched (F := F) (n := n) (P := P) (Q := Q) ds hok a.tmps a.defers S hs he ops.size (Array.replicate ops.size false) (fun t => a.tmps.getD t undef) w.drew (by simp)
    (Nat.le_trans (List.length_filter_le _ _) (by simp)) (by
      have : (fun i => (Array.replicate ops.size false).getD i false) = fun _ => false := by
        funext i
        simp only [Array.getD, Array.size_replicate]
        split
        · simp
        · rfl
      rw [this]; exact h0)
  rw [hself] at key
  exact key


theorem rstepIn_value {o : Oper} {a : Act} {w w' : World} {v : Value} {post : Value → World → Prop} (hF : ∀ f, F.fn f) (hd : ∀ c, o.op ≠ .defer c) (hg : o.guard = none) (hr : (execOp a.eval o).run P w = .ok (.value v) w') (hp : post v w') : RStepIn F n P ops Q o a w post := by
  intro K hK
  have hw : Region.wanted o (yielded ops a.tmps) = true := by simp [Region.wanted, hg]
  rw [if_pos hw]
  unfold Oper.wpIn
  rw [Oper.semAt_eq _ _ _ hd, hr]
  exact ⟨fun f _ => hF f, hK v w' hp⟩
theorem rstepIn_skip {o : Oper} {a : Act} {w w' : World} {post : Value → World → Prop} (hF : ∀ f, F.fn f) (hd : ∀ c, o.op ≠ .defer c) (hg : o.guard = none) (hr : (execOp a.eval o).run P w = .ok .skip w') (hp : post undef w') : RStepIn F n P ops Q o a w post := by
  intro K hK
  have hw : Region.wanted o (yielded ops a.tmps) = true := by simp [Region.wanted, hg]
  rw [if_pos hw]
  unfold Oper.wpIn
  rw [Oper.semAt_eq _ _ _ hd, hr]
  exact ⟨fun f _ => hF f, hK undef w' hp⟩
theorem rstepIn_call {o : Oper} {a : Act} {w w' : World} {f : FuncId} {args : Array Value} {R : Ending → World → Prop} {post : Value → World → Prop} (hF : ∀ f, F.fn f) (hn : F.depth.isSome = true → 1 ≤ n) (hd : ∀ c, o.op ≠ .defer c) (hg : o.guard = none) (hr : (execOp a.eval o).run P w = .ok (.enter f args) w')
    (hc : CallsIn F (n - 1) P f args w' R) (hp : ∀ e w'', R e w'' → ∃ v, e = .returned v ∧ post v w'') : RStepIn F n P ops Q o a w post := by
  intro K hK
  have hw : Region.wanted o (yielded ops a.tmps) = true := by simp [Region.wanted, hg]
  rw [if_pos hw]
  unfold Oper.wpIn
  rw [Oper.semAt_eq _ _ _ hd, hr]
  refine ⟨fun f _ => hF f, hn, CallsIn.mono hc fun e w'' hR => ?_⟩
  obtain ⟨v, rfl, hv⟩ := hp e w'' hR
  exact hK v w'' hv
end
end Go.Proofs.YtlpnicfbgdfbnaaDoor
