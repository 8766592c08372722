/- A2: Sched, SchedI, Nu, Bp, Bd, Eq, Rk of the seat's texts, in this order. -/
import Derived.Orders
import Derived.Deep.RegionWith
import Derived.OrdersIn
import Derived.AtR
import Derived.WalkKit
import Derived.Test.YtlpnicfbgdfbnaaDoorA1
import Derived.Lib.BufferWrite
import Derived.Deep.DeepCutAuto
import Derived.Deep.CutBlock
import Derived.StillTailTactics
import Derived.Deep.RegionHeld3
import Derived.Shelf.RegionOpen
import Derived.BigQuiet
import Derived.Deep.QuietTactic

/- A REGION THAT DRAWS ITS ORDER, BY ONE GOAL AN OPERATION: what has been done is a predicate on the set of operations done, the slots written and the world. -/
namespace Go.Proofs.YtlpnicfbgdfbnaaDoor

/-- The frame whose slots ds hold y. -/
def hole (base : Array Value) (ds : List Nat) (y : Nat → Value) : Array Value := ds.foldl (fun t d => t.setIfInBounds d (y d)) base
def upd (y : Nat → Value) (d : Nat) (v : Value) : Nat → Value := fun t => if t = d then v else y t
def updO (y : Nat → Value) (d : Option Nat) (v : Value) : Nat → Value := match d with | some t => upd y t v | none => y

theorem hole_get (ds : List Nat) (y : Nat → Value) : ∀ (base : Array Value) (i : Nat), (hole base ds y)[i]? = if i ∈ ds then (if i < base.size then some (y i) else none) else base[i]? := by
  induction ds with
  | nil => intro base i; simp [hole]
  | cons d ds ih =>
    intro base i
    have := ih (base.setIfInBounds d (y d)) i
    unfold hole at this ⊢
    rw [List.foldl_cons, this]
    by_cases h : i ∈ ds
    · simp [h]
    · by_cases hd : i = d
      · subst hd
        simp [h, Array.getElem?_setIfInBounds]
      · simp [h, hd, Ne.symm hd]

theorem hole_put (base : Array Value) (ds : List Nat) (y : Nat → Value) (d : Nat) (v : Value) (hd : d ∈ ds) : (hole base ds y).setIfInBounds d v = hole base ds (upd y d v) := by
  refine Array.ext_getElem? fun i => ?_
  rw [Array.getElem?_setIfInBounds, hole_get, hole_get]
  have hs : (hole base ds y).size = base.size := by
    have : ∀ (ds : List Nat) (b : Array Value), (hole b ds y).size = b.size := by
      intro ds
      induction ds with
      | nil => intro b; rfl
      | cons e es ih => intro b; unfold hole at ih ⊢; rw [List.foldl_cons, ih]; simp
    exact this ds base
  by_cases h : d = i
  · subst h
    simp [hd, hs, upd]
  · have : (upd y d v) i = y i := by simp [upd, Ne.symm h]
    simp [h, this]

theorem hole_self (ds : List Nat) : ∀ (base : Array Value) , hole base ds (fun t => base.getD t undef) = base := by
  intro base
  refine Array.ext_getElem? fun i => ?_
  rw [hole_get]
  by_cases h : i ∈ ds
  · rw [if_pos h]
    by_cases hi : i < base.size
    · simp [hi]
    · simp [hi]
  · rw [if_neg h]

section
variable {P : Program} {ops : Array Oper} {Q : Exit → Act → World → Prop}

/-- One operation of the region: what its value and the world behind it must meet. -/
def RStep (P : Program) (ops : Array Oper) (Q : Exit → Act → World → Prop) (o : Oper) (a : Act) (w : World) (post : Value → World → Prop) : Prop :=
  ∀ K : Act → World → Prop, (∀ v w', post v w' → K (a.put o.dst v) w') →
    if Region.wanted o (yielded ops a.tmps) then o.wp P a w K Q ∨ (o.asks P a w ∧ LetsOut Q) else K (a.put o.dst undef) w

theorem RStep.mono {o : Oper} {a : Act} {w : World} {p q : Value → World → Prop} (h : RStep P ops Q o a w p) (hpq : ∀ v w', p v w' → q v w') : RStep P ops Q o a w q :=
  fun K hK => h K fun v w' hp => hK v w' (hpq v w' hp)

/-- A slot's list, and that the edges lead backward. -/
def schedOk (ops : Array Oper) (ds : List Nat) : Bool :=
  ops.zipIdx.toList.all fun p => (match p.1.dst with | some d => ds.contains d | none => true) && p.1.after.all fun e => !Region.binds .any e || decide (e.on < p.2)

theorem schedOk_dst {ds : List Nat} (h : schedOk ops ds = true) {i : Nat} {o : Oper} (ho : ops[i]? = some o) {d : Nat} (hd : o.dst = some d) : d ∈ ds := by
  have := List.all_eq_true.1 h (o, i) (by
    rw [Array.mem_toList_iff, Array.mem_zipIdx_iff_getElem?]; exact ho)
  simp only [Bool.and_eq_true, hd] at this
  simpa using this.1
theorem schedOk_edge {ds : List Nat} (h : schedOk ops ds = true) {i : Nat} {o : Oper} (ho : ops[i]? = some o) {e : Edge} (he : e ∈ o.after) (hb : Region.binds .any e = true) : e.on < i := by
  have := List.all_eq_true.1 h (o, i) (by
    rw [Array.mem_toList_iff, Array.mem_zipIdx_iff_getElem?]; exact ho)
  simp only [Bool.and_eq_true] at this
  have h2 := Array.all_eq_true'.1 this.2 e he
  simpa [hb] using h2

theorem getD_both {l : Array Bool} {i : Nat} (h : i < l.size) (b : Bool) : l.getD i b = l[i] := by simp [Array.getD, h]

theorem wpAny_sched (ds : List Nat) (hok : schedOk ops ds = true) (base : Array Value) (dfs : List Deferred) (S : (Nat → Bool) → (Nat → Value) → World → Prop)
    (hs : ∀ i o, ops[i]? = some o → ∀ d y w, d i = false → (∀ e ∈ o.after, Region.binds .any e = true → d e.on = true) → S d y w →
      RStep P ops Q o { tmps := hole base ds y, defers := dfs } w fun v w' => S (fun j => j == i || d j) (updO y o.dst v) w')
    (he : ∀ d y w, (∀ i, i < ops.size → d i = true) → S d y w → Q .normal { tmps := hole base ds y, defers := dfs } w) :
    ∀ (fuel : Nat) (listed : Array Bool) (y : Nat → Value) (w : World), listed.size = ops.size → ((List.range ops.size).filter fun i => !listed.getD i true).length ≤ fuel →
      S (fun i => listed.getD i false) y w → wpAny P .any ops Q fuel listed { tmps := hole base ds y, defers := dfs } w := by
  have hready : ∀ listed : Array Bool, listed.size = ops.size → Region.ready .any ops listed = [] → ∀ i, i < ops.size → listed.getD i false = true := by
    intro listed hsz hr
    intro i
    induction i using Nat.strongRecOn with
    | _ i ih =>
      intro hi
      cases hl : listed.getD i false with
      | true => rfl
      | false =>
        exfalso
        have ho : ops[i]? = some ops[i] := Array.getElem?_eq_getElem hi
        have hmem : i ∈ Region.ready .any ops listed := by
          unfold Region.ready
          rw [List.mem_filter]
          refine ⟨List.mem_range.2 hi, ?_⟩
          have h1 : listed.getD i true = false := by
            have hi' : i < listed.size := by omega
            simp only [Array.getD, hi', dite_true] at hl ⊢
            exact hl
          rw [ho]
          simp only [h1, Bool.not_false, Bool.true_and, Option.map_some, Option.getD_some]
          rw [Array.all_eq_true']
          intro e he'
          by_cases hb : Region.binds .any e = true
          · have := schedOk_edge hok ho he' hb
            rw [ih e.on this (by omega)]; simp
          · simp [Bool.eq_false_iff.2 hb]
        rw [hr] at hmem
        cases hmem
  intro fuel
  induction fuel with
  | zero =>
    intro listed y w hsz hcnt hS
    have hall : ∀ i, i < ops.size → listed.getD i false = true := by
      intro i hi
      have hnil := List.length_eq_zero_iff.1 (Nat.le_zero.1 hcnt)
      have := List.filter_eq_nil_iff.1 hnil i (List.mem_range.2 hi)
      have hi' : i < listed.size := by omega
      simp only [Array.getD, hi', dite_true] at this ⊢
      simpa using this
    refine ⟨?_, he _ y w hall hS⟩
    unfold Region.ready
    rw [List.filter_eq_nil_iff]
    intro i hi
    have := hall i (List.mem_range.1 hi)
    have hi' : i < listed.size := by have := List.mem_range.1 hi; omega
    rw [getD_both hi'] at this
    rw [getD_both hi', this]; simp
  | succ fuel ih =>
    intro listed y w hsz hcnt hS
    refine ⟨fun hr => he _ y w (hready listed hsz hr) hS, fun i hi => ?_⟩
    unfold Region.ready at hi
    rw [List.mem_filter] at hi
    obtain ⟨hi1, hi2⟩ := hi
    have hlt := List.mem_range.1 hi1
    have hlt' : i < listed.size := by omega
    have ho : ops[i]? = some ops[i] := Array.getElem?_eq_getElem hlt
    rw [ho] at hi2
    simp only [Option.map_some, Option.getD_some, Bool.and_eq_true, Bool.not_eq_true'] at hi2
    have hf : listed.getD i false = false := by
      have := hi2.1
      simp only [Array.getD, hlt', dite_true] at this ⊢
      exact this
    have hedge : ∀ e ∈ ops[i].after, Region.binds .any e = true → listed.getD e.on false = true := by
      intro e he' hb
      have := Array.all_eq_true'.1 hi2.2 e he'
      simpa [hb] using this
    have st := hs i ops[i] ho (fun i => listed.getD i false) y w hf hedge hS
    unfold wpOp
    simp only [ho]
    refine st (wpAny P .any ops Q fuel (listed.setIfInBounds i true)) ?_
    intro v w' hS'
    have hput : ({ tmps := hole base ds y, defers := dfs } : Act).put ops[i].dst v = { tmps := hole base ds (updO y ops[i].dst v), defers := dfs } := by
      unfold Act.put updO
      cases hd : ops[i].dst with
      | none => rfl
      | some d => simp only []; rw [hole_put _ _ _ _ _ (schedOk_dst hok ho hd)]
    rw [hput]
    refine ih _ _ _ (by simpa using hsz) ?_ ?_
    · have h1 : ((List.range ops.size).filter fun j => !(listed.setIfInBounds i true).getD j true) = ((List.range ops.size).filter fun j => !listed.getD j true).filter (fun j => !(j == i)) := by
        rw [List.filter_filter]
        refine List.filter_congr fun j hj => ?_
        have hj' : j < listed.size := by have := List.mem_range.1 hj; omega
        by_cases hji : j = i
        · subst hji
          rw [getD_both (by simpa using hj')]
          simp
        · have : (j == i) = false := by simpa using hji
          rw [getD_both (by simpa using hj'), getD_both hj', this, Array.getElem_setIfInBounds_ne (by simpa using hj') (Ne.symm hji)]
          simp
      rw [h1]
      have hmem : i ∈ (List.range ops.size).filter fun j => !listed.getD j true := by
        rw [List.mem_filter]
        exact ⟨hi1, by rw [getD_both hlt'] at hf; rw [getD_both hlt', hf]; rfl⟩
      have : ((List.filter (fun j => !listed.getD j true) (List.range ops.size)).filter (fun j => !(j == i))).length < (List.filter (fun j => !listed.getD j true) (List.range ops.size)).length :=
        List.length_filter_lt_length_iff_exists.2 ⟨i, hmem, by simp⟩
      omega
    · have : (fun j => (listed.setIfInBounds i true).getD j false) = fun j => j == i || listed.getD j false := by
        funext j
        by_cases hji : j = i
        · subst hji; simp [Array.getD, hlt']
        · have h1 : (j == i) = false := by simpa using hji
          rw [h1, Bool.false_or]
          by_cases hj : j < listed.size
          · rw [getD_both (by simpa using hj), getD_both hj, Array.getElem_setIfInBounds_ne (by simpa using hj) (Ne.symm hji)]
          · simp [Array.getD, hj]
      rw [this]
      exact hS'

/-- **THE LAW.** -/
theorem wp_region_sched {id : Nat} {a : Act} {w : World} (hm : P.follows .mixedOrders = true) (ds : List Nat) (hok : schedOk ops ds = true) (S : (Nat → Bool) → (Nat → Value) → World → Prop)
    (h0 : S (fun _ => false) (fun t => a.tmps.getD t undef) w.drew)
    (hs : ∀ i o, ops[i]? = some o → ∀ d y w, d i = false → (∀ e ∈ o.after, Region.binds .any e = true → d e.on = true) → S d y w →
      RStep P ops Q o { tmps := hole a.tmps ds y, defers := a.defers } w fun v w' => S (fun j => j == i || d j) (updO y o.dst v) w')
    (he : ∀ d y w, (∀ i, i < ops.size → d i = true) → S d y w → Q .normal { tmps := hole a.tmps ds y, defers := a.defers } w) :
    (Code.region id ops true).wp P Q a w := by
  refine wp_region_any hm ?_
  have hself := hole_self ds a.tmps
  have key := wpAny_sched (P := P) (Q := Q) ds hok a.tmps a.defers S hs he ops.size (Array.replicate ops.size false) (fun t => a.tmps.getD t undef) w.drew (by simp)
    (Nat.le_trans (List.length_filter_le _ _) (by simp)) (by
      have : (fun i => (Array.replicate ops.size false).getD i false) = fun _ => false := by
        funext i
        simp only [Array.getD, Array.size_replicate]
        split
        · simp
        · rfl
      rw [this]; exact h0)
  rw [hself] at key
  exact key

/-! ### What one operation does -/
theorem rstep_value {o : Oper} {a : Act} {w w' : World} {v : Value} {post : Value → World → Prop} (hg : o.guard = none) (hr : (execOp a.eval o).run P w = .ok (.value v) w') (hp : post v w') : RStep P ops Q o a w post := by
  intro K hK
  have hw : Region.wanted o (yielded ops a.tmps) = true := by simp [Region.wanted, hg]
  rw [if_pos hw]
  refine .inl ?_
  unfold Oper.wp
  rw [hr]
  exact hK v w' hp
theorem rstep_skip {o : Oper} {a : Act} {w w' : World} {post : Value → World → Prop} (hg : o.guard = none) (hr : (execOp a.eval o).run P w = .ok .skip w') (hp : post undef w') : RStep P ops Q o a w post := by
  intro K hK
  have hw : Region.wanted o (yielded ops a.tmps) = true := by simp [Region.wanted, hg]
  rw [if_pos hw]
  refine .inl ?_
  unfold Oper.wp
  rw [hr]
  exact hK undef w' hp
theorem rstep_call {o : Oper} {a : Act} {w w' : World} {f : FuncId} {args : Array Value} {R : Ending → World → Prop} {post : Value → World → Prop} (hg : o.guard = none) (hr : (execOp a.eval o).run P w = .ok (.enter f args) w')
    (hc : Calls P f args w' R) (hp : ∀ e w'', R e w'' → ∃ v, e = .returned v ∧ post v w'') : RStep P ops Q o a w post := by
  intro K hK
  have hw : Region.wanted o (yielded ops a.tmps) = true := by simp [Region.wanted, hg]
  rw [if_pos hw]
  refine .inl ?_
  unfold Oper.wp
  rw [hr]
  refine Calls.mono hc fun e w'' hR => ?_
  obtain ⟨v, rfl, hv⟩ := hp e w'' hR
  exact hK v w'' hv
end
end Go.Proofs.YtlpnicfbgdfbnaaDoor

/- The law of Sched in a fence. -/
namespace Go.Proofs.YtlpnicfbgdfbnaaDoor
open Go.RowKit

section
variable {F : Fence} {n : Nat} {P : Program} {ops : Array Oper} {Q : Exit → Act → World → Prop}

/-- One operation of the region: what its value and the world behind it must meet. -/
def RStepIn (F : Fence) (n : Nat) (P : Program) (ops : Array Oper) (Q : Exit → Act → World → Prop) (o : Oper) (a : Act) (w : World) (post : Value → World → Prop) : Prop :=
  ∀ K : Act → World → Prop, (∀ v w', post v w' → K (a.put o.dst v) w') →
    if Region.wanted o (yielded ops a.tmps) then o.wpIn F n P a w K Q else (∀ f, o.about P w a.eval = some f → F.fn f) ∧ K (a.put o.dst undef) w

theorem wpAnyIn_sched (ds : List Nat) (hok : schedOk ops ds = true) (base : Array Value) (dfs : List Deferred) (S : (Nat → Bool) → (Nat → Value) → World → Prop)
    (hs : ∀ i o, ops[i]? = some o → ∀ d y w, d i = false → (∀ e ∈ o.after, Region.binds .any e = true → d e.on = true) → S d y w →
      RStepIn F n P ops Q o { tmps := hole base ds y, defers := dfs } w fun v w' => S (fun j => j == i || d j) (updO y o.dst v) w')
    (he : ∀ d y w, (∀ i, i < ops.size → d i = true) → S d y w → Q .normal { tmps := hole base ds y, defers := dfs } w) :
    ∀ (fuel : Nat) (listed : Array Bool) (y : Nat → Value) (w : World), listed.size = ops.size → ((List.range ops.size).filter fun i => !listed.getD i true).length ≤ fuel →
      S (fun i => listed.getD i false) y w → wpAnyIn F n P .any ops Q fuel listed { tmps := hole base ds y, defers := dfs } w := by
  have hready : ∀ listed : Array Bool, listed.size = ops.size → Region.ready .any ops listed = [] → ∀ i, i < ops.size → listed.getD i false = true := by
    intro listed hsz hr
    intro i
    induction i using Nat.strongRecOn with
    | _ i ih =>
      intro hi
      cases hl : listed.getD i false with
      | true => rfl
      | false =>
        exfalso
        have ho : ops[i]? = some ops[i] := Array.getElem?_eq_getElem hi
        have hmem : i ∈ Region.ready .any ops listed := by
          unfold Region.ready
          rw [List.mem_filter]
          refine ⟨List.mem_range.2 hi, ?_⟩
          have h1 : listed.getD i true = false := by
            have hi' : i < listed.size := by omega
            simp only [Array.getD, hi', dite_true] at hl ⊢
            exact hl
          rw [ho]
          simp only [h1, Bool.not_false, Bool.true_and, Option.map_some, Option.getD_some]
          rw [Array.all_eq_true']
          intro e he'
          by_cases hb : Region.binds .any e = true
          · have := schedOk_edge hok ho he' hb
            rw [ih e.on this (by omega)]; simp
          · simp [Bool.eq_false_iff.2 hb]
        rw [hr] at hmem
        cases hmem
  intro fuel
  induction fuel with
  | zero =>
    intro listed y w hsz hcnt hS
    have hall : ∀ i, i < ops.size → listed.getD i false = true := by
      intro i hi
      have hnil := List.length_eq_zero_iff.1 (Nat.le_zero.1 hcnt)
      have := List.filter_eq_nil_iff.1 hnil i (List.mem_range.2 hi)
      have hi' : i < listed.size := by omega
      simp only [Array.getD, hi', dite_true] at this ⊢
      simpa using this
    refine ⟨?_, he _ y w hall hS⟩
    unfold Region.ready
    rw [List.filter_eq_nil_iff]
    intro i hi
    have := hall i (List.mem_range.1 hi)
    have hi' : i < listed.size := by have := List.mem_range.1 hi; omega
    rw [getD_both hi'] at this
    rw [getD_both hi', this]; simp
  | succ fuel ih =>
    intro listed y w hsz hcnt hS
    refine ⟨fun hr => he _ y w (hready listed hsz hr) hS, fun i hi => ?_⟩
    unfold Region.ready at hi
    rw [List.mem_filter] at hi
    obtain ⟨hi1, hi2⟩ := hi
    have hlt := List.mem_range.1 hi1
    have hlt' : i < listed.size := by omega
    have ho : ops[i]? = some ops[i] := Array.getElem?_eq_getElem hlt
    rw [ho] at hi2
    simp only [Option.map_some, Option.getD_some, Bool.and_eq_true, Bool.not_eq_true'] at hi2
    have hf : listed.getD i false = false := by
      have := hi2.1
      simp only [Array.getD, hlt', dite_true] at this ⊢
      exact this
    have hedge : ∀ e ∈ ops[i].after, Region.binds .any e = true → listed.getD e.on false = true := by
      intro e he' hb
      have := Array.all_eq_true'.1 hi2.2 e he'
      simpa [hb] using this
    have st := hs i ops[i] ho (fun i => listed.getD i false) y w hf hedge hS
    unfold wpOpIn
    simp only [ho]
    refine st (wpAnyIn F n P .any ops Q fuel (listed.setIfInBounds i true)) ?_
    intro v w' hS'
    have hput : ({ tmps := hole base ds y, defers := dfs } : Act).put ops[i].dst v = { tmps := hole base ds (updO y ops[i].dst v), defers := dfs } := by
      unfold Act.put updO
      cases hd : ops[i].dst with
      | none => rfl
      | some d => simp only []; rw [hole_put _ _ _ _ _ (schedOk_dst hok ho hd)]
    rw [hput]
    refine ih _ _ _ (by simpa using hsz) ?_ ?_
    · have h1 : ((List.range ops.size).filter fun j => !(listed.setIfInBounds i true).getD j true) = ((List.range ops.size).filter fun j => !listed.getD j true).filter (fun j => !(j == i)) := by
        rw [List.filter_filter]
        refine List.filter_congr fun j hj => ?_
        have hj' : j < listed.size := by have := List.mem_range.1 hj; omega
        by_cases hji : j = i
        · subst hji
          rw [getD_both (by simpa using hj')]
          simp
        · have : (j == i) = false := by simpa using hji
          rw [getD_both (by simpa using hj'), getD_both hj', this, Array.getElem_setIfInBounds_ne (by simpa using hj') (Ne.symm hji)]
          simp
      rw [h1]
      have hmem : i ∈ (List.range ops.size).filter fun j => !listed.getD j true := by
        rw [List.mem_filter]
        exact ⟨hi1, by rw [getD_both hlt'] at hf; rw [getD_both hlt', hf]; rfl⟩
      have : ((List.filter (fun j => !listed.getD j true) (List.range ops.size)).filter (fun j => !(j == i))).length < (List.filter (fun j => !listed.getD j true) (List.range ops.size)).length :=
        List.length_filter_lt_length_iff_exists.2 ⟨i, hmem, by simp⟩
      omega
    · have : (fun j => (listed.setIfInBounds i true).getD j false) = fun j => j == i || listed.getD j false := by
        funext j
        by_cases hji : j = i
        · subst hji; simp [Array.getD, hlt']
        · have h1 : (j == i) = false := by simpa using hji
          rw [h1, Bool.false_or]
          by_cases hj : j < listed.size
          · rw [getD_both (by simpa using hj), getD_both hj, Array.getElem_setIfInBounds_ne (by simpa using hj) (Ne.symm hji)]
          · simp [Array.getD, hj]
      rw [this]
      exact hS'

/-- **THE LAW, IN A FENCE.** -/
theorem wpIn_region_sched {id : Nat} {a : Act} {w : World} (hm : P.follows .mixedOrders = true) (ds : List Nat) (hok : schedOk ops ds = true) (S : (Nat → Bool) → (Nat → Value) → World → Prop)
    (h0 : S (fun _ => false) (fun t => a.tmps.getD t undef) w.drew)
    (hs : ∀ i o, ops[i]? = some o → ∀ d y w, d i = false → (∀ e ∈ o.after, Region.binds .any e = true → d e.on = true) → S d y w →
      RStepIn F n P ops Q o { tmps := hole a.tmps ds y, defers := a.defers } w fun v w' => S (fun j => j == i || d j) (updO y o.dst v) w')
    (he : ∀ d y w, (∀ i, i < ops.size → d i = true) → S d y w → Q .normal { tmps := hole a.tmps ds y, defers := a.defers } w) :
    (Code.region id ops true).wpIn F n P Q a w := by
  refine wpIn_region_any hm ?_
  have hself := hole_self ds a.tmps
  have key := wpAnyIn_sched (F := F) (n := n) (P := P) (Q := Q) ds hok a.tmps a.defers S hs he ops.size (Array.replicate ops.size false) (fun t => a.tmps.getD t undef) w.drew (by simp)
    (Nat.le_trans (List.length_filter_le _ _) (by simp)) (by
      have : (fun i => (Array.replicate ops.size false).getD i false) = fun _ => false := by
        funext i
        simp only [Array.getD, Array.size_replicate]
        split
        · simp
        · rfl
      rw [this]; exact h0)
  rw [hself] at key
  exact key


theorem rstepIn_value {o : Oper} {a : Act} {w w' : World} {v : Value} {post : Value → World → Prop} (hF : ∀ f, F.fn f) (hd : ∀ c, o.op ≠ .defer c) (hg : o.guard = none) (hr : (execOp a.eval o).run P w = .ok (.value v) w') (hp : post v w') : RStepIn F n P ops Q o a w post := by
  intro K hK
  have hw : Region.wanted o (yielded ops a.tmps) = true := by simp [Region.wanted, hg]
  rw [if_pos hw]
  unfold Oper.wpIn
  rw [Oper.semAt_eq _ _ _ hd, hr]
  exact ⟨fun f _ => hF f, hK v w' hp⟩
theorem rstepIn_skip {o : Oper} {a : Act} {w w' : World} {post : Value → World → Prop} (hF : ∀ f, F.fn f) (hd : ∀ c, o.op ≠ .defer c) (hg : o.guard = none) (hr : (execOp a.eval o).run P w = .ok .skip w') (hp : post undef w') : RStepIn F n P ops Q o a w post := by
  intro K hK
  have hw : Region.wanted o (yielded ops a.tmps) = true := by simp [Region.wanted, hg]
  rw [if_pos hw]
  unfold Oper.wpIn
  rw [Oper.semAt_eq _ _ _ hd, hr]
  exact ⟨fun f _ => hF f, hK undef w' hp⟩
theorem rstepIn_call {o : Oper} {a : Act} {w w' : World} {f : FuncId} {args : Array Value} {R : Ending → World → Prop} {post : Value → World → Prop} (hF : ∀ f, F.fn f) (hn : F.depth.isSome = true → 1 ≤ n) (hd : ∀ c, o.op ≠ .defer c) (hg : o.guard = none) (hr : (execOp a.eval o).run P w = .ok (.enter f args) w')
    (hc : CallsIn F (n - 1) P f args w' R) (hp : ∀ e w'', R e w'' → ∃ v, e = .returned v ∧ post v w'') : RStepIn F n P ops Q o a w post := by
  intro K hK
  have hw : Region.wanted o (yielded ops a.tmps) = true := by simp [Region.wanted, hg]
  rw [if_pos hw]
  unfold Oper.wpIn
  rw [Oper.semAt_eq _ _ _ hd, hr]
  refine ⟨fun f _ => hF f, hn, CallsIn.mono hc fun e w'' hR => ?_⟩
  obtain ⟨v, rfl, hv⟩ := hp e w'' hR
  exact hK v w'' hv
end
end Go.Proofs.YtlpnicfbgdfbnaaDoor

/- (rooks.board).numbers. -/
namespace Go.Proofs.YtlpnicfbgdfbnaaDoor
open Go.RowKit Go.Shelf
attribute [local go_sem] Oper.semAt_some

theorem info47 : (Tryd.prog.info? 47).map (fun i => (i.zero, i.size, i.bytes)) = some (some (.slice none 0 0), 1, 24) := by kernel_rfl

def NumPost (bs : List Nat) (used : Nat) (w : World) (e : Ending) (w' : World) : Prop :=
  ∃ v', e = .returned v' ∧ OwnI 3 w.heap.size w' v' (toI (numL bs used)) ∧ Below w.heap.size w w'

set_option maxHeartbeats 1000000 in
theorem numbers_nil (v : Value) (used : Nat) (w : World) (hv : Ints w v (toI [])) :
    Calls Tryd.prog 47 #[v, .int .i64 used] w (NumPost [] used w) := by
  obtain ⟨a, c, rfl, hlen, hcl, hc⟩ := hv.openN
  clear hc hv
  refine calls_marks Tryd.func47 rfl ?_
  simp only [Tryd.ntmps47, List.size_toArray, List.length_cons, List.length_nil, Nat.reduceAdd, Nat.reduceSub, Array.replicate_succ, Array.replicate_zero, List.push_toArray, List.append_toArray, List.nil_append, List.cons_append]
  go_wp2
  refine leaves_none (results_tmp rfl _ _ _) ?_
  refine ⟨_, rfl, ?_, ?_⟩
  · have := own_fresh (B := w.heap.size) ((w.alloc (Obj.cells #[Value.slice a 0 c] 47)).alloc (Obj.cells #[Value.int IntKind.i64 ↑used] 3)) 3 [1] (by simp; omega) (by decide)
    simp only [World.size_alloc] at this
    exact this
  · exact (((Below.refl _ _).alloc (by simp) _).alloc (by simp) _).alloc (by simp; omega) _


theorem diffS_lt {r u : Nat} (hr : r < 64) (hu : u < 64) : diffS r u < 64 := by
  have : diffS r u < 2 ^ 6 := Nat.xor_lt_two_pow (by omega) (Nat.and_lt_two_pow _ (by omega))
  omega
theorem or_w {u j : Nat} (hu : u < 64) (hj : j < 6) : bits BinOp.or IntKind.i64 (u : Int) ((2 : Int) ^ j) = ((u ||| 2 ^ j : Nat) : Int) := by
  have h2 : 2 ^ j ≤ 2 ^ 5 := Nat.pow_le_pow_right (by decide) (by omega)
  have : ((2 : Int) ^ j) = ((2 ^ j : Nat) : Int) := by simp
  rw [this, i64_or u (2 ^ j) (by omega) (by omega)]
theorem or_lt {u j : Nat} (hu : u < 64) (hj : j < 6) : u ||| 2 ^ j < 64 := by
  have h2 : 2 ^ j < 2 ^ 6 := Nat.pow_lt_pow_right (by decide) hj
  have : u ||| 2 ^ j < 2 ^ 6 := Nat.or_lt_two_pow (by omega) h2
  omega

/-- What has been done of 'out := append(b[1:].numbers(used), 0)'. -/
structure N3 (W2 : World) (v0 vt : Value) (used : Nat) (L : List Nat) (d : Nat → Bool) (y : Nat → Value) (wx : World) : Prop where
  hb : Below W2.heap.size W2 wx
  h13 : d 0 = true → y 13 = v0
  h14 : d 1 = true → y 14 = vt
  h15 : d 2 = true → y 15 = .int .i64 used
  h16 : d 3 = true → d 5 = false → OwnI 3 W2.heap.size wx (y 16) (toI L)
  h17 : d 4 = true → d 5 = false → ∃ g, y 17 = .slice (some ⟨g, 0, none⟩) 1 1 ∧ Boxed wx g 3 (.int .i64 0)
  h18 : d 5 = true → OwnI 3 W2.heap.size wx (y 18) (toI (L ++ [0]))
  h7 : d 7 = true → d 5 = true ∧ d 6 = true
  h5 : d 6 = true → ∃ B5, y 5 = .pointer (some ⟨B5, 0, none⟩) ∧ W2.heap.size ≤ B5 ∧ ∃ vo, Boxed wx B5 22 vo ∧ (d 7 = true → vo = y 18)

/-- What has been done of 'range b[1:].numbers(used | 1<<j)'. -/
structure N6 (W : World) (v0 vt : Value) (used j : Nat) (L : List Nat) (d : Nat → Bool) (y : Nat → Value) (wx : World) : Prop where
  hb : Below W.heap.size W wx
  h26 : d 0 = true → y 26 = v0
  h27 : d 1 = true → y 27 = vt
  h28 : d 2 = true → y 28 = .int .i64 (used : Int)
  h29 : d 3 = true → y 29 = .int .i64 (j : Int)
  h30 : d 4 = true → y 30 = .int .i64 ((2 : Int) ^ j)
  h31 : d 5 = true → y 31 = .int .i64 ((used ||| 2 ^ j : Nat) : Int)
  h32 : d 6 = true → OwnI 3 W.heap.size wx (y 32) (toI L)
  h33 : d 7 = true → y 33 = .int .i64 (L.length : Int)
  h34 : d 8 = true → y 34 = .int .i64 0

theorem IsBufferSet (w : World) (b i : Nat) (v : Value) : w.grownBy (w.setCell ⟨b, i, none⟩ v) (some b) := Go.Lib.grownBy_setCell w b i v
theorem boxed_at {b b' : Nat} {t : TypeId} {w : World} {v : Value} (h : Boxed w b t v) (hne : b ≠ b') (i : Nat) (u : Value) : Boxed (w.setCell ⟨b', i, none⟩ u) b t v := h.kept (IsBufferSet w b' i u) (fun e => hne (by cases e; rfl))
theorem boxN_at {b b' s : Nat} {w : World} (h : BoxN w b s) (hne : b ≠ b') (i : Nat) (u : Value) : BoxN (w.setCell ⟨b', i, none⟩ u) b s := (Below.heap_setCell w ⟨b', i, none⟩ u b hne).trans h
theorem ownI_at {e : TypeId} {B b : Nat} {w : World} {v : Value} {xs : List Int} (h : OwnI e B w v xs) (hne : some b ≠ v.ownBlock) (i : Nat) (u : Value) : OwnI e B (w.setCell ⟨b, i, none⟩ u) v xs :=
  World.ownsRow.kept h (IsBufferSet w b i u) (.inr (fun e' => hne e'.symm))

set_option maxRecDepth 100000 in
set_option maxHeartbeats 4000000 in
theorem numbers_cons (v : Value) (r : Nat) (rs : List Nat) (used : Nat) (w : World) (hv : Ints w v (toI (r :: rs))) (hr : r < 64) (hu : used < 64) (h6 : rs.length < 6) (ht : Tab w)
    (ih : ∀ (used : Nat) (v : Value) (w : World), used < 64 → Ints w v (toI rs) → Tab w → Calls Tryd.prog 47 #[v, .int .i64 used] w (NumPost rs used w)) :
    Calls Tryd.prog 47 #[v, .int .i64 used] w (NumPost (r :: rs) used w) := by
  obtain ⟨a, c, rfl, hlen, hcl, hc⟩ := hv.openN
  obtain ⟨b, off, rfl, hbl, hcell⟩ := hc (by simp)
  have hvt := ints_tail hv
  clear hc hv
  obtain ⟨adt, hadt⟩ : ∃ adt : Option Addr, (if c = 1 then some ⟨b, off, none⟩ else some ⟨b, off + 1, none⟩) = adt := ⟨_, rfl⟩
  rw [hadt] at hvt
  have hc0 := hcell 0 (by simp)
  clear hcell
  have IH := Lib.hid ih; clear ih
  have HT := Lib.hid ht; clear ht
  have HVT := Lib.hid hvt; clear hvt
  have hcap : rs.length + 1 ≤ c := by simpa using hcl
  refine calls_marks Tryd.func47 rfl ?_
  simp only [Tryd.ntmps47, List.size_toArray, List.length_cons, List.length_nil, Nat.reduceAdd, Nat.reduceSub, Array.replicate_succ, Array.replicate_zero, List.push_toArray, List.append_toArray, List.nil_append, List.cons_append]
  go_upto_region 3 with (fail)
  obtain ⟨W2, hW2⟩ : ∃ W2, (w.alloc (Obj.cells #[Value.slice (some ⟨b, off, none⟩) (rs.length + 1) c] 47)).alloc (Obj.cells #[Value.int IntKind.i64 ↑used] 3) = W2 := ⟨_, rfl⟩
  rw [hW2]
  have hb2 : Below w.heap.size w W2 := by rw [← hW2]; exact ((Below.refl _ _).alloc (Nat.le_refl _) _).alloc (by simp) _
  have hs2 : W2.heap.size = w.heap.size + 2 := by rw [← hW2]; simp
  have hx2 : Boxed W2 w.heap.size 47 (Value.slice (some ⟨b, off, none⟩) (rs.length + 1) c) := by rw [← hW2]; exact (Boxed.new _ _ _).alloc _
  have hx3 : Boxed W2 (w.heap.size + 1) 3 (Value.int IntKind.i64 ↑used) := by rw [← hW2]; have := Boxed.new (w.alloc (Obj.cells #[Value.slice (some ⟨b, off, none⟩) (rs.length + 1) c] 47)) 3 (Value.int IntKind.i64 ↑used); rwa [World.size_alloc] at this
  clear hW2
  have KI := Lib.hid (show ∀ wx, Below W2.heap.size W2 wx → Ints wx (.slice adt rs.length (c - 1)) (toI rs) from fun wx hb => (HVT.out.below hb2).below hb)
  have KT := Lib.hid (show ∀ wx, Below W2.heap.size W2 wx → Tab wx from fun wx hb => (HT.out.below hb2).below hb)
  have KS := Lib.hid (show ∀ wx, Below W2.heap.size W2 wx → wx.cell? ⟨w.heap.size, 0, none⟩ = some (Value.slice (some ⟨b, off, none⟩) (rs.length + 1) c) ∧ wx.cell? ⟨w.heap.size + 1, 0, none⟩ = some (Value.int IntKind.i64 ↑used) from
    fun wx hb => ⟨(boxed_below_of hx2 hb (by omega)).cell, (boxed_below_of hx3 hb (by omega)).cell⟩)
  go_cut [5] from 13 to 18 (fun p wr => ∃ (B5 : Nat) (vo : Value), p = .pointer (some ⟨B5, 0, none⟩) ∧ Boxed wr B5 22 vo ∧ W2.heap.size ≤ B5 ∧ OwnI 3 W2.heap.size wr vo (toI (numL rs used ++ [0])) ∧ Below W2.heap.size W2 wr)
  case first =>
    rename_i J K' hJ hK
    refine wp_region_sched (by kernel_rfl) [5, 13, 14, 15, 16, 17, 18] (by kernel_rfl) (N3 W2 (.slice (some ⟨b, off, none⟩) (rs.length + 1) c) (.slice adt rs.length (c - 1)) used (numL rs used)) ?_ ?_ ?_
    · exact ⟨(Below.refl _ _).drew, (fun h => by cases h), (fun h => by cases h), (fun h => by cases h), (fun h => by cases h), (fun h => by cases h), (fun h => by cases h), (fun h => by cases h), (fun h => by cases h)⟩
    · intro i o ho d y wx hdi hdep hS
      obtain ⟨k2, k3⟩ := KS.out wx hS.hb
      match i, ho with
      | 0, ho =>
        obtain rfl := Option.some.inj ho
        refine rstep_value rfl (v := .slice (some ⟨b, off, none⟩) (rs.length + 1) c) (w' := wx) ?_ ?_
        · simp only [hole, List.foldl_cons, List.foldl_nil, List.setIfInBounds_toArray, List.set_cons_zero, List.set_cons_succ]
          go_simp
        · exact ⟨hS.hb, fun _ => rfl, hS.h14, hS.h15, hS.h16, hS.h17, hS.h18, hS.h7, hS.h5⟩
      | 1, ho =>
        obtain rfl := Option.some.inj ho
        have e13 := hS.h13 (hdep ⟨0, .data⟩ (by simp) rfl)
        have hn1 : (1 : Int) ≤ (rs.length : Int) + 1 := by omega
        refine rstep_value rfl (v := .slice adt rs.length (c - 1)) (w' := wx) ?_ ?_
        · simp only [hole, List.foldl_cons, List.foldl_nil, List.setIfInBounds_toArray, List.set_cons_zero, List.set_cons_succ]
          go_simp
        · exact ⟨hS.hb, hS.h13, fun _ => rfl, hS.h15, hS.h16, hS.h17, hS.h18, hS.h7, hS.h5⟩
      | 2, ho =>
        obtain rfl := Option.some.inj ho
        refine rstep_value rfl (v := .int .i64 used) (w' := wx) ?_ ?_
        · simp only [hole, List.foldl_cons, List.foldl_nil, List.setIfInBounds_toArray, List.set_cons_zero, List.set_cons_succ]
          go_simp
        · exact ⟨hS.hb, hS.h13, hS.h14, fun _ => rfl, hS.h16, hS.h17, hS.h18, hS.h7, hS.h5⟩
      | 3, ho =>
        obtain rfl := Option.some.inj ho
        have e14 := hS.h14 (hdep ⟨1, .data⟩ (by simp) rfl)
        have e15 := hS.h15 (hdep ⟨2, .data⟩ (by simp) rfl)
        have hsz := hS.hb.size
        refine rstep_call rfl (f := 47) (args := #[.slice adt rs.length (c - 1), .int .i64 used]) (w' := wx) ?_ (IH.out used _ wx hu (KI.out _ hS.hb) (KT.out _ hS.hb)) ?_
        · simp only [hole, List.foldl_cons, List.foldl_nil, List.setIfInBounds_toArray, List.set_cons_zero, List.set_cons_succ]
          go_simp
        · rintro e w'' ⟨vc, rfl, hoc, hbc⟩
          refine ⟨vc, rfl, hS.hb.trans (hbc.mono hsz), hS.h13, hS.h14, hS.h15, fun _ _ => hoc.mono hsz, fun h h' => ?_, fun h => ?_, hS.h7, fun h => ?_⟩
          · obtain ⟨g, h1, h2⟩ := hS.h17 h h'
            exact ⟨g, h1, boxed_below h2 hbc⟩
          · exact (hS.h18 h).below hbc
          · obtain ⟨B5, h1, h2, vo, h3, h4⟩ := hS.h5 h
            exact ⟨B5, h1, h2, vo, boxed_below h3 hbc, h4⟩
      | 4, ho =>
        obtain rfl := Option.some.inj ho
        refine rstep_value rfl (v := .slice (some ⟨wx.heap.size, 0, none⟩) 1 1) (w' := wx.alloc (.cells #[.int .i64 0] 3)) ?_ ?_
        · simp only [hole, List.foldl_cons, List.foldl_nil, List.setIfInBounds_toArray, List.set_cons_zero, List.set_cons_succ]
          go_simp
        · refine ⟨below_alloc hS.hb _, hS.h13, hS.h14, hS.h15, fun h h' => (hS.h16 h h').alloc _, fun _ _ => ⟨_, rfl, Boxed.new _ _ _⟩, fun h => (hS.h18 h).alloc _, hS.h7, fun h => ?_⟩
          obtain ⟨B5, h1, h2, vo, h3, h4⟩ := hS.h5 h
          exact ⟨B5, h1, h2, vo, h3.alloc _, h4⟩
      | 5, ho =>
        obtain rfl := Option.some.inj ho
        have ho16 := hS.h16 (hdep ⟨3, .data⟩ (by simp) rfl) hdi
        obtain ⟨g, e17, hg⟩ := hS.h17 (hdep ⟨4, .data⟩ (by simp) rfl) hdi
        obtain ⟨v', w', hrun, r1, r2, r3⟩ := run_app1 (P := Tryd.prog) (t := 22) (ty := 22) Tryd.underlying22 info3 ho16 (ad := ⟨g, 0, none⟩) (c := 1) hg.cell (by rw [toI_length, numL_length]; omega) hS.hb.size
        refine rstep_value rfl (v := v') (w' := w') ?_ ?_
        · simp only [hole, List.foldl_cons, List.foldl_nil, List.setIfInBounds_toArray, List.set_cons_zero, List.set_cons_succ]
          simp [execOp, resolve, invoke, builtin, Act.eval, e17, Result.andThen]
          rw [hrun]
        · refine ⟨hS.hb.trans r3, hS.h13, hS.h14, hS.h15, fun _ h => (by cases h), fun _ h => (by cases h), (fun _ => by rw [toI_append]; exact r1), fun h => ⟨rfl, (hS.h7 h).2⟩, fun h => ?_⟩
          obtain ⟨B5, h1, h2, vo, h3, h4⟩ := hS.h5 h
          exact ⟨B5, h1, h2, vo, boxed_app h3 ho16 (by decide) r2, fun h => by have := (hS.h7 h).1; rw [hdi] at this; cases this⟩
      | 6, ho =>
        obtain rfl := Option.some.inj ho
        refine rstep_value rfl (v := .pointer (some ⟨wx.heap.size, 0, none⟩)) (w' := wx.alloc (.cells #[.slice none 0 0] 22)) ?_ ?_
        · simp only [hole, List.foldl_cons, List.foldl_nil, List.setIfInBounds_toArray, List.set_cons_zero, List.set_cons_succ]
          go_simp
        · refine ⟨below_alloc hS.hb _, hS.h13, hS.h14, hS.h15, fun h h' => (hS.h16 h h').alloc _, fun h h' => ?_, fun h => (hS.h18 h).alloc _, fun h => ⟨(hS.h7 h).1, rfl⟩, fun _ => ⟨_, rfl, hS.hb.size, _, Boxed.new _ _ _, fun h => ?_⟩⟩
          · obtain ⟨g, h1, h2⟩ := hS.h17 h h'
            exact ⟨g, h1, h2.alloc _⟩
          · have := (hS.h7 h).2; rw [hdi] at this; cases this
      | 7, ho =>
        obtain rfl := Option.some.inj ho
        obtain ⟨B5, e5, h2, vo, h3, h4⟩ := hS.h5 (hdep ⟨6, .data⟩ (by simp) rfl)
        have h18 := hS.h18 (hdep ⟨5, .data⟩ (by simp) rfl)
        have c5 := h3.cell
        have f5 := h3.frozen
        have d5 : d 5 = true := hdep ⟨5, .data⟩ (by simp) rfl
        obtain ⟨a18, c18, e18⟩ := h18.form
        refine rstep_skip rfl (w' := wx.setCell ⟨B5, 0, none⟩ (y 18)) ?_ ?_
        · simp only [hole, List.foldl_cons, List.foldl_nil, List.setIfInBounds_toArray, List.set_cons_zero, List.set_cons_succ]
          go_simp
        · refine ⟨hS.hb.setCell (by exact h2) _, hS.h13, hS.h14, hS.h15, (fun _ h => by rw [show d 5 = false from h] at d5; cases d5), (fun _ h => by rw [show d 5 = false from h] at d5; cases d5), fun _ => own_setBox h18 h3 (by decide) _, fun _ => ⟨d5, hdep ⟨6, .data⟩ (by simp) rfl⟩, fun _ => ⟨B5, e5, h2, _, Boxed.set _ h3, fun _ => rfl⟩⟩
    · intro d y wx hd hS
      obtain ⟨B5, e5, h2, vo, h3, h4⟩ := hS.h5 (hd 6 (by simp))
      have h18 := hS.h18 (hd 5 (by simp))
      have h4' := h4 (hd 7 (by simp))
      exact hK _ _ (Met.intro (hJ _ _ ⟨y 5, y 13, y 14, y 15, y 16, y 17, y 18, ⟨B5, vo, e5, h3, h2, by rw [h4']; exact h18, hS.hb⟩, by simp only [hole, List.foldl_cons, List.foldl_nil, List.setIfInBounds_toArray, List.set_cons_zero, List.set_cons_succ]⟩))
  case rest =>
    obtain ⟨B5, vo, rfl, hx5, hB5, hoo, hb3⟩ := hcut
    have k2 := (KS.out wc hb3).1
    have k3 := (KS.out wc hb3).2
    have cr : wc.cell? ⟨b, off, none⟩ = some (.int .i64 (r : Int)) := by
      have := (hb2.trans (hb3.mono hb2.size)).cell (p := ⟨b, off, none⟩) hbl
      rw [this]; simpa using hc0
    have hw : bits BinOp.andNot IntKind.i64 (r : Int) (used : Int) = ((diffS r used : Nat) : Int) := i64_andNot r used (by omega) (by omega)
    have hd64 : diffS r used < 64 := diffS_lt hr hu
    have hn1 : (0 : Int) < (rs.length : Int) + 1 := by omega
    go_upto_region 4 with (fail)
    go_still_tail 5, (by kernel_rfl)
    go_wp2_with (go_at_call 56; refine (columns_any _ _).mono ?_; rintro e w4 ⟨rfl, rfl⟩)
    rename_i Kq hKq
    obtain ⟨w4, hw4⟩ : ∃ w4, (wc.alloc (Obj.cells #[Value.int IntKind.i64 ↑(diffS r used)] 3)).drew = w4 := ⟨_, rfl⟩
    rw [hw4]
    have hs4 : w4.heap.size = wc.heap.size + 1 := by rw [← hw4]; simp
    have hbx4 : BoxN w4 wc.heap.size (diffS r used) := by rw [← hw4]; exact Boxed.new wc 3 _
    have hb34 : Below W2.heap.size W2 w4 := by rw [← hw4]; exact (below_alloc hb3 _).drew
    have hx54 : Boxed w4 B5 22 vo := by rw [← hw4]; exact Boxed.alloc (W := wc) hx5 _
    have ho4 : OwnI 3 W2.heap.size w4 vo (toI (numL rs used ++ [0])) := by rw [← hw4]; exact (hoo.alloc _).drew
    have hvo : ∀ k, vo.ownBlock = some k → k < wc.heap.size := fun k hk => (hoo.lt k hk).2
    have hB5w : B5 < wc.heap.size := hx5.lt
    have hsz3 := hb3.size
    clear hw4
    obtain ⟨gv, capv, rfl⟩ := ho4.row (k := rs.length + 1) (by simp [numL_length])
    have hgv : gv < wc.heap.size := hvo gv rfl
    refine wp_cols1 wc.heap.size (diffS r used) rfl hbx4 (by omega) (by simp)
      (fun s W => ∃ cur, Boxed W B5 22 (.slice (some ⟨gv, 0, none⟩) (rs.length + 1 + 1) capv) ∧ OwnI 3 W2.heap.size W (.slice (some ⟨gv, 0, none⟩) (rs.length + 1 + 1) capv) (toI cur) ∧ s < 64 ∧ cur.length = rs.length + 2 ∧ (elems s).foldl (fun out j => addSh out (numL rs (used ||| 2 ^ j))) cur = numL (r :: rs) used ∧ Below W2.heap.size W2 W)
      (fun _ _ => False) (fun s W h => by obtain ⟨_, _, _, _, _, _, h⟩ := h; exact KT.out W h) ?_ (fun _ _ _ h _ => h) ⟨_, hx54, ho4, hd64, by simp [numL_length], rfl, hb34⟩ ?_ ?_ (fun _ _ _ _ h _ => h.elim)
    · rintro s W W' ⟨cur, h1, h2, hs6, hcl, h3, h4⟩ hx
      exact ⟨cur, boxed_ext h1 hx (by omega), own_ext h2 hx (fun k hk => by have := hvo k hk; omega), hs6, hcl, h3, below_ext h4 (Nat.le_refl _) hx (by omega) (by omega)⟩
    · rintro l s W hs hpos hl ⟨cur, h1, h2, hs6, hcl, h3, h4⟩ hbW
      simp only [List.setIfInBounds_toArray, List.set_cons_zero, List.set_cons_succ]
      have k2 := (KS.out W h4).1
      have k3 := (KS.out W h4).2
      have htz := tz_lt6 s hs6 hpos
      have hp := pow_in (tz s) (by omega)
      have hor := or_w hu htz
      have H3 := Lib.hid h3; clear h3
      have H2 := Lib.hid h2; clear h2
      have mixed : Tryd.prog.follows .mixedOrders = true := by kernel_rfl
      have IH2 := Lib.hid (IH.out (used ||| 2 ^ tz s))
      gi_wp2
      rename_i Kx hKx
      have hn2 : (1 : Int) ≤ (rs.length : Int) + 1 := by omega
      refine wpIn_region_sched mixed [26, 27, 28, 29, 30, 31, 32, 33, 34] (by kernel_rfl) (N6 W (.slice (some ⟨b, off, none⟩) (rs.length + 1) c) (.slice adt rs.length (c - 1)) used (tz s) (numL rs (used ||| 2 ^ tz s))) ?_ ?_ ?_
      · exact ⟨(Below.refl _ _).drew, (fun h => by cases h), (fun h => by cases h), (fun h => by cases h), (fun h => by cases h), (fun h => by cases h), (fun h => by cases h), (fun h => by cases h), (fun h => by cases h), (fun h => by cases h)⟩
      · intro i o ho d y wx hdi hdep hS
        have hbx := h4.trans (hS.hb.mono h4.size)
        obtain ⟨k2, k3⟩ := KS.out wx hbx
        match i, ho with
        | 0, ho =>
          obtain rfl := Option.some.inj ho
          refine rstepIn_value (fun _ => trivial) (by simp) rfl (v := .slice (some ⟨b, off, none⟩) (rs.length + 1) c) (w' := wx) ?_ ?_
          · simp only [hole, List.foldl_cons, List.foldl_nil, List.setIfInBounds_toArray, List.set_cons_zero, List.set_cons_succ]
            go_simp
          · exact ⟨hS.hb, fun _ => rfl, hS.h27, hS.h28, hS.h29, hS.h30, hS.h31, hS.h32, hS.h33, hS.h34⟩
        | 1, ho =>
          obtain rfl := Option.some.inj ho
          have e13 := hS.h26 (hdep ⟨0, .data⟩ (by simp) rfl)
          refine rstepIn_value (fun _ => trivial) (by simp) rfl (v := .slice adt rs.length (c - 1)) (w' := wx) ?_ ?_
          · simp only [hole, List.foldl_cons, List.foldl_nil, List.setIfInBounds_toArray, List.set_cons_zero, List.set_cons_succ]
            go_simp
          · exact ⟨hS.hb, hS.h26, fun _ => rfl, hS.h28, hS.h29, hS.h30, hS.h31, hS.h32, hS.h33, hS.h34⟩
        | 2, ho =>
          obtain rfl := Option.some.inj ho
          refine rstepIn_value (fun _ => trivial) (by simp) rfl (v := .int .i64 (used : Int)) (w' := wx) ?_ ?_
          · simp only [hole, List.foldl_cons, List.foldl_nil, List.setIfInBounds_toArray, List.set_cons_zero, List.set_cons_succ]
            go_simp
          · exact ⟨hS.hb, hS.h26, hS.h27, fun _ => rfl, hS.h29, hS.h30, hS.h31, hS.h32, hS.h33, hS.h34⟩
        | 3, ho =>
          obtain rfl := Option.some.inj ho
          refine rstepIn_value (fun _ => trivial) (by simp) rfl (v := .int .i64 (tz s : Int)) (w' := wx) ?_ ?_
          · simp only [hole, List.foldl_cons, List.foldl_nil, List.setIfInBounds_toArray, List.set_cons_zero, List.set_cons_succ]
            go_simp
          · exact ⟨hS.hb, hS.h26, hS.h27, hS.h28, fun _ => rfl, hS.h30, hS.h31, hS.h32, hS.h33, hS.h34⟩
        | 4, ho =>
          obtain rfl := Option.some.inj ho
          have e29 := hS.h29 (hdep ⟨3, .data⟩ (by simp) rfl)
          refine rstepIn_value (fun _ => trivial) (by simp) rfl (v := .int .i64 ((2 : Int) ^ tz s)) (w' := wx) ?_ ?_
          · simp only [hole, List.foldl_cons, List.foldl_nil, List.setIfInBounds_toArray, List.set_cons_zero, List.set_cons_succ]
            go_simp
          · exact ⟨hS.hb, hS.h26, hS.h27, hS.h28, hS.h29, fun _ => rfl, hS.h31, hS.h32, hS.h33, hS.h34⟩
        | 5, ho =>
          obtain rfl := Option.some.inj ho
          have e28 := hS.h28 (hdep ⟨2, .data⟩ (by simp) rfl)
          have e30 := hS.h30 (hdep ⟨4, .data⟩ (by simp) rfl)
          refine rstepIn_value (fun _ => trivial) (by simp) rfl (v := .int .i64 ((used ||| 2 ^ tz s : Nat) : Int)) (w' := wx) ?_ ?_
          · simp only [hole, List.foldl_cons, List.foldl_nil, List.setIfInBounds_toArray, List.set_cons_zero, List.set_cons_succ]
            go_simp
          · exact ⟨hS.hb, hS.h26, hS.h27, hS.h28, hS.h29, hS.h30, fun _ => rfl, hS.h32, hS.h33, hS.h34⟩
        | 6, ho =>
          obtain rfl := Option.some.inj ho
          have e27 := hS.h27 (hdep ⟨1, .data⟩ (by simp) rfl)
          have e31 := hS.h31 (hdep ⟨5, .data⟩ (by simp) rfl)
          have hsz := hS.hb.size
          refine rstepIn_call (fun _ => trivial) (fun _ => by decide) (by simp) rfl (f := 47) (args := #[.slice adt rs.length (c - 1), .int .i64 ((used ||| 2 ^ tz s : Nat) : Int)]) (w' := wx) ?_ (CallsIn.inRound l (callsIn_wide.2 (IH2.out _ wx (or_lt hu htz) (KI.out _ hbx) (KT.out _ hbx)))) ?_
          · simp only [hole, List.foldl_cons, List.foldl_nil, List.setIfInBounds_toArray, List.set_cons_zero, List.set_cons_succ]
            go_simp
          · rintro e w'' ⟨vc, rfl, hoc, hbc⟩
            exact ⟨vc, rfl, hS.hb.trans (hbc.mono hsz), hS.h26, hS.h27, hS.h28, hS.h29, hS.h30, hS.h31, fun _ => hoc.mono hsz, hS.h33, hS.h34⟩
        | 7, ho =>
          obtain rfl := Option.some.inj ho
          obtain ⟨a32, c32, e32⟩ := (hS.h32 (hdep ⟨6, .data⟩ (by simp) rfl)).form
          rw [toI_length] at e32
          refine rstepIn_value (fun _ => trivial) (by simp) rfl (v := .int .i64 ((numL rs (used ||| 2 ^ tz s)).length : Int)) (w' := wx) ?_ ?_
          · simp only [hole, List.foldl_cons, List.foldl_nil, List.setIfInBounds_toArray, List.set_cons_zero, List.set_cons_succ]
            go_simp
          · exact ⟨hS.hb, hS.h26, hS.h27, hS.h28, hS.h29, hS.h30, hS.h31, hS.h32, fun _ => rfl, hS.h34⟩
        | 8, ho =>
          obtain rfl := Option.some.inj ho
          refine rstepIn_value (fun _ => trivial) (by simp) rfl (v := .int .i64 0) (w' := wx) ?_ ?_
          · simp only [hole, List.foldl_cons, List.foldl_nil, List.setIfInBounds_toArray, List.set_cons_zero, List.set_cons_succ]
            go_simp
          · exact ⟨hS.hb, hS.h26, hS.h27, hS.h28, hS.h29, hS.h30, hS.h31, hS.h32, hS.h33, fun _ => rfl⟩
      · intro d y W1 hd hS
        obtain ⟨hb1, e26, e27, e28, e29, e30, e31, ho1, e33, e34⟩ := hS
        replace e26 := e26 (hd 0 (by simp))
        replace e27 := e27 (hd 1 (by simp))
        replace e28 := e28 (hd 2 (by simp))
        replace e29 := e29 (hd 3 (by simp))
        replace e30 := e30 (hd 4 (by simp))
        replace e31 := e31 (hd 5 (by simp))
        replace ho1 := ho1 (hd 6 (by simp))
        replace e33 := e33 (hd 7 (by simp))
        replace e34 := e34 (hd 8 (by simp))
        obtain ⟨g1, cap1, e32⟩ := ho1.row (k := rs.length) (numL_length _ _)
        rw [e32] at ho1
        rw [numL_length] at e33
        refine hKx _ _ ?_
        clear hKx hd Kx
        simp only [hole, List.foldl_cons, List.foldl_nil, List.setIfInBounds_toArray, List.set_cons_zero, List.set_cons_succ, e26, e27, e28, e29, e30, e31, e32, e33, e34]
        clear e26 e27 e28 e29 e30 e31 e32 e33 e34 d y
        obtain ⟨L, hL⟩ : ∃ L, numL rs (used ||| 2 ^ tz s) = L := ⟨_, rfl⟩
        have hLl : L.length = rs.length + 1 := by rw [← hL, numL_length]
        have hLs : ∀ i, L.getD i 0 ≤ 531441 := by intro i; rw [← hL]; exact numL_lt _ _ _ (by omega)
        have hcs : ∀ i, (addSh cur L).getD i 0 ≤ 531441 := by
          intro i
          refine Nat.le_trans ?_ (numL_lt (r :: rs) used i (by simp; omega))
          rw [← H3.out, elems_step s hs hpos, List.foldl_cons, hL]
          exact le_foldl_addSh _ _ _ _
        have hxx := h1
        have hs1 := hb1.size
        have hgW : gv < W.heap.size := by have := (H2.out).blockEq.2; exact this
        have hg1 : W.heap.size ≤ g1 := ho1.blockEq.1
        have hB5W := h1.lt
        have hBW := hbW.lt
        have hKF : KeepsFrom w4.heap.size W W1 := ⟨hs1, fun k o _ hk _ => (hb1.block k (Array.getElem?_eq_some_iff.1 hk).1).trans hk⟩
        have hx1 : Boxed W1 B5 22 (Value.slice (some ⟨gv, 0, none⟩) (rs.length + 1 + 1) capv) := boxed_below h1 hb1
        have hbW1 : BoxN W1 wc.heap.size s := (hb1.block _ hBW).trans hbW
        have hoW1 := Lib.hid (H2.out.below hb1)
        have hB1 : Below W2.heap.size W2 W1 := h4.trans (hb1.mono h4.size)
        have hne5 : B5 ≠ gv := fun e => by have := h1.not_row (by decide) H2.out; simp [Value.ownBlock] at this; exact this e
        rw [hL] at ho1
        clear hb1 KI IH IH2 HT HVT KS
        gi_wp2
        gi_loopw [34] (fun p wr => ∃ i : Nat, p = .int .i64 i ∧ i ≤ rs.length + 1 ∧ Boxed wr B5 22 (Value.slice (some ⟨gv, 0, none⟩) (rs.length + 1 + 1) capv) ∧
            OwnI 3 W2.heap.size wr (Value.slice (some ⟨gv, 0, none⟩) (rs.length + 1 + 1) capv) (toI (addSh cur (L.take i))) ∧
            OwnI 3 W.heap.size wr (Value.slice (some ⟨g1, 0, none⟩) (rs.length + 1) cap1) (toI L) ∧ BoxN wr wc.heap.size s ∧ KeepsFrom w4.heap.size W wr ∧ Below W2.heap.size W2 wr)
          (fun p _ => rs.length + 1 - (intOf p).toNat)
        case atStart => exact ⟨0, rfl, by omega, hx1, by simpa [addSh_nil] using hoW1.out, ho1, hbW1, hKF, hB1⟩
        case round =>
          obtain ⟨i, rfl, hi, hxr, hor, ho1r, hbr, hkr, hBr⟩ := hrel
          clear hx1 hoW1 ho1 hbW1 hKF hB1
          by_cases hlt : i < rs.length + 1
          · have c5 := hxr.cell
            have cL := ho1r.cellN i (by omega)
            have cG := hor.cellN (i + 1) (by rw [addSh_length, hcl]; omega)
            have fG := hor.frozenN (i + 1)
            obtain ⟨x, hx⟩ : ∃ x, L[i]'(by omega) = x := ⟨_, rfl⟩
            obtain ⟨z, hz⟩ : ∃ z, (addSh cur (L.take i))[i + 1]'(by rw [addSh_length, hcl]; omega) = z := ⟨_, rfl⟩
            rw [hx] at cL
            rw [hz] at cG
            have hxle : x ≤ 531441 := by have := hLs i; rwa [getD_at (by omega), hx] at this
            have hzle : z ≤ 531441 := by
              have := Nat.le_trans (addSh_take_le cur L i (i + 1)) (hcs (i + 1))
              rwa [getD_at (by rw [addSh_length, hcl]; omega), hz] at this
            have HO := Lib.hid hor
            have HO1 := Lib.hid ho1r
            have HX := Lib.hid hxr
            clear hor ho1r hxr
            have w1 : IntKind.i64.wrap ((i : Int) + 1) = (i : Int) + 1 := IntWalk.i64_in _ (by omega)
            have w2 : IntKind.i64.wrap ((z : Int) + (x : Int)) = (z : Int) + (x : Int) := IntWalk.i64_in _ (by omega)
            gi_wp2
            go_roundw
            case rel =>
              refine ⟨i + 1, by go_num, by omega, boxed_at HX.out hne5 _ _, ?_, ownI_at HO1.out (by simp [Value.ownBlock]; omega) _ _, boxN_at hbr (by omega) _ _, hkr.trans (KeepsFrom.of_grownBy (IsBufferSet _ _ _ _) (fun j hj => by cases hj; omega)), hBr.setCell (by exact H2.out.blockEq.1) _⟩
              rw [addSh_take_succ cur L i (by omega) (by omega), getD_at (by rw [addSh_length, hcl]; omega), hz, hx]
              have := HO.out.storedN (i + 1) (z + x)
              push_cast at this
              exact this
            case measure => simp [intOf]; omega
          · obtain rfl : i = rs.length + 1 := by omega
            gi_wp2
            refine ⟨hkr, hbr, addSh cur L, hxr, ?_, ?_, by rw [addSh_length, hcl], ?_, hBr⟩
            · have := hor; rwa [List.take_of_length_le (by omega)] at this
            · have := nextS_lt s hs hpos; omega
            · rw [← H3.out, elems_step s hs hpos, List.foldl_cons, hL]
    · rintro D W hD ⟨cur, h1, h2, hs6, hcl, h3, h4⟩ hK
      have c5 := h1.cell
      have H2 := Lib.hid h2
      clear h2
      refine hKq _ _ ?_
      clear hKq Kq
      go_wp2
      refine leaves_one hK (results_tmp rfl _ _ _) ?_
      refine ⟨_, rfl, ?_, ?_⟩
      · have := own_putObj (l := D) H2.out (.deferred none) hK rfl
        rw [← h3]
        exact this.mono (by omega)
      · refine (hb2.trans (h4.mono hb2.size)).trans ?_
        exact (Below.refl _ _).grown (grownBy_putObj' W D _) (by have := (hb2.trans (h4.mono hb2.size)).size; omega) (fun k hk => by cases hk; omega)

/-- **b.numbers(used)**. -/
theorem numbers_any : ∀ (bs : List Nat) (used : Nat) (v : Value) (w : World), (∀ x ∈ bs, x < 64) → bs.length ≤ 6 → used < 64 → Ints w v (toI bs) → Tab w → Calls Tryd.prog 47 #[v, .int .i64 used] w (NumPost bs used w)
  | [], used, v, w, _, _, _, hv, _ => numbers_nil v used w hv
  | r :: rs, used, v, w, hb, hl, hu, hv, ht =>
    numbers_cons v r rs used w hv (hb r List.mem_cons_self) hu (by simp at hl; omega) ht
      (fun used v w hu hv ht => numbers_any rs used v w (fun x hx => hb x (List.mem_cons_of_mem _ hx)) (by simp at hl; omega) hu hv ht)
end Go.Proofs.YtlpnicfbgdfbnaaDoor

/- Which slices are boards: plain facts. -/
namespace Go.Proofs.YtlpnicfbgdfbnaaDoor

/-- A row of a board of n rows. -/
def rowB (n : Nat) (r : Int) : Bool := decide (0 ≤ r) && decide (r < (2 : Int) ^ n)
/-- A board. -/
def boardB (xs : List Int) : Bool := decide (1 ≤ xs.length) && decide (xs.length ≤ 6) && xs.all (rowB xs.length)

theorem rowB_no {n : Nat} {r : Int} (h : r < 0 ∨ (2 : Int) ^ n ≤ r) : rowB n r = false := by
  unfold rowB
  rcases h with h | h
  · simp; omega
  · simp; intro _; exact h
theorem rowB_yes {n : Nat} {r : Int} (h0 : 0 ≤ r) (h : r < (2 : Int) ^ n) : rowB n r = true := by
  unfold rowB; simp [h0, h]
theorem boardB_no_row {xs : List Int} {k : Nat} (hk : k < xs.length) (h : rowB xs.length xs[k] = false) : boardB xs = false := by
  unfold boardB
  have : xs.all (rowB xs.length) = false := by
    rw [List.all_eq_false]
    exact ⟨xs[k], List.getElem_mem _, by simp [h]⟩
  simp [this]
theorem boardB_no_len {xs : List Int} (h : xs.length = 0 ∨ 6 < xs.length) : boardB xs = false := by
  unfold boardB
  rcases h with h | h <;> simp [h] <;> omega
theorem boardB_yes {xs : List Int} (h1 : 1 ≤ xs.length) (h6 : xs.length ≤ 6) (h : xs.all (rowB xs.length) = true) : boardB xs = true := by
  unfold boardB; simp only [h1, h6, h]; simp
theorem all_take_succ {xs : List Int} {p : Int → Bool} {k : Nat} (hk : k < xs.length) (h : (xs.take k).all p = true) (hp : p xs[k] = true) : (xs.take (k + 1)).all p = true := by
  rw [take_succ' xs k hk, List.all_append, h]; simp [hp]

/-- A board's rows, as numbers. -/
structure IsBoard (bs : List Nat) : Prop where
  pos : 1 ≤ bs.length
  le : bs.length ≤ 6
  row : ∀ r ∈ bs, r < 2 ^ bs.length

theorem two_pow_le {n : Nat} (h : n ≤ 6) : 2 ^ n ≤ 64 := Nat.pow_le_pow_right (by decide) h
theorem IsBoard.lt {bs : List Nat} (h : IsBoard bs) (r : Nat) (hr : r ∈ bs) : r < 64 := Nat.lt_of_lt_of_le (h.row r hr) (two_pow_le h.le)

theorem boardB_board {bs : List Nat} (h : IsBoard bs) : boardB (toI bs) = true := by
  refine boardB_yes (by rw [toI_length]; exact h.pos) (by rw [toI_length]; exact h.le) ?_
  rw [List.all_eq_true, toI_length]
  intro x hx
  obtain ⟨r, hr, rfl⟩ := List.mem_map.1 hx
  exact rowB_yes (by omega) (by have := h.row r hr; exact_mod_cast this)

theorem board_of {xs : List Int} (h : boardB xs = true) : ∃ bs, xs = toI bs ∧ IsBoard bs := by
  unfold boardB at h
  simp only [Bool.and_eq_true, decide_eq_true_eq, List.all_eq_true] at h
  obtain ⟨⟨h1, h6⟩, hr⟩ := h
  have hx : xs = toI (xs.map Int.toNat) := by
    unfold toI
    rw [List.map_map]
    conv => lhs; rw [← List.map_id xs]
    refine List.map_congr_left fun x hx => ?_
    have := hr x hx
    unfold rowB at this
    simp at this
    simp; omega
  refine ⟨xs.map Int.toNat, hx, by simpa using h1, by simpa using h6, fun r hrm => ?_⟩
  obtain ⟨x, hx', rfl⟩ := List.mem_map.1 hrm
  have := hr x hx'
  unfold rowB at this
  simp only [Bool.and_eq_true, decide_eq_true_eq] at this
  rw [List.length_map]
  have h2 : ((x.toNat : Nat) : Int) < ((2 ^ xs.length : Nat) : Int) := by rw [Int.toNat_of_nonneg this.1]; exact_mod_cast this.2
  exact Int.ofNat_lt.1 h2


end Go.Proofs.YtlpnicfbgdfbnaaDoor

/- Which slices are boards: the walks of corsageref05.Board and (rooks.board).valid. -/
namespace Go.Proofs.YtlpnicfbgdfbnaaDoor
open Go.RowKit


set_option maxHeartbeats 400000 in
theorem Board_any (v : Value) (xs : List Int) (w : World) (hv : Ints w v xs) :
    Calls Tryd.prog 17 #[v] w fun e w' => e = .returned (.bool (boardB xs)) ∧ w = w' := by
  obtain ⟨a, c, rfl, hlen, hcl, hc⟩ := hv
  by_cases h6 : xs.length ≤ 6
  · have hp := pow_in64 xs.length (by omega)
    go_enter Tryd.func17, Tryd.ntmps17
    go_wp2
    go_loop [7] (fun i => ∃ k : Nat, k ≤ xs.length ∧ i = .int .i64 k ∧ (xs.take k).all (rowB xs.length) = true) (fun i => xs.length - (intOf i).toNat)
    case atStart => exact ⟨0, Nat.zero_le _, rfl, by simp⟩
    case round =>
      obtain ⟨k, hk, rfl, hall⟩ := hrel
      by_cases hlt : k < xs.length
      · obtain ⟨b, off, rfl, hb, hcell⟩ := hc (by intro h; simp [h] at hlt)
        have hcx := hcell k hlt
        clear hcell hc
        have HA := Lib.hid hall; clear hall
        by_cases hrow : 0 ≤ xs[k] ∧ xs[k] < (2 : Int) ^ xs.length
        · obtain ⟨hr0, hr1⟩ := hrow
          go_wp2
          go_round
          case rel => exact ⟨k + 1, by omega, by go_num, all_take_succ hlt HA.out (rowB_yes hr0 hr1)⟩
          case measure => simp [intOf]; omega
        · have hrow' : xs[k] < 0 ∨ (0 ≤ xs[k] ∧ (2 : Int) ^ xs.length ≤ xs[k]) := by omega
          have HB := Lib.hid (boardB_no_row hlt (rowB_no (by omega)))
          clear hrow
          rcases hrow' with h | ⟨h0, h⟩
          · go_wp2
            go_ret
            exact ⟨ret_bool HB.out.symm, rfl⟩
          · go_wp2
            go_ret
            exact ⟨ret_bool HB.out.symm, rfl⟩
      · obtain rfl : k = xs.length := by omega
        rw [List.take_length] at hall
        have HA := Lib.hid hall; clear hall
        by_cases h1 : 1 ≤ xs.length
        · go_wp2
          go_ret
          exact ⟨ret_bool (by rw [boardB_yes h1 h6 HA.out]; simp; omega), rfl⟩
        · go_wp2
          go_ret
          exact ⟨ret_bool (boardB_no_len (by omega)).symm, rfl⟩
  · have HB := Lib.hid (boardB_no_len (xs := xs) (by omega))
    go_enter Tryd.func17, Tryd.ntmps17
    go_wp2
    go_loop [7] (fun i => ∃ k : Nat, k ≤ xs.length ∧ i = .int .i64 k) (fun i => xs.length - (intOf i).toNat)
    case atStart => exact ⟨0, Nat.zero_le _, rfl⟩
    case round =>
      obtain ⟨k, hk, rfl⟩ := hrel
      by_cases hlt : k < xs.length
      · obtain ⟨b, off, rfl, hb, hcell⟩ := hc (by intro h; simp [h] at hlt)
        have hcx := hcell k hlt
        clear hcell hc
        have hp : wrap64 64 = 64 := by decide +kernel
        by_cases hrow : 0 ≤ xs[k] ∧ xs[k] < 64
        · obtain ⟨hr0, hr1⟩ := hrow
          go_wp2
          go_round
          case rel => exact ⟨k + 1, by omega, by go_num⟩
          case measure => simp [intOf]; omega
        · have hrow' : xs[k] < 0 ∨ (0 ≤ xs[k] ∧ 64 ≤ xs[k]) := by omega
          clear hrow
          rcases hrow' with h | ⟨h0, h⟩
          · go_wp2
            go_ret
            exact ⟨ret_bool HB.out.symm, rfl⟩
          · go_wp2
            go_ret
            exact ⟨ret_bool HB.out.symm, rfl⟩
      · obtain rfl : k = xs.length := by omega
        go_wp2
        go_ret
        exact ⟨ret_bool (by rw [HB.out]; simp; omega), rfl⟩

set_option maxHeartbeats 400000 in
theorem validF_any (r : Int) (n B : Nat) (w : World) (hn : n ≤ 6) (hc : w.cell? ⟨B, 0, none⟩ = some (.int .i64 (n : Int))) :
    Calls Tryd.prog 69 #[.int .i64 r, .pointer (some ⟨B, 0, none⟩)] w fun e w' => e = .returned (.bool (!rowB n r)) ∧ w = w' := by
  have hp := pow_in64 n (by omega)
  by_cases hrow : 0 ≤ r ∧ r < (2 : Int) ^ n
  · obtain ⟨h0, h1⟩ := hrow
    have HB := Lib.hid (rowB_yes h0 h1)
    go_enter Tryd.func69, Tryd.ntmps69
    go_wp2
    go_ret
    exact ⟨ret_bool (by rw [HB.out]; simp; omega), rfl⟩
  · have hrow' : r < 0 ∨ (0 ≤ r ∧ (2 : Int) ^ n ≤ r) := by omega
    have HB := Lib.hid (rowB_no (n := n) (r := r) (by omega))
    clear hrow
    rcases hrow' with h | ⟨h0, h⟩
    · go_enter Tryd.func69, Tryd.ntmps69
      go_wp2
      go_ret
      exact ⟨ret_bool (by rw [HB.out]; rfl), rfl⟩
    · go_enter Tryd.func69, Tryd.ntmps69
      go_wp2
      go_ret
      exact ⟨ret_bool (by rw [HB.out]; rfl), rfl⟩

/-- Does no element of the first k fail? -/
theorem all_take_of {xs : List Int} {p : Int → Bool} {k : Nat} (hk : xs.length ≤ k) (h : (xs.take k).all p = true) : xs.all p = true := by
  rwa [List.take_of_length_le hk] at h

set_option maxHeartbeats 400000 in
theorem IndexF_yes (v : Value) (xs : List Int) (B : Nat) (w : World) (hv : Ints w v xs) (hn : xs.length ≤ 6) (hc : w.cell? ⟨B, 0, none⟩ = some (.int .i64 (xs.length : Int))) (hall : xs.all (rowB xs.length) = true) :
    Calls Tryd.prog 83 #[v, .func (.func 69) #[] #[.pointer (some ⟨B, 0, none⟩)]] w fun e w' => e = .returned (.int .i64 (-1)) ∧ w = w' := by
  obtain ⟨a, c, rfl, hlen, hcl, hcs⟩ := hv
  have HA := Lib.hid hall; clear hall
  have HC := Lib.hid hc; clear hc
  go_enter Tryd.func83, Tryd.ntmps83
  go_wp2
  go_loop [8] (fun i => ∃ k : Nat, k ≤ xs.length ∧ i = .int .i64 k) (fun i => xs.length - (intOf i).toNat)
  case atStart => exact ⟨0, Nat.zero_le _, rfl⟩
  case round =>
    obtain ⟨k, hk, rfl⟩ := hrel
    by_cases hlt : k < xs.length
    · obtain ⟨b, off, rfl, hb, hcell⟩ := hcs (by intro h; simp [h] at hlt)
      have hcx := hcell k hlt
      clear hcell hcs
      have hr : (!rowB xs.length xs[k]) = false := by
        have := List.all_eq_true.1 HA.out xs[k] (List.getElem_mem _)
        rw [this]; rfl
      go_wp2_with (go_at_call 69; refine (validF_any _ xs.length B _ hn HC.out).mono ?_; rintro e w' ⟨rfl, rfl⟩)
      go_round
      case rel => exact ⟨k + 1, by omega, by go_num⟩
      case measure => simp [intOf]; omega
    · obtain rfl : k = xs.length := by omega
      go_wp2
      go_ret
      exact ⟨rfl, rfl⟩

def NonNeg (e : Ending) : Prop := ∃ n : Nat, e = .returned (.int .i64 (n : Int))

set_option maxHeartbeats 400000 in
theorem IndexF_no (v : Value) (xs : List Int) (B : Nat) (w : World) (hv : Ints w v xs) (hn : xs.length ≤ 6) (hc : w.cell? ⟨B, 0, none⟩ = some (.int .i64 (xs.length : Int))) (hall : xs.all (rowB xs.length) = false) :
    Calls Tryd.prog 83 #[v, .func (.func 69) #[] #[.pointer (some ⟨B, 0, none⟩)]] w fun e w' => NonNeg e ∧ w = w' := by
  obtain ⟨a, c, rfl, hlen, hcl, hcs⟩ := hv
  have HA := Lib.hid hall; clear hall
  have HC := Lib.hid hc; clear hc
  go_enter Tryd.func83, Tryd.ntmps83
  go_wp2
  go_loop [8] (fun i => ∃ k : Nat, k ≤ xs.length ∧ i = .int .i64 k ∧ (xs.take k).all (rowB xs.length) = true) (fun i => xs.length - (intOf i).toNat)
  case atStart => exact ⟨0, Nat.zero_le _, rfl, by simp⟩
  case round =>
    obtain ⟨k, hk, rfl, htk⟩ := hrel
    have HT := Lib.hid htk; clear htk
    by_cases hlt : k < xs.length
    · obtain ⟨b, off, rfl, hb, hcell⟩ := hcs (by intro h; simp [h] at hlt)
      have hcx := hcell k hlt
      clear hcell hcs
      cases hrk : rowB xs.length xs[k] with
      | true =>
        have hr : (!rowB xs.length xs[k]) = false := by rw [hrk]; rfl
        have HR := Lib.hid hrk; clear hrk
        go_wp2_with (go_at_call 69; refine (validF_any _ xs.length B _ hn HC.out).mono ?_; rintro e w' ⟨rfl, rfl⟩)
        go_round
        case rel => exact ⟨k + 1, by omega, by go_num, all_take_succ hlt HT.out HR.out⟩
        case measure => simp [intOf]; omega
      | false =>
        have hr : (!rowB xs.length xs[k]) = true := by rw [hrk]; rfl
        clear hrk
        go_wp2_with (go_at_call 69; refine (validF_any _ xs.length B _ hn HC.out).mono ?_; rintro e w' ⟨rfl, rfl⟩)
        go_ret
        exact ⟨⟨k, rfl⟩, rfl⟩
    · exfalso
      have := all_take_of (by omega) HT.out
      rw [HA.out] at this
      cases this

set_option maxHeartbeats 400000 in
theorem Contains_any (v : Value) (xs : List Int) (B : Nat) (w : World) (hv : Ints w v xs) (hn : xs.length ≤ 6) (hc : w.cell? ⟨B, 0, none⟩ = some (.int .i64 (xs.length : Int))) :
    Calls Tryd.prog 68 #[v, .func (.func 69) #[] #[.pointer (some ⟨B, 0, none⟩)]] w fun e w' => e = .returned (.bool (!xs.all (rowB xs.length))) ∧ w = w' := by
  cases hall : xs.all (rowB xs.length) with
  | true =>
    have C := IndexF_yes v xs B w hv hn hc hall
    clear hall hv hn hc
    go_enter Tryd.func68, Tryd.ntmps68
    go_wp2_with (go_at_call 83; refine C.mono ?_; rintro e w' ⟨rfl, rfl⟩)
    go_ret
    exact ⟨rfl, rfl⟩
  | false =>
    have C := IndexF_no v xs B w hv hn hc hall
    clear hall hv hn hc
    go_enter Tryd.func68, Tryd.ntmps68
    go_wp2_with (go_at_call 83; refine C.mono ?_; rintro e w' ⟨⟨n, rfl⟩, rfl⟩)
    go_ret
    exact ⟨ret_bool (by simp), rfl⟩

set_option maxHeartbeats 400000 in
theorem valid_any (v : Value) (xs : List Int) (w : World) (hv : Ints w v xs) :
    Calls Tryd.prog 46 #[v] w fun e w' => e = .returned (.bool (boardB xs)) ∧ Below w.heap.size w w' := by
  have hb1 : Below w.heap.size w (w.alloc (.cells #[.int .i64 (xs.length : Int)] 3)) := (Below.refl _ _).alloc (Nat.le_refl _) _
  have hv1 := hv.below hb1
  obtain ⟨a, c, rfl, hlen, hcl, hcs⟩ := hv
  clear hcs
  by_cases h1 : 1 ≤ xs.length
  · by_cases h6 : xs.length ≤ 6
    · have C := Contains_any _ xs w.heap.size _ hv1 h6 (by simp)
      have HB : Hid (boardB xs = xs.all (rowB xs.length)) := Lib.hid (by unfold boardB; simp [h1, h6])
      clear hv1
      go_enter Tryd.func46, Tryd.ntmps46
      go_wp2_with (go_at_call 68; refine C.mono ?_; rintro e w' ⟨rfl, rfl⟩)
      go_ret
      exact ⟨ret_bool (by rw [HB.out]), hb1⟩
    · have HB := Lib.hid (boardB_no_len (xs := xs) (by omega))
      clear hv1
      go_enter Tryd.func46, Tryd.ntmps46
      go_wp2
      go_ret
      exact ⟨ret_bool HB.out.symm, hb1⟩
  · have HB := Lib.hid (boardB_no_len (xs := xs) (by omega))
    clear hv1
    go_enter Tryd.func46, Tryd.ntmps46
    go_wp2
    go_ret
    exact ⟨ret_bool HB.out.symm, hb1⟩
end Go.Proofs.YtlpnicfbgdfbnaaDoor

/- slices.Equal at []int. -/
namespace Go.Proofs.YtlpnicfbgdfbnaaDoor
open Go.RowKit

theorem ne_of_len {xs ys : List Int} (h : xs.length ≠ ys.length) : decide (xs = ys) = false := by
  rw [decide_eq_false_iff_not]; intro e; exact h (by rw [e])
theorem ne_of_at {xs ys : List Int} {k : Nat} (h1 : k < xs.length) (h2 : k < ys.length) (h : ¬ xs[k] = ys[k]) : decide (xs = ys) = false := by
  rw [decide_eq_false_iff_not]; intro e; subst e; exact h rfl
theorem eq_step {xs ys : List Int} {k : Nat} (h1 : k < xs.length) (h2 : k < ys.length) (h : xs[k] = ys[k]) (ht : xs.take k = ys.take k) : xs.take (k + 1) = ys.take (k + 1) := by
  rw [take_succ' xs k h1, take_succ' ys k h2, h, ht]
theorem eq_end {xs ys : List Int} {k : Nat} (h1 : xs.length ≤ k) (h2 : ys.length ≤ k) (ht : xs.take k = ys.take k) : decide (xs = ys) = true := by
  rw [List.take_of_length_le h1, List.take_of_length_le h2] at ht; simp [ht]


set_option maxHeartbeats 400000 in
theorem Equal_any (v1 v2 : Value) (xs ys : List Int) (w : World) (h1 : Ints w v1 xs) (h2 : Ints w v2 ys) :
    Calls Tryd.prog 20 #[v1, v2] w fun e w' => e = .returned (.bool (decide (xs = ys))) ∧ Below w.heap.size w w' := by
  obtain ⟨a, c, rfl, hl1, _, hc1⟩ := h1
  obtain ⟨a', c', rfl, hl2, _, hc2⟩ := h2
  by_cases hl : xs.length = ys.length
  · have HL := Lib.hid hl; clear hl
    have hle : xs.length ≤ ys.length := by have := HL.out; omega
    have hge : ys.length ≤ xs.length := by have := HL.out; omega
    go_enter Tryd.func20, Tryd.ntmps20
    go_wp2
    go_loopw [13] (fun i wr => ∃ k : Nat, k ≤ xs.length ∧ i = .int .i64 k ∧ xs.take k = ys.take k ∧ Below w.heap.size w wr) (fun i _ => xs.length - (intOf i).toNat)
    case atStart => exact ⟨0, Nat.zero_le _, rfl, rfl, Below.refl _ _⟩
    case round =>
      obtain ⟨k, hk, rfl, ht, hb⟩ := hrel
      have HT := Lib.hid ht; clear ht
      by_cases hlt : k < xs.length
      · have hlt2 : k < ys.length := by omega
        obtain ⟨b, off, rfl, hbl, hcell⟩ := hc1 (ne_nil_of_lt hlt)
        obtain ⟨b2, off2, rfl, hbl2, hcell2⟩ := hc2 (ne_nil_of_lt hlt2)
        have hcx := (hb.cell (p := ⟨b, off + k, none⟩) hbl).trans (hcell k hlt)
        have hcy := (hb.cell (p := ⟨b2, off2 + k, none⟩) hbl2).trans (hcell2 k hlt2)
        clear hcell hcell2 hc1 hc2
        by_cases hxy : xs[k] = ys[k]
        · have HXY := Lib.hid hxy
          have hne : (xs[k] != ys[k]) = false := by rw [hxy]; simp
          clear hxy
          go_wp2
          go_quiet (fail)
          go_wp2
          go_roundw
          case rel => exact ⟨k + 1, by omega, by go_num, eq_step hlt hlt2 HXY.out HT.out, below_drewN hb _⟩
          case measure => simp [intOf]; omega
        · have HXY := Lib.hid (ne_of_at hlt hlt2 hxy)
          have hne : (xs[k] != ys[k]) = true := by simpa using hxy
          clear hxy
          go_wp2
          go_quiet (fail)
          go_wp2
          go_ret
          exact ⟨ret_bool HXY.out.symm, below_drewN hb _⟩
      · have HE := Lib.hid (eq_end (k := k) (by omega) (by omega) HT.out)
        go_wp2
        go_ret
        exact ⟨ret_bool HE.out.symm, hb⟩
  · have HE := Lib.hid (ne_of_len hl)
    go_enter Tryd.func20, Tryd.ntmps20
    go_wp2
    go_ret
    exact ⟨ret_bool HE.out.symm, Below.refl _ _⟩
end Go.Proofs.YtlpnicfbgdfbnaaDoor

/- rooks.Rooks, awake. -/
namespace Go.Proofs.YtlpnicfbgdfbnaaDoor
open Go.RowKit

set_option maxHeartbeats 400000 in
theorem Rooks_no (v : Value) (xs : List Int) (w : World) (hv : Ints w v xs) (h : boardB xs = false) :
    Calls Tryd.prog 14 #[v] w fun e w' => e = .returned (.tuple #[.slice none 0 0, .int .i64 2]) ∧ Below w.heap.size w w' := by
  have C := valid_any v xs w hv
  rw [h] at C
  go_enter Tryd.func14, Tryd.ntmps14
  go_wp2_with (go_at_call 46; refine C.mono ?_; rintro e w1 ⟨rfl, hb⟩)
  go_ret2
  exact ⟨rfl, hb⟩

set_option maxHeartbeats 400000 in
theorem Rooks_yes (v : Value) (bs : List Nat) (w : World) (hv : Ints w v (toI bs)) (h : IsBoard bs) (ht : Tab w) :
    Calls Tryd.prog 14 #[v] w fun e w' => ∃ v', e = .returned (.tuple #[v', .int .i64 0]) ∧ OwnI 3 w.heap.size w' v' (toI (numL bs 0)) ∧ Below w.heap.size w w' := by
  have C := valid_any v _ w hv
  rw [boardB_board h] at C
  have N := Lib.hid (fun w1 (hb : Below w.heap.size w w1) => numbers_any bs 0 v w1 h.lt h.le (by decide) (hv.below hb) (ht.below hb))
  go_enter Tryd.func14, Tryd.ntmps14
  go_wp2_with (first | (go_at_call 46; refine C.mono ?_; rintro e w1 ⟨rfl, hb⟩) | (go_at_call 47; refine (N.out _ hb).mono ?_; rintro e w2 ⟨v2, rfl, ho, hb2⟩))
  go_ret2
  exact ⟨v2, rfl, ho.mono hb.size, hb.trans (hb2.mono hb.size)⟩

theorem numL_one : numL [1] 0 = [1, 1] := by decide

set_option maxHeartbeats 400000 in
theorem awake_any (w : World) (ht : Tab w) : Calls Tryd.prog 18 #[] w fun e w' => e = .returned (.bool true) ∧ Below w.heap.size w w' := by
  have hb0 : Below w.heap.size w (w.alloc (.cells #[.int .i64 1] 3)) := (Below.refl _ _).alloc (Nat.le_refl _) _
  have o1 := own_fresh (B := w.heap.size) w 3 [1] (Nat.le_refl _) (by decide)
  have C := Rooks_yes (.slice (some ⟨w.heap.size, 0, none⟩) 1 1) [1] _ (o1.ints (by decide)) ⟨by decide, by decide, by decide⟩ (ht.below hb0)
  rw [numL_one] at C
  go_enter Tryd.func18, Tryd.ntmps18
  go_wp2_with (go_at_call 14; refine C.mono ?_; rintro e w1 ⟨v1, rfl, ho1, hb1⟩)
  have hb1' := hb1.mono hb0.size
  have o2 := own_fresh (B := w.heap.size) w1 3 [1, 1] (by have := (hb0.trans hb1').size; omega) (by decide)
  have hb2 : Below w.heap.size w (w1.alloc (.cells #[.int .i64 1, .int .i64 1] 3)) := (hb0.trans hb1').alloc (by have := (hb0.trans hb1').size; omega) _
  have E := Equal_any v1 (.slice (some ⟨w1.heap.size, 0, none⟩) 2 2) _ [1, 1] _ ((ho1.alloc _).ints (by decide)) (o2.ints (by decide))
  rw [show decide (toI [1, 1] = [1, 1]) = true by decide] at E
  refine Calls.mono E ?_
  rintro e w2 ⟨rfl, hb3⟩
  rename_i Kx hKx
  refine hKx _ _ ?_
  go_wp2
  go_ret
  exact ⟨rfl, hb2.trans (hb3.mono hb2.size)⟩
end Go.Proofs.YtlpnicfbgdfbnaaDoor
