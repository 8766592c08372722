/- A REGION THAT DRAWS ITS ORDER, BY ONE GOAL AN OPERATION: what has been done is a predicate on the set of operations done, the slots written and the world. -/
import Derived.Orders
import Derived.Deep.RegionWith
namespace Go.Proofs.Ytmlhecfhhhebnaa

/-- The frame whose slots ds hold y. -/
def hole (base : Array Value) (ds : List Nat) (y : Nat → Value) : Array Value := ds.foldl (fun t d => t.setIfInBounds d (y d)) base
def upd (y : Nat → Value) (d : Nat) (v : Value) : Nat → Value := fun t => if t = d then v else y t
def updO (y : Nat → Value) (d : Option Nat) (v : Value) : Nat → Value := match d with | some t => upd y t v | none => y

theorem hole_get (ds : List Nat) (y : Nat → Value) : ∀ (base : Array Value) (i : Nat), (hole base ds y)[i]? = if i ∈ ds then (if i < base.size then some (y i) else none) else base[i]? := by
  induction ds with
  | nil => intro base i; simp [hole]
  | cons d ds ih =>
    intro base i
    have := ih (base.setIfInBounds d (y d)) i
    unfold hole at this ⊢
    rw [List.foldl_cons, this]
    by_cases h : i ∈ ds
    · simp [h]
    · by_cases hd : i = d
      · subst hd
        simp [h, Array.getElem?_setIfInBounds]
      · simp [h, hd, Ne.symm hd]

theorem hole_put (base : Array Value) (ds : List Nat) (y : Nat → Value) (d : Nat) (v : Value) (hd : d ∈ ds) : (hole base ds y).setIfInBounds d v = hole base ds (upd y d v) := by
  refine Array.ext_getElem? fun i => ?_
  rw [Array.getElem?_setIfInBounds, hole_get, hole_get]
  have hs : (hole base ds y).size = base.size := by
    have : ∀ (ds : List Nat) (b : Array Value), (hole b ds y).size = b.size := by
      intro ds
      induction ds with
      | nil => intro b; rfl
      | cons e es ih => intro b; unfold hole at ih ⊢; rw [List.foldl_cons, ih]; simp
    exact this ds base
  by_cases h : d = i
  · subst h
    simp [hd, hs, upd]
  · have : (upd y d v) i = y i := by simp [upd, Ne.symm h]
    simp [h, this]

theorem hole_self (ds : List Nat) : ∀ (base : Array Value) , hole base ds (fun t => base.getD t undef) = base := by
  intro base
  refine Array.ext_getElem? fun i => ?_
  rw [hole_get]
  by_cases h : i ∈ ds
  · rw [if_pos h]
    by_cases hi : i < base.size
    · simp [hi]
    · simp [hi]
  · rw [if_neg h]

section
variable {P : Program} {ops : Array Oper} {Q : Exit → Act → World → Prop}

/-- One operation of the region: what its value and the world behind it must meet. -/
def RStep (P : Program) (ops : Array Oper) (Q : Exit → Act → World → Prop) (o : Oper) (a : Act) (w : World) (post : Value → World → Prop) : Prop :=
  ∀ K : Act → World → Prop, (∀ v w', post v w' → K (a.put o.dst v) w') →
    if Region.wanted o (yielded ops a.tmps) then o.wp P a w K Q ∨ (o.asks P a w ∧ LetsOut Q) else K (a.put o.dst undef) w

theorem RStep.mono {o : Oper} {a : Act} {w : World} {p q : Value → World → Prop} (h : RStep P ops Q o a w p) (hpq : ∀ v w', p v w' → q v w') : RStep P ops Q o a w q :=
  fun K hK => h K fun v w' hp => hK v w' (hpq v w' hp)

/-- A slot's list, and that the edges lead backward. -/
def schedOk (ops : Array Oper) (ds : List Nat) : Bool :=
  ops.zipIdx.toList.all fun p => (match p.1.dst with | some d => ds.contains d | none => true) && p.1.after.all fun e => !Region.binds .any e || decide (e.on < p.2)

theorem schedOk_dst {ds : List Nat} (h : schedOk ops ds = true) {i : Nat} {o : Oper} (ho : ops[i]? = some o) {d : Nat} (hd : o.dst = some d) : d ∈ ds := by
  have := List.all_eq_true.1 h (o, i) (by
    rw [Array.mem_toList_iff, Array.mem_zipIdx_iff_getElem?]; exact ho)
  simp only [Bool.and_eq_true, hd] at this
  simpa using this.1
theorem schedOk_edge {ds : List Nat} (h : schedOk ops ds = true) {i : Nat} {o : Oper} (ho : ops[i]? = some o) {e : Edge} (he : e ∈ o.after) (hb : Region.binds .any e = true) : e.on < i := by
  have := List.all_eq_true.1 h (o, i) (by
    rw [Array.mem_toList_iff, Array.mem_zipIdx_iff_getElem?]; exact ho)
  simp only [Bool.and_eq_true] at this
  have h2 := Array.all_eq_true'.1 this.2 e he
  simpa [hb] using h2

theorem getD_both {l : Array Bool} {i : Nat} (h : i < l.size) (b : Bool) : l.getD i b = l[i] := by simp [Array.getD, h]

theorem wpAny_sched (ds : List Nat) (hok : schedOk ops ds = true) (base : Array Value) (dfs : List Deferred) (S : (Nat → Bool) → (Nat → Value) → World → Prop)
    (hs : ∀ i o, ops[i]? = some o → ∀ d y w, d i = false → (∀ e ∈ o.after, Region.binds .any e = true → d e.on = true) → S d y w →
      RStep P ops Q o { tmps := hole base ds y, defers := dfs } w fun v w' => S (fun j => j == i || d j) (updO y o.dst v) w')
    (he : ∀ d y w, (∀ i, i < ops.size → d i = true) → S d y w → Q .normal { tmps := hole base ds y, defers := dfs } w) :
    ∀ (fuel : Nat) (listed : Array Bool) (y : Nat → Value) (w : World), listed.size = ops.size → ((List.range ops.size).filter fun i => !listed.getD i true).length ≤ fuel →
      S (fun i => listed.getD i false) y w → wpAny P .any ops Q fuel listed { tmps := hole base ds y, defers := dfs } w := by
  have hready : ∀ listed : Array Bool, listed.size = ops.size → Region.ready .any ops listed = [] → ∀ i, i < ops.size → listed.getD i false = true := by
    intro listed hsz hr
    intro i
    induction i using Nat.strongRecOn with
    | _ i ih =>
      intro hi
      cases hl : listed.getD i false with
      | true => rfl
      | false =>
        exfalso
        have ho : ops[i]? = some ops[i] := Array.getElem?_eq_getElem hi
        have hmem : i ∈ Region.ready .any ops listed := by
          unfold Region.ready
          rw [List.mem_filter]
          refine ⟨List.mem_range.2 hi, ?_⟩
          have h1 : listed.getD i true = false := by
            have hi' : i < listed.size := by omega
            simp only [Array.getD, hi', dite_true] at hl ⊢
            exact hl
          rw [ho]
          simp only [h1, Bool.not_false, Bool.true_and, Option.map_some, Option.getD_some]
          rw [Array.all_eq_true']
          intro e he'
          by_cases hb : Region.binds .any e = true
          · have := schedOk_edge hok ho he' hb
            rw [ih e.on this (by omega)]; simp
          · simp [Bool.eq_false_iff.2 hb]
        rw [hr] at hmem
        cases hmem
  intro fuel
  induction fuel with
  | zero =>
    intro listed y w hsz hcnt hS
    have hall : ∀ i, i < ops.size → listed.getD i false = true := by
      intro i hi
      have hnil := List.length_eq_zero_iff.1 (Nat.le_zero.1 hcnt)
      have := List.filter_eq_nil_iff.1 hnil i (List.mem_range.2 hi)
      have hi' : i < listed.size := by omega
      simp only [Array.getD, hi', dite_true] at this ⊢
      simpa using this
    refine ⟨?_, he _ y w hall hS⟩
    unfold Region.ready
    rw [List.filter_eq_nil_iff]
    intro i hi
    have := hall i (List.mem_range.1 hi)
    have hi' : i < listed.size := by have := List.mem_range.1 hi; omega
    rw [getD_both hi'] at this
    rw [getD_both hi', this]; simp
  | succ fuel ih =>
    intro listed y w hsz hcnt hS
    refine ⟨fun hr => he _ y w (hready listed hsz hr) hS, fun i hi => ?_⟩
    unfold Region.ready at hi
    rw [List.mem_filter] at hi
    obtain ⟨hi1, hi2⟩ := hi
    have hlt := List.mem_range.1 hi1
    have hlt' : i < listed.size := by omega
    have ho : ops[i]? = some ops[i] := Array.getElem?_eq_getElem hlt
    rw [ho] at hi2
    simp only [Option.map_some, Option.getD_some, Bool.and_eq_true, Bool.not_eq_true'] at hi2
    have hf : listed.getD i false = false := by
      have := hi2.1
      simp only [Array.getD, hlt', dite_true] at this ⊢
      exact this
    have hedge : ∀ e ∈ ops[i].after, Region.binds .any e = true → listed.getD e.on false = true := by
      intro e he' hb
      have := Array.all_eq_true'.1 hi2.2 e he'
      simpa [hb] using this
    have st := hs i ops[i] ho (fun i => listed.getD i false) y w hf hedge hS
    unfold wpOp
    simp only [ho]
    refine st (wpAny P .any ops Q fuel (listed.setIfInBounds i true)) ?_
    intro v w' hS'
    have hput : ({ tmps := hole base ds y, defers := dfs } : Act).put ops[i].dst v = { tmps := hole base ds (updO y ops[i].dst v), defers := dfs } := by
      unfold Act.put updO
      cases hd : ops[i].dst with
      | none => rfl
      | some d => simp only []; rw [hole_put _ _ _ _ _ (schedOk_dst hok ho hd)]
    rw [hput]
    refine ih _ _ _ (by simpa using hsz) ?_ ?_
    · have h1 : ((List.range ops.size).filter fun j => !(listed.setIfInBounds i true).getD j true) = ((List.range ops.size).filter fun j => !listed.getD j true).filter (fun j => !(j == i)) := by
        rw [List.filter_filter]
        refine List.filter_congr fun j hj => ?_
        have hj' : j < listed.size := by have := List.mem_range.1 hj; omega
        by_cases hji : j = i
        · subst hji
          rw [getD_both (by simpa using hj')]
          simp
        · have : (j == i) = false := by simpa using hji
          rw [getD_both (by simpa using hj'), getD_both hj', this, Array.getElem_setIfInBounds_ne (by simpa using hj') (Ne.symm hji)]
          simp
      rw [h1]
      have hmem : i ∈ (List.range ops.size).filter fun j => !listed.getD j true := by
        rw [List.mem_filter]
        exact ⟨hi1, by rw [getD_both hlt'] at hf; rw [getD_both hlt', hf]; rfl⟩
      have : ((List.filter (fun j => !listed.getD j true) (List.range ops.size)).filter (fun j => !(j == i))).length < (List.filter (fun j => !listed.getD j true) (List.range ops.size)).length :=
        List.length_filter_lt_length_iff_exists.2 ⟨i, hmem, by simp⟩
      omega
    · have : (fun j => (listed.setIfInBounds i true).getD j false) = fun j => j == i || listed.getD j false := by
        funext j
        by_cases hji : j = i
        · subst hji; simp [Array.getD, hlt']
        · have h1 : (j == i) = false := by simpa using hji
          rw [h1, Bool.false_or]
          by_cases hj : j < listed.size
          · rw [getD_both (by simpa using hj), getD_both hj, Array.getElem_setIfInBounds_ne (by simpa using hj) (Ne.symm hji)]
          · simp [Array.getD, hj]
      rw [this]
      exact hS'

/-- **THE LAW.** -/
theorem wp_region_sched {id : Nat} {a : Act} {w : World} (hm : P.follows .mixedOrders = true) (ds : List Nat) (hok : schedOk ops ds = true) (S : (Nat → Bool) → (Nat → Value) → World → Prop)
    (h0 : S (fun _ => false) (fun t => a.tmps.getD t undef) w.drew)
    (hs : ∀ i o, ops[i]? = some o → ∀ d y w, d i = false → (∀ e ∈ o.after, Region.binds .any e = true → d e.on = true) → S d y w →
      RStep P ops Q o { tmps := hole a.tmps ds y, defers := a.defers } w fun v w' => S (fun j => j == i || d j) (updO y o.dst v) w')
    (he : ∀ d y w, (∀ i, i < ops.size → d i = true) → S d y w → Q .normal { tmps := hole a.tmps ds y, defers := a.defers } w) :
    (Code.region id ops true).wp P Q a w := by
  refine wp_region_any hm ?_
  have hself := hole_self ds a.tmps
  have key := wpAny_sched (P := P) (Q := Q) ds hok a.tmps a.defers S hs he ops.size (Array.replicate ops.size false) (fun t => a.tmps.getD t undef) w.drew (by simp)
    (Nat.le_trans (List.length_filter_le _ _) (by simp)) (by
      have : (fun i => (Array.replicate ops.size false).getD i false) = fun _ => false := by
        funext i
        simp only [Array.getD, Array.size_replicate]
        split
        · simp
        · rfl
      rw [this]; exact h0)
  rw [hself] at key
  exact key

/-! ### What one operation does -/
theorem rstep_value {o : Oper} {a : Act} {w w' : World} {v : Value} {post : Value → World → Prop} (hg : o.guard = none) (hr : (execOp a.eval o).run P w = .ok (.value v) w') (hp : post v w') : RStep P ops Q o a w post := by
  intro K hK
  have hw : Region.wanted o (yielded ops a.tmps) = true := by simp [Region.wanted, hg]
  rw [if_pos hw]
  refine .inl ?_
  unfold Oper.wp
  rw [hr]
  exact hK v w' hp
theorem rstep_skip {o : Oper} {a : Act} {w w' : World} {post : Value → World → Prop} (hg : o.guard = none) (hr : (execOp a.eval o).run P w = .ok .skip w') (hp : post undef w') : RStep P ops Q o a w post := by
  intro K hK
  have hw : Region.wanted o (yielded ops a.tmps) = true := by simp [Region.wanted, hg]
  rw [if_pos hw]
  refine .inl ?_
  unfold Oper.wp
  rw [hr]
  exact hK undef w' hp
theorem rstep_call {o : Oper} {a : Act} {w w' : World} {f : FuncId} {args : Array Value} {R : Ending → World → Prop} {post : Value → World → Prop} (hg : o.guard = none) (hr : (execOp a.eval o).run P w = .ok (.enter f args) w')
    (hc : Calls P f args w' R) (hp : ∀ e w'', R e w'' → ∃ v, e = .returned v ∧ post v w'') : RStep P ops Q o a w post := by
  intro K hK
  have hw : Region.wanted o (yielded ops a.tmps) = true := by simp [Region.wanted, hg]
  rw [if_pos hw]
  refine .inl ?_
  unfold Oper.wp
  rw [hr]
  refine Calls.mono hc fun e w'' hR => ?_
  obtain ⟨v, rfl, hv⟩ := hp e w'' hR
  exact hK v w'' hv
end
end Go.Proofs.Ytmlhecfhhhebnaa
