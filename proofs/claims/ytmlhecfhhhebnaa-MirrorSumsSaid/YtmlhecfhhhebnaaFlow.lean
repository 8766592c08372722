/- A REGION THAT DRAWS ITS ORDER, BY ONE GOAL AN OPERATION: each operation's value meets a predicate that the others keep. -/
import Derived.Test.YtmlhecfhhhebnaaSched
namespace Go.Proofs.Ytmlhecfhhhebnaa

/-- The bits of the operations that stand before each one. -/
def ancs (ops : Array Oper) : Array Nat :=
  ops.foldl (fun acc o => acc.push (o.after.foldl (fun m e => if Region.binds .any e then (m ||| 2 ^ e.on) ||| acc.getD e.on 0 else m) 0)) #[]
def anc (ops : Array Oper) (i j : Nat) : Bool := ((ancs ops).getD i 0).testBit j
def ancOk (ops : Array Oper) : Bool :=
  (List.range ops.size).all fun i => (List.range ops.size).all fun j => !anc ops i j || (match ops[i]? with | some o => o.after.any fun e => Region.binds .any e && (e.on == j || anc ops e.on j) | none => false)
def dstOf (ops : Array Oper) (j : Nat) : Option Nat := (ops[j]?).bind (·.dst)
def dstOk (ops : Array Oper) : Bool := (List.range ops.size).all fun i => (List.range ops.size).all fun j => i == j || (match dstOf ops i, dstOf ops j with | some a, some b => a != b | _, _ => true)

theorem updO_at_none (y : Nat → Value) (o : Oper) (v : Value) (h : o.dst = none) : updO y o.dst v = y := by rw [h]; rfl
theorem updO_at_some (y : Nat → Value) (o : Oper) (v : Value) (t : Nat) (h : o.dst = some t) : updO y o.dst v = upd y t v := by rw [h]; rfl
theorem updO_none (y : Nat → Value) (v : Value) : updO y none v = y := rfl

section
variable {P : Program} {ops : Array Oper} {Q : Exit → Act → World → Prop}

theorem ancOk_at (h : ancOk ops = true) {i j : Nat} (hi : i < ops.size) (hj : j < ops.size) (ha : anc ops i j = true) : ∃ o e, ops[i]? = some o ∧ e ∈ o.after ∧ Region.binds .any e = true ∧ (e.on = j ∨ anc ops e.on j = true) := by
  unfold ancOk at h
  have := List.all_eq_true.1 (List.all_eq_true.1 h i (List.mem_range.2 hi)) j (List.mem_range.2 hj)
  rw [ha] at this
  cases ho : ops[i]? with
  | none => rw [ho] at this; cases this
  | some o =>
    rw [ho] at this
    simp only [Bool.not_true, Bool.false_or, Array.any_eq_true'] at this
    obtain ⟨e, he, h2⟩ := this
    simp only [Bool.and_eq_true, Bool.or_eq_true, beq_iff_eq] at h2
    exact ⟨o, e, rfl, he, h2.1, h2.2⟩
theorem dstOk_at (h : dstOk ops = true) {i j : Nat} (hi : i < ops.size) (hj : j < ops.size) (hne : i ≠ j) {a b : Nat} (ha : dstOf ops i = some a) (hb : dstOf ops j = some b) : a ≠ b := by
  unfold dstOk at h
  have := List.all_eq_true.1 (List.all_eq_true.1 h i (List.mem_range.2 hi)) j (List.mem_range.2 hj)
  rw [ha, hb] at this
  simpa [hne] using this

/-- **THE LAW.** Ext: what every operation keeps to; V j: what operation j has brought about, said of the slots of j and of those before it. -/
theorem wp_region_flow {id : Nat} {a : Act} {w : World} (hm : P.follows .mixedOrders = true) (ds : List Nat) (hok : schedOk ops ds = true) (hanc : ancOk ops = true) (hdst : dstOk ops = true)
    (Ext : World → World → Prop) (hrefl : ∀ w, Ext w w) (htrans : ∀ a b c, Ext a b → Ext b c → Ext a c)
    (V : Nat → (Nat → Value) → World → Prop) (hV : ∀ j y w w', Ext w w' → V j y w → V j y w')
    (hVy : ∀ j y y' w, j < ops.size → (∀ i t, (anc ops j i = true ∨ i = j) → dstOf ops i = some t → y t = y' t) → V j y w → V j y' w)
    (hs : ∀ i o, ops[i]? = some o → ∀ y wx, Ext w.drew wx → (∀ j, anc ops i j = true → j < ops.size → V j y wx) → (∀ j t, (anc ops j i = true ∨ j = i) → j < ops.size → dstOf ops j = some t → y t = a.tmps.getD t undef) →
      RStep P ops Q o { tmps := hole a.tmps ds y, defers := a.defers } wx fun v w' => Ext wx w' ∧ V i (updO y o.dst v) w')
    (he : ∀ y wx, Ext w.drew wx → (∀ j, j < ops.size → V j y wx) → Q .normal { tmps := hole a.tmps ds y, defers := a.defers } wx) :
    (Code.region id ops true).wp P Q a w := by
  refine wp_region_sched hm ds hok (fun d y wx => Ext w.drew wx ∧ (∀ i o, ops[i]? = some o → d i = true → ∀ e ∈ o.after, Region.binds .any e = true → d e.on = true) ∧
    (∀ j, j < ops.size → d j = true → V j y wx) ∧ (∀ j t, j < ops.size → d j = false → dstOf ops j = some t → y t = a.tmps.getD t undef)) ?_ ?_ ?_
  · exact ⟨hrefl _, fun _ _ _ h => absurd h Bool.false_ne_true, fun _ _ h => absurd h Bool.false_ne_true, fun _ _ _ _ _ => rfl⟩
  · intro i o ho d y wx hdi hdep ⟨hx, hdown, hval, hini⟩
    have hi : i < ops.size := (Array.getElem?_eq_some_iff.1 ho).1
    have hle : ∀ i o, ops[i]? = some o → ∀ e ∈ o.after, Region.binds .any e = true → e.on < i := fun i o ho e he hb => schedOk_edge hok ho he hb
    have anc_done : ∀ n i j, i < n → i < ops.size → j < ops.size → anc ops i j = true → (∀ o, ops[i]? = some o → ∀ e ∈ o.after, Region.binds .any e = true → d e.on = true) → d j = true := by
      intro n
      induction n with
      | zero => intro i j h; omega
      | succ n ih =>
        intro i j hin hi hj ha hdn
        obtain ⟨o', e, ho', he, hb, hor⟩ := ancOk_at hanc hi hj ha
        have hde := hdn o' ho' e he hb
        have hlt := hle i o' ho' e he hb
        rcases hor with rfl | hor
        · exact hde
        · exact ih e.on j (by omega) (by omega) hj hor (fun o2 ho2 e2 he2 hb2 => hdown e.on o2 ho2 hde e2 he2 hb2)
    refine (hs i o ho y wx hx (fun j haj hj => hval j hj (anc_done (i + 1) i j (by omega) hi hj haj (fun o2 ho2 => by rw [ho] at ho2; cases ho2; exact hdep))) (fun j t hj hjs hdj => hini j t hjs ?_ hdj)).mono ?_
    · rcases hj with hj | rfl
      · cases hdd : d j with
        | false => rfl
        | true =>
          have := anc_done (j + 1) j i (by omega) hjs hi hj (fun o2 ho2 => hdown j o2 ho2 hdd)
          rw [hdi] at this; cases this
      · exact hdi
    · rintro v w' ⟨hx', hv⟩
      have hupd : ∀ j t, j < ops.size → j ≠ i → dstOf ops j = some t → updO y o.dst v t = y t := fun j t hj hne hdj => by
        unfold updO
        cases hod : o.dst with
        | none => rfl
        | some s =>
          have hdo : dstOf ops i = some s := by unfold dstOf; rw [ho]; exact hod
          have := dstOk_at hdst hj hi hne hdj hdo
          show upd y s v t = y t
          unfold upd; rw [if_neg this]
      refine ⟨htrans _ _ _ hx hx', fun i2 o2 ho2 hd2 e he hb => ?_, fun j hj hdj => ?_, fun j t hj hdj hdt => ?_⟩
      · by_cases e2 : i2 = i
        · subst e2
          rw [ho] at ho2; cases ho2
          have := hdep e he hb
          simp [this]
        · have h2 : d i2 = true := by simpa [e2] using hd2
          have := hdown i2 o2 ho2 h2 e he hb
          simp [this]
      · by_cases e2 : j = i
        · subst e2; exact hv
        · have h2 : d j = true := by simpa [e2] using hdj
          refine hV j _ _ _ hx' (hVy j y _ _ hj (fun i2 t hor hdt => ?_) (hval j hj h2))
          have hne : i2 ≠ i := by
            rintro rfl
            rcases hor with ha | ha
            · have := anc_done (j + 1) j i2 (by omega) hj hi ha (fun o2 ho2 => hdown j o2 ho2 h2)
              rw [hdi] at this; cases this
            · exact e2 ha.symm
          have hi2 : i2 < ops.size := by
            refine Nat.lt_of_not_le fun hge => ?_
            unfold dstOf at hdt
            rw [Array.getElem?_eq_none hge] at hdt
            cases hdt
          exact (hupd i2 t hi2 hne hdt).symm
      · have e2 : j ≠ i := fun e => by subst e; simp at hdj
        have h2 : d j = false := by simpa [e2] using hdj
        rw [hupd j t hj e2 hdt]
        exact hini j t hj h2 hdt
  · intro d y wx hd ⟨hx, _, hval, _⟩
    exact he y wx hx fun j hj => hval j hj (hd j hj)

/-- The same where the last operation waits for all others: it may do whatever leads on. c: an operation after which other facts hold (the last one: none such); the facts' first argument says whether it is done. -/
theorem wp_region_tail {id : Nat} {a : Act} {w : World} (hm : P.follows .mixedOrders = true) (ds : List Nat) (hok : schedOk ops ds = true) (hanc : ancOk ops = true) (hdst : dstOk ops = true)
    (m c : Nat) (hc : c ≤ m) (hsz : ops.size = m + 1) (hlast : (List.range m).all (fun j => anc ops m j) = true)
    (Ext : World → World → Prop) (hrefl : ∀ w, Ext w w) (htrans : ∀ a b c, Ext a b → Ext b c → Ext a c)
    (V : Bool → Nat → (Nat → Value) → World → Prop)
    (hVy : ∀ f j y y' w, j < m → (∀ i t, (anc ops j i = true ∨ i = j) → dstOf ops i = some t → y t = y' t) → V f j y w → V f j y' w)
    (hs : ∀ i o, i < m → ops[i]? = some o → ∀ f y wx, Ext w.drew wx → ((anc ops c i = true ∨ i = c) → f = false) → (∀ j, anc ops i j = true → j < m → V f j y wx) → (∀ j t, (anc ops j i = true ∨ j = i) → j < ops.size → dstOf ops j = some t → y t = a.tmps.getD t undef) →
      RStep P ops Q o { tmps := hole a.tmps ds y, defers := a.defers } wx fun v w' => Ext wx w' ∧ V (f || i == c) i (updO y o.dst v) w' ∧ ∀ j, j < m → j ≠ i → anc ops j i = false → V f j y wx → V (f || i == c) j y w')
    (hl : ∀ o, ops[m]? = some o → ∀ y wx, Ext w.drew wx → (∀ j, j < m → V (decide (c < m)) j y wx) → (∀ t, dstOf ops m = some t → y t = a.tmps.getD t undef) →
      RStep P ops Q o { tmps := hole a.tmps ds y, defers := a.defers } wx fun v w' => Q .normal { tmps := hole a.tmps ds (updO y o.dst v), defers := a.defers } w') :
    (Code.region id ops true).wp P Q a w := by
  have hla : ∀ j, j < m → anc ops m j = true := fun j hj => List.all_eq_true.1 hlast j (List.mem_range.2 hj)
  refine wp_region_sched hm ds hok (fun d y wx => (∀ i o, ops[i]? = some o → d i = true → ∀ e ∈ o.after, Region.binds .any e = true → d e.on = true) ∧
    (d m = true → Q .normal { tmps := hole a.tmps ds y, defers := a.defers } wx) ∧ (d m = false → Ext w.drew wx ∧
    (∀ j, j < m → d j = true → V (d c) j y wx) ∧ (∀ j t, j < ops.size → d j = false → dstOf ops j = some t → y t = a.tmps.getD t undef))) ?_ ?_ ?_
  · exact ⟨fun _ _ _ h => absurd h Bool.false_ne_true, fun h => absurd h Bool.false_ne_true, fun _ => ⟨hrefl _, fun _ _ h => absurd h Bool.false_ne_true, fun _ _ _ _ _ => rfl⟩⟩
  · intro i o ho d y wx hdi hdep ⟨hdown, _, hopen⟩
    have hi : i < ops.size := (Array.getElem?_eq_some_iff.1 ho).1
    have hle : ∀ i o, ops[i]? = some o → ∀ e ∈ o.after, Region.binds .any e = true → e.on < i := fun i o ho e he hb => schedOk_edge hok ho he hb
    have anc_done : ∀ n i j, i < n → i < ops.size → j < ops.size → anc ops i j = true → (∀ o, ops[i]? = some o → ∀ e ∈ o.after, Region.binds .any e = true → d e.on = true) → d j = true := by
      intro n
      induction n with
      | zero => intro i j h; omega
      | succ n ih =>
        intro i j hin hi hj ha hdn
        obtain ⟨o', e, ho', he, hb, hor⟩ := ancOk_at hanc hi hj ha
        have hde := hdn o' ho' e he hb
        have hlt := hle i o' ho' e he hb
        rcases hor with rfl | hor
        · exact hde
        · exact ih e.on j (by omega) (by omega) hj hor (fun o2 ho2 e2 he2 hb2 => hdown e.on o2 ho2 hde e2 he2 hb2)
    have hdm : d m = false := by
      cases hdd : d m with
      | false => rfl
      | true =>
        by_cases e : i = m
        · subst e; rw [hdi] at hdd; cases hdd
        · have := anc_done (m + 1) m i (by omega) (by omega) hi (hla i (by omega)) (fun o2 ho2 => hdown m o2 ho2 hdd)
          rw [hdi] at this; cases this
    obtain ⟨hx, hval, hini⟩ := hopen hdm
    have hdown' : ∀ i2 o2, ops[i2]? = some o2 → (i2 == i || d i2) = true → ∀ e ∈ o2.after, Region.binds .any e = true → (e.on == i || d e.on) = true := fun i2 o2 ho2 hd2 e he hb => by
      by_cases e2 : i2 = i
      · subst e2
        rw [ho] at ho2; cases ho2
        have := hdep e he hb
        simp [this]
      · have h2 : d i2 = true := by simpa [e2] using hd2
        have := hdown i2 o2 ho2 h2 e he hb
        simp [this]
    by_cases him : i = m
    · subst him
      have hdc : d c = decide (c < i) := by
        by_cases e : c = i
        · subst e; rw [hdi]; simp
        · rw [anc_done (i + 1) i c (by omega) hi (by omega) (hla c (by omega)) (fun o2 ho2 => by rw [ho] at ho2; cases ho2; exact hdep)]
          simp; omega
      refine (hl o ho y wx hx (fun j hj => by rw [← hdc]; exact hval j hj (anc_done (i + 1) i j (by omega) hi (by omega) (hla j hj) (fun o2 ho2 => by rw [ho] at ho2; cases ho2; exact hdep))) (fun t hdt => hini i t hi hdi hdt)).mono fun v w' hq => ?_
      exact ⟨hdown', fun _ => hq, fun h => by simp at h⟩
    · have hilt : i < m := by omega
      refine (hs i o hilt ho (d c) y wx hx (fun hor => by
        rcases hor with hor | rfl
        · cases hdd : d c with
          | false => rfl
          | true =>
            have := anc_done (c + 1) c i (by omega) (by omega) hi hor (fun o2 ho2 => hdown c o2 ho2 hdd)
            rw [hdi] at this; cases this
        · exact hdi) (fun j haj hj => hval j hj (anc_done (i + 1) i j (by omega) hi (by omega) haj (fun o2 ho2 => by rw [ho] at ho2; cases ho2; exact hdep))) (fun j t hj hjs hdj => hini j t hjs ?_ hdj)).mono ?_
      · rcases hj with hj | rfl
        · cases hdd : d j with
          | false => rfl
          | true =>
            have := anc_done (j + 1) j i (by omega) hjs hi hj (fun o2 ho2 => hdown j o2 ho2 hdd)
            rw [hdi] at this; cases this
        · exact hdi
      · rintro v w' ⟨hx', hv, hkeep⟩
        have hupd : ∀ j t, j < ops.size → j ≠ i → dstOf ops j = some t → updO y o.dst v t = y t := fun j t hj hne hdj => by
          unfold updO
          cases hod : o.dst with
          | none => rfl
          | some s =>
            have hdo : dstOf ops i = some s := by unfold dstOf; rw [ho]; exact hod
            have := dstOk_at hdst hj hi hne hdj hdo
            show upd y s v t = y t
            unfold upd; rw [if_neg this]
        have hm2 : (m == i || d m) = false := by simp [hdm]; omega
        refine ⟨hdown', fun h => absurd (show (m == i || d m) = true from h) (by rw [hm2]; exact Bool.false_ne_true), fun _ => ⟨htrans _ _ _ hx hx', fun j hj hdj => ?_, fun j t hj hdj hdt => ?_⟩⟩
        · by_cases e2 : j = i
          · subst e2
            have : (c == j || d c) = (d c || j == c) := by
              by_cases e : c = j
              · rw [e, Bool.or_comm]
              · have e1 : (c == j) = false := beq_eq_false_iff_ne.2 e
                have e2 : (j == c) = false := beq_eq_false_iff_ne.2 (fun h => e h.symm)
                rw [e1, e2, Bool.or_comm]
            show V (c == j || d c) _ _ _
            rw [this]; exact hv
          · have h2 : d j = true := by simpa [e2] using hdj
            have hji : anc ops j i = false := by
              cases hc : anc ops j i with
              | false => rfl
              | true =>
                have := anc_done (j + 1) j i (by omega) (by omega) hi hc (fun o2 ho2 => hdown j o2 ho2 h2)
                rw [hdi] at this; cases this
            have hfl : (c == i || d c) = (d c || i == c) := by
              by_cases e : c = i
              · rw [e, Bool.or_comm]
              · have e1 : (c == i) = false := beq_eq_false_iff_ne.2 e
                have e2 : (i == c) = false := beq_eq_false_iff_ne.2 (fun h => e h.symm)
                rw [e1, e2, Bool.or_comm]
            show V (c == i || d c) _ _ _
            rw [hfl]
            refine hVy _ j y _ _ hj (fun i2 t hor hdt => ?_) (hkeep j hj e2 hji (hval j hj h2))
            have hne : i2 ≠ i := by
              rintro rfl
              rcases hor with ha | ha
              · have := anc_done (j + 1) j i2 (by omega) (by omega) hi ha (fun o2 ho2 => hdown j o2 ho2 h2)
                rw [hdi] at this; cases this
              · exact e2 ha.symm
            have hi2 : i2 < ops.size := by
              refine Nat.lt_of_not_le fun hge => ?_
              unfold dstOf at hdt
              rw [Array.getElem?_eq_none hge] at hdt
              cases hdt
            exact (hupd i2 t hi2 hne hdt).symm
        · have e2 : j ≠ i := fun e => by subst e; simp at hdj
          have h2 : d j = false := by simpa [e2] using hdj
          rw [hupd j t hj e2 hdt]
          exact hini j t hj h2 hdt
  · intro d y wx hd ⟨_, hq, _⟩
    exact hq (hd m (by omega))

/-- The same with an invariant I of the worlds, whose first argument says whether c is done. c: an operation after which other facts hold (the last one: none such); the facts' first argument says whether it is done. -/
theorem wp_region_inv {id : Nat} {a : Act} {w : World} (hm : P.follows .mixedOrders = true) (ds : List Nat) (hok : schedOk ops ds = true) (hanc : ancOk ops = true) (hdst : dstOk ops = true)
    (m c : Nat) (hc : c ≤ m) (hsz : ops.size = m + 1) (hlast : (List.range m).all (fun j => anc ops m j) = true)
    (I : Bool → World → Prop) (hI : I false w.drew)
    (V : Bool → Nat → (Nat → Value) → World → Prop)
    (hVy : ∀ f j y y' w, j < m → (∀ i t, (anc ops j i = true ∨ i = j) → dstOf ops i = some t → y t = y' t) → V f j y w → V f j y' w)
    (hs : ∀ i o, i < m → ops[i]? = some o → ∀ f y wx, I f wx → ((anc ops c i = true ∨ i = c) → f = false) → (∀ j, anc ops i j = true → j < m → V f j y wx) → (∀ j t, (anc ops j i = true ∨ j = i) → j < ops.size → dstOf ops j = some t → y t = a.tmps.getD t undef) →
      RStep P ops Q o { tmps := hole a.tmps ds y, defers := a.defers } wx fun v w' => I (f || i == c) w' ∧ V (f || i == c) i (updO y o.dst v) w' ∧ ∀ j, j < m → j ≠ i → anc ops j i = false → V f j y wx → V (f || i == c) j y w')
    (hl : ∀ o, ops[m]? = some o → ∀ y wx, I (decide (c < m)) wx → (∀ j, j < m → V (decide (c < m)) j y wx) → (∀ t, dstOf ops m = some t → y t = a.tmps.getD t undef) →
      RStep P ops Q o { tmps := hole a.tmps ds y, defers := a.defers } wx fun v w' => Q .normal { tmps := hole a.tmps ds (updO y o.dst v), defers := a.defers } w') :
    (Code.region id ops true).wp P Q a w := by
  have hla : ∀ j, j < m → anc ops m j = true := fun j hj => List.all_eq_true.1 hlast j (List.mem_range.2 hj)
  refine wp_region_sched hm ds hok (fun d y wx => (∀ i o, ops[i]? = some o → d i = true → ∀ e ∈ o.after, Region.binds .any e = true → d e.on = true) ∧
    (d m = true → Q .normal { tmps := hole a.tmps ds y, defers := a.defers } wx) ∧ (d m = false → I (d c) wx ∧
    (∀ j, j < m → d j = true → V (d c) j y wx) ∧ (∀ j t, j < ops.size → d j = false → dstOf ops j = some t → y t = a.tmps.getD t undef))) ?_ ?_ ?_
  · exact ⟨fun _ _ _ h => absurd h Bool.false_ne_true, fun h => absurd h Bool.false_ne_true, fun _ => ⟨hI, fun _ _ h => absurd h Bool.false_ne_true, fun _ _ _ _ _ => rfl⟩⟩
  · intro i o ho d y wx hdi hdep ⟨hdown, _, hopen⟩
    have hi : i < ops.size := (Array.getElem?_eq_some_iff.1 ho).1
    have hle : ∀ i o, ops[i]? = some o → ∀ e ∈ o.after, Region.binds .any e = true → e.on < i := fun i o ho e he hb => schedOk_edge hok ho he hb
    have anc_done : ∀ n i j, i < n → i < ops.size → j < ops.size → anc ops i j = true → (∀ o, ops[i]? = some o → ∀ e ∈ o.after, Region.binds .any e = true → d e.on = true) → d j = true := by
      intro n
      induction n with
      | zero => intro i j h; omega
      | succ n ih =>
        intro i j hin hi hj ha hdn
        obtain ⟨o', e, ho', he, hb, hor⟩ := ancOk_at hanc hi hj ha
        have hde := hdn o' ho' e he hb
        have hlt := hle i o' ho' e he hb
        rcases hor with rfl | hor
        · exact hde
        · exact ih e.on j (by omega) (by omega) hj hor (fun o2 ho2 e2 he2 hb2 => hdown e.on o2 ho2 hde e2 he2 hb2)
    have hdm : d m = false := by
      cases hdd : d m with
      | false => rfl
      | true =>
        by_cases e : i = m
        · subst e; rw [hdi] at hdd; cases hdd
        · have := anc_done (m + 1) m i (by omega) (by omega) hi (hla i (by omega)) (fun o2 ho2 => hdown m o2 ho2 hdd)
          rw [hdi] at this; cases this
    obtain ⟨hx, hval, hini⟩ := hopen hdm
    have hdown' : ∀ i2 o2, ops[i2]? = some o2 → (i2 == i || d i2) = true → ∀ e ∈ o2.after, Region.binds .any e = true → (e.on == i || d e.on) = true := fun i2 o2 ho2 hd2 e he hb => by
      by_cases e2 : i2 = i
      · subst e2
        rw [ho] at ho2; cases ho2
        have := hdep e he hb
        simp [this]
      · have h2 : d i2 = true := by simpa [e2] using hd2
        have := hdown i2 o2 ho2 h2 e he hb
        simp [this]
    by_cases him : i = m
    · subst him
      have hdc : d c = decide (c < i) := by
        by_cases e : c = i
        · subst e; rw [hdi]; simp
        · rw [anc_done (i + 1) i c (by omega) hi (by omega) (hla c (by omega)) (fun o2 ho2 => by rw [ho] at ho2; cases ho2; exact hdep)]
          simp; omega
      refine (hl o ho y wx (by rw [← hdc]; exact hx) (fun j hj => by rw [← hdc]; exact hval j hj (anc_done (i + 1) i j (by omega) hi (by omega) (hla j hj) (fun o2 ho2 => by rw [ho] at ho2; cases ho2; exact hdep))) (fun t hdt => hini i t hi hdi hdt)).mono fun v w' hq => ?_
      exact ⟨hdown', fun _ => hq, fun h => by simp at h⟩
    · have hilt : i < m := by omega
      refine (hs i o hilt ho (d c) y wx hx (fun hor => by
        rcases hor with hor | rfl
        · cases hdd : d c with
          | false => rfl
          | true =>
            have := anc_done (c + 1) c i (by omega) (by omega) hi hor (fun o2 ho2 => hdown c o2 ho2 hdd)
            rw [hdi] at this; cases this
        · exact hdi) (fun j haj hj => hval j hj (anc_done (i + 1) i j (by omega) hi (by omega) haj (fun o2 ho2 => by rw [ho] at ho2; cases ho2; exact hdep))) (fun j t hj hjs hdj => hini j t hjs ?_ hdj)).mono ?_
      · rcases hj with hj | rfl
        · cases hdd : d j with
          | false => rfl
          | true =>
            have := anc_done (j + 1) j i (by omega) hjs hi hj (fun o2 ho2 => hdown j o2 ho2 hdd)
            rw [hdi] at this; cases this
        · exact hdi
      · rintro v w' ⟨hx', hv, hkeep⟩
        have hupd : ∀ j t, j < ops.size → j ≠ i → dstOf ops j = some t → updO y o.dst v t = y t := fun j t hj hne hdj => by
          unfold updO
          cases hod : o.dst with
          | none => rfl
          | some s =>
            have hdo : dstOf ops i = some s := by unfold dstOf; rw [ho]; exact hod
            have := dstOk_at hdst hj hi hne hdj hdo
            show upd y s v t = y t
            unfold upd; rw [if_neg this]
        have hm2 : (m == i || d m) = false := by simp [hdm]; omega
        refine ⟨hdown', fun h => absurd (show (m == i || d m) = true from h) (by rw [hm2]; exact Bool.false_ne_true), fun _ => ⟨by
            have hfl : (c == i || d c) = (d c || i == c) := by
              by_cases e : c = i
              · rw [e, Bool.or_comm]
              · have e1 : (c == i) = false := beq_eq_false_iff_ne.2 e
                have e2 : (i == c) = false := beq_eq_false_iff_ne.2 (fun h => e h.symm)
                rw [e1, e2, Bool.or_comm]
            show I (c == i || d c) _
            rw [hfl]; exact hx', fun j hj hdj => ?_, fun j t hj hdj hdt => ?_⟩⟩
        · by_cases e2 : j = i
          · subst e2
            have : (c == j || d c) = (d c || j == c) := by
              by_cases e : c = j
              · rw [e, Bool.or_comm]
              · have e1 : (c == j) = false := beq_eq_false_iff_ne.2 e
                have e2 : (j == c) = false := beq_eq_false_iff_ne.2 (fun h => e h.symm)
                rw [e1, e2, Bool.or_comm]
            show V (c == j || d c) _ _ _
            rw [this]; exact hv
          · have h2 : d j = true := by simpa [e2] using hdj
            have hji : anc ops j i = false := by
              cases hc : anc ops j i with
              | false => rfl
              | true =>
                have := anc_done (j + 1) j i (by omega) (by omega) hi hc (fun o2 ho2 => hdown j o2 ho2 h2)
                rw [hdi] at this; cases this
            have hfl : (c == i || d c) = (d c || i == c) := by
              by_cases e : c = i
              · rw [e, Bool.or_comm]
              · have e1 : (c == i) = false := beq_eq_false_iff_ne.2 e
                have e2 : (i == c) = false := beq_eq_false_iff_ne.2 (fun h => e h.symm)
                rw [e1, e2, Bool.or_comm]
            show V (c == i || d c) _ _ _
            rw [hfl]
            refine hVy _ j y _ _ hj (fun i2 t hor hdt => ?_) (hkeep j hj e2 hji (hval j hj h2))
            have hne : i2 ≠ i := by
              rintro rfl
              rcases hor with ha | ha
              · have := anc_done (j + 1) j i2 (by omega) (by omega) hi ha (fun o2 ho2 => hdown j o2 ho2 h2)
                rw [hdi] at this; cases this
              · exact e2 ha.symm
            have hi2 : i2 < ops.size := by
              refine Nat.lt_of_not_le fun hge => ?_
              unfold dstOf at hdt
              rw [Array.getElem?_eq_none hge] at hdt
              cases hdt
            exact (hupd i2 t hi2 hne hdt).symm
        · have e2 : j ≠ i := fun e => by subst e; simp at hdj
          have h2 : d j = false := by simpa [e2] using hdj
          rw [hupd j t hj e2 hdt]
          exact hini j t hj h2 hdt
  · intro d y wx hd ⟨_, hq, _⟩
    exact hq (hd m (by omega))
end
end Go.Proofs.Ytmlhecfhhhebnaa
