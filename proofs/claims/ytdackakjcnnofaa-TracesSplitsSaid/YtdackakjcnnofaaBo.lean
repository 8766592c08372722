/- How often the elements of a group leave numbers where they are: a class function; summed, the elements times the orbits (plain). -/
import Derived.Test.YtdackakjcnnofaaA2
import Derived.Test.YtdackakjcnnofaaB1
import Derived.Test.YtdackakjcnnofaaA13
namespace Go.Proofs.Ytdackakjcnnofaa

/-- Where a permutation takes a number from. -/
def actI (p : List Nat) (x : Nat) : Nat := p.findIdx (· == x)
section
variable {d : Nat} {E : List (List Nat)}
theorem Grp.actI_spec (h : Grp d E) {p : List Nat} (hp : p ∈ E) {x : Nat} (hx : x < d) : actI p x < d ∧ p.getD (actI p x) 0 = x := by
  obtain ⟨b, hb, e⟩ := h.inv hp
  have hpl := (h.perm p hp).len
  have hbl := (h.perm b hb).len
  have h1 : p.getD (b.getD x 0) 0 = x := by
    rw [← mulP_get (a := p) (b := b) (i := x) (by omega), e, oneP_getD hx]
  have hbx : b.getD x 0 < d := perm_getD_lt (h.perm b hb) hx
  have hmem : x ∈ p := by
    rw [← h1, List.getD_eq_getElem?_getD, List.getElem?_eq_getElem (by omega)]
    exact List.getElem_mem (by omega)
  have hlt : actI p x < p.length := List.findIdx_lt_length.2 ⟨x, hmem, by simp⟩
  refine ⟨by omega, ?_⟩
  have := List.findIdx_getElem (p := (· == x)) (xs := p) (w := hlt)
  rw [beq_iff_eq] at this
  rw [List.getD_eq_getElem?_getD, List.getElem?_eq_getElem hlt]
  exact this
theorem Perm1.injB {p : List Nat} (hp : Perm1 d p) {i j : Nat} (hi : i < d) (hj : j < d) (e : p.getD i 0 = p.getD j 0) : i = j := by
  have hl := hp.len
  rw [List.getD_eq_getElem?_getD, List.getD_eq_getElem?_getD, List.getElem?_eq_getElem (by omega), List.getElem?_eq_getElem (by omega)] at e
  exact (List.getElem_inj hp.nodup).1 e
theorem Grp.actI_iff (h : Grp d E) {p : List Nat} (hp : p ∈ E) {x i : Nat} (hx : x < d) (hi : i < d) : actI p x = i ↔ p.getD i 0 = x := by
  have hs := h.actI_spec hp hx
  constructor
  · rintro rfl; exact hs.2
  · intro e
    exact (h.perm p hp).injB hs.1 hi (by rw [hs.2, e])
theorem Grp.actI_on (h : Grp d E) : ActOn d d E actI := by
  refine ⟨fun p hp x hx => (h.actI_spec hp hx).1, fun x hx => (h.actI_iff h.one hx hx).2 (oneP_getD hx), fun p hp q hq x hx => ?_⟩
  have h1 := h.actI_spec hp hx
  have h2 := h.actI_spec hq h1.1
  refine ((h.actI_iff (h.mul p hp q hq) hx h2.1).2 ?_).symm
  rw [mulP_get (by rw [(h.perm q hq).len]; exact h2.1), h2.2, h1.2]
theorem Grp.actI_first (h : Grp d E) {x : Nat} (hx : x < d) : firstX E actI x = firstO E x := by
  rw [Bool.eq_iff_iff, firstX_iff, firstO_iff]
  constructor
  · intro hh k hk
    rw [Bool.eq_false_iff]
    intro ho
    obtain ⟨p, hp, e⟩ := orbB_iff.1 ho
    have := hh p hp
    rw [(h.actI_iff hp hx (by omega)).2 e] at this
    omega
  · intro hh p hp
    rcases Nat.lt_or_ge (actI p x) x with hlt | hge
    · exfalso
      have := hh _ hlt
      rw [Bool.eq_false_iff] at this
      exact this (orbB_iff.2 ⟨p, hp, (h.actI_spec hp hx).2⟩)
    · exact hge
/-- Summed over the elements: how often numbers stay. -/
theorem Grp.fix_sum (h : Grp d E) : (E.map fixP).sum = E.length * (orbitsN E d).length := by
  have hb := h.actI_on.burnside h
  have e1 : (E.map fun p => (List.range d).countP fun x => actI p x == x).sum = (E.map fixP).sum := sum_congr fun p hp => by
    unfold fixP
    rw [(h.perm p hp).len]
    refine List.countP_congr fun x hx => ?_
    rw [beq_iff_eq, beq_iff_eq]
    exact h.actI_iff hp (List.mem_range.1 hx) (List.mem_range.1 hx)
  have e2 : (List.range d).countP (firstX E actI) = (orbitsN E d).length := by
    unfold orbitsN
    rw [List.length_map, ← List.countP_eq_length_filter]
    refine List.countP_congr fun x hx => ?_
    rw [h.actI_first (List.mem_range.1 hx)]
  rw [e1, e2] at hb
  exact hb
theorem Grp.range_perm (h : Grp d E) {g : List Nat} (hg : g ∈ E) : g.Perm (List.range d) := by
  refine (List.perm_ext_iff_of_nodup (h.perm g hg).nodup List.nodup_range).2 fun x => ⟨fun hx => List.mem_range.2 ((h.perm g hg).lt x hx), fun hx => ?_⟩
  have hs := h.actI_spec hg (List.mem_range.1 hx)
  have hl := (h.perm g hg).len
  rw [← hs.2, List.getD_eq_getElem?_getD, List.getElem?_eq_getElem (by omega)]
  exact List.getElem_mem (by omega)
/-- Conjugate elements leave equally many numbers where they are. -/
theorem Grp.fix_conj (h : Grp d E) {g a b : List Nat} (hg : g ∈ E) (ha : a ∈ E) (hb : b ∈ E) (e : mulP g a = mulP b g) : fixP b = fixP a := by
  have hgl := (h.perm g hg).len
  have hal := (h.perm a ha).len
  have hbl := (h.perm b hb).len
  unfold fixP
  rw [hal, hbl, ← (h.range_perm hg).countP_eq]
  have hgm : g = (List.range d).map fun i => g.getD i 0 := by
    apply List.ext_getElem (by simp [hgl])
    intro i h1 h2
    simp [List.getD_eq_getElem?_getD, h1]
  conv => lhs; rw [hgm]
  rw [List.countP_map]
  refine List.countP_congr fun i hi => ?_
  have hi := List.mem_range.1 hi
  show ((b.getD (g.getD i 0) 0 == g.getD i 0) = true) ↔ _
  rw [beq_iff_eq, beq_iff_eq, ← mulP_get (by omega), ← e, mulP_get (by omega)]
  exact ⟨fun hh => (h.perm g hg).injB (perm_getD_lt (h.perm a ha) hi) hi hh, fun hh => by rw [hh]⟩
theorem Grp.fix_inv (h : Grp d E) {a b : List Nat} (ha : a ∈ E) (hb : b ∈ E) (e : mulP a b = oneP d) : fixP b = fixP a := by
  have hal := (h.perm a ha).len
  have hbl := (h.perm b hb).len
  unfold fixP
  rw [hal, hbl]
  refine List.countP_congr fun i hi => ?_
  have hi := List.mem_range.1 hi
  have h1 : ∀ j, j < d → a.getD (b.getD j 0) 0 = j := fun j hj => by rw [← mulP_get (by omega), e, oneP_getD hj]
  rw [beq_iff_eq, beq_iff_eq]
  constructor
  · intro hh
    have := h1 i hi
    rw [hh] at this; exact this
  · intro hh
    exact (h.perm a ha).injB (perm_getD_lt (h.perm b hb) hi) hi (by rw [h1 i hi, hh])
theorem Grp.fix_cls (h : Grp d E) {k r x : Nat} (hk : (repsN E E.length)[k]? = some r) (hx : x < E.length) (hc : clsOf E x = k) : fixP (elP E x) = fixP (elP E r) := by
  have hr := (reps_mem.1 (List.mem_of_getElem? hk)).1
  obtain ⟨c, hcl, hce⟩ := conjB_iff.1 ((h.cls_iff hk hx).1 hc)
  have e := (h.cj_iff hcl hr hx).1 hce
  refine h.fix_conj (elP_mem hcl) (elP_mem hr) (elP_mem hx) ?_
  rw [← h.el_times hcl hr, ← h.el_times hx hcl, e]
theorem fixedN_get {k r : Nat} (hk : (repsN E E.length)[k]? = some r) : (fixedN E).getD k 0 = fixP (elP E r) := by
  unfold fixedN
  rw [List.getD_eq_getElem?_getD, List.getElem?_map, hk]; rfl
theorem Grp.fixed_cls (h : Grp d E) {x : Nat} (hx : x < E.length) : (fixedN E).getD (clsOf E x) 0 = fixP (elP E x) := by
  have hl := h.cls_lt hx
  have hk := List.getElem?_eq_getElem hl
  rw [fixedN_get hk, h.fix_cls hk hx rfl]
/-- A sum over the elements of what hangs on the class alone. -/
theorem Grp.cls_sum (h : Grp d E) (f : Nat → Nat) : ((List.range E.length).map fun a => f (clsOf E a)).sum = ((List.range (repsN E E.length).length).map fun k => ((classesN E).getD k []).length * f k).sum := by
  have e1 : ((List.range E.length).map fun a => f (clsOf E a)).sum = ((List.range E.length).map fun a => ((List.range (repsN E E.length).length).map fun k => if clsOf E a = k then f k else 0).sum).sum := by
    refine sum_congr fun a ha => ?_
    have hl := h.cls_lt (List.mem_range.1 ha)
    rw [sum_single (fun k => if clsOf E a = k then f k else 0) _ (clsOf E a) List.nodup_range (List.mem_range.2 hl) (fun z _ hz => by rw [if_neg (Ne.symm hz)]), if_pos rfl]
  rw [e1, sum_comm]
  refine sum_congr fun k hk => ?_
  have hk := List.mem_range.1 hk
  have hkr := List.getElem?_eq_getElem hk
  have e2 : (classesN E).getD k [] = clsN E (repsN E E.length)[k] := by
    unfold classesN
    rw [List.getD_eq_getElem?_getD, List.getElem?_map, hkr]; rfl
  have e3 : (clsN E (repsN E E.length)[k]).length = (List.range E.length).countP fun a => decide (clsOf E a = k) := by
    unfold clsN
    rw [← List.countP_eq_length_filter]
    refine List.countP_congr fun a ha => ?_
    rw [decide_eq_true_eq]
    exact (h.cls_iff hkr (List.mem_range.1 ha)).symm
  rw [e2, e3]
  have : ∀ l : List Nat, (l.map fun a => if clsOf E a = k then f k else 0).sum = l.countP (fun a => decide (clsOf E a = k)) * f k := fun l => by
    induction l with
    | nil => simp
    | cons a l ih =>
      rw [List.map_cons, List.sum_cons, ih, List.countP_cons]
      by_cases hc : clsOf E a = k
      · simp [hc, Nat.add_mul, Nat.add_comm]
      · simp [hc]
  exact this _
/-- The classes' sizes times what their elements leave, summed. -/
theorem Grp.fixed_sum (h : Grp d E) : ((List.range (repsN E E.length).length).map fun k => ((classesN E).getD k []).length * (fixedN E).getD k 0).sum = E.length * (orbitsN E d).length := by
  rw [← h.cls_sum fun k => (fixedN E).getD k 0, ← h.fix_sum]
  have e : E.map fixP = (List.range E.length).map fun a => fixP (elP E a) := by
    apply List.ext_getElem (by simp)
    intro i h1 h2
    simp only [List.getElem_map, List.getElem_range]
    rw [elP, List.getD_eq_getElem?_getD, List.getElem?_eq_getElem (by simpa using h1)]; rfl
  rw [e]
  exact sum_congr fun a ha => h.fixed_cls (List.mem_range.1 ha)
theorem backC_atB {k : Nat} (hk : k < (repsN E E.length).length) : (backC E).getD k 0 = clsOf E (invN E ((repsN E E.length)[k])) := by
  unfold backC
  rw [List.getD_eq_getElem?_getD, List.getElem?_map, List.getElem?_eq_getElem hk]; rfl
theorem Grp.fixed_back (h : Grp d E) {k : Nat} (hk : k < (repsN E E.length).length) : (fixedN E).getD ((backC E).getD k 0) 0 = (fixedN E).getD k 0 := by
  have hkr := List.getElem?_eq_getElem hk
  have hr := (reps_mem.1 (List.getElem_mem hk)).1
  have hi := h.inv_spec hr
  have hb : (backC E).getD k 0 = clsOf E (invN E (repsN E E.length)[k]) := backC_atB hk
  rw [hb, h.fixed_cls hi.1, fixedN_get hkr]
  refine h.fix_inv (elP_mem hr) (elP_mem hi.1) ?_
  rw [← h.el_times hr hi.1, hi.2, h.el_zero]
theorem sumP_ones {q : Nat} {sz bk f h : List Nat} (hsz : ∀ s ∈ sz, s < q) : ∀ k, k ≤ sz.length → (∀ c, c < k → f.getD c 0 = 1) → sumP q sz bk f h k = ((List.range k).map fun c => sz.getD c 0 * h.getD (bk.getD c 0) 0).sum
  | 0, _, _ => rfl
  | k + 1, hk, h1 => by
    unfold sumP
    rw [sumP_ones hsz k (by omega) (fun c hc => h1 c (by omega)), List.range_succ, List.map_append, List.sum_append, h1 k (by omega), Nat.mul_one]
    have : sz.getD k 0 < q := by
      rw [List.getD_eq_getElem?_getD, List.getElem?_eq_getElem (by omega)]
      exact hsz _ (List.getElem_mem (by omega))
    rw [Nat.mod_eq_of_lt this]; simp
/-- The product of the function that is 1 everywhere and of what stays is the number of orbits. -/
theorem Grp.fixed_prd (h : Grp d E) {q : Nat} {f : List Nat} (hok : okOver q E.length = true) (hsz : ∀ s ∈ szE E, s < q) (ho : (orbitsN E d).length < q) (hf : ∀ c, c < (repsN E E.length).length → f.getD c 0 = 1) :
    prdP q E.length (szE E) (backC E) f (fixedN E) = (orbitsN E d).length := by
  have hsl : (szE E).length = (repsN E E.length).length := szE_length
  have e1 : sumP q (szE E) (backC E) f (fixedN E) (szE E).length = E.length * (orbitsN E d).length := by
    rw [sumP_ones hsz _ (Nat.le_refl _) (fun c hc => hf c (by omega)), hsl, ← h.fixed_sum]
    refine sum_congr fun c hc => ?_
    rw [h.fixed_back (List.mem_range.1 hc)]
    congr 1
    unfold szE
    rw [List.getD_eq_getElem?_getD, List.getD_eq_getElem?_getD, List.getElem?_map]
    cases (classesN E)[c]? <;> rfl
  unfold prdP
  rw [e1, ← Nat.mul_mod_mod, Nat.mod_mul_mod]
  have h2 := okOver_iff.1 hok
  have e2 : E.length * (orbitsN E d).length * (overN q E.length % q) % q = (overN q E.length * E.length % q) * (orbitsN E d).length % q := by
    rw [Nat.mul_mod_mod, Nat.mod_mul_mod]
    congr 1
    rw [Nat.mul_comm (E.length * _), Nat.mul_assoc]
  rw [e2, h2, Nat.one_mul, Nat.mod_eq_of_lt ho]
end
end Go.Proofs.Ytdackakjcnnofaa
