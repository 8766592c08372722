/- Normal subgroups as sets of classes, plain. -/
import Derived.Test.YtdackakjcnnofaaGreatB1
namespace Go.Proofs.YtdackakjcnnofaaGreat

/-- The classes of a set. -/
def setN (m set : Nat) : List Nat := (List.range m).filter set.testBit
theorem setN_succ (c set : Nat) : setN (c + 1) set = setN c set ++ if set.testBit c = true then [c] else [] := by
  unfold setN
  rw [List.range_succ, List.filter_append]
  by_cases h : set.testBit c = true
  · simp [h]
  · simp [h]
theorem setN_len (m set : Nat) : (setN m set).length ≤ m := Nat.le_trans (List.length_filter_le _ _) (by simp)
theorem setN_mem {m set c : Nat} : c ∈ setN m set ↔ c < m ∧ set.testBit c = true := by simp [setN]
theorem setN_inj {m s t : Nat} (hs : s < 2 ^ m) (ht : t < 2 ^ m) (h : setN m s = setN m t) : s = t := by
  refine Nat.eq_of_testBit_eq fun i => ?_
  by_cases hi : i < m
  · have h1 : i ∈ setN m s ↔ i ∈ setN m t := by rw [h]
    rw [setN_mem, setN_mem] at h1
    rw [Bool.eq_iff_iff]
    exact ⟨fun x => (h1.1 ⟨hi, x⟩).2, fun x => (h1.2 ⟨hi, x⟩).2⟩
  · have hp : 2 ^ m ≤ 2 ^ i := Nat.pow_le_pow_right (by omega) (by omega)
    rw [Nat.testBit_lt_two_pow (by omega), Nat.testBit_lt_two_pow (by omega)]
section
variable (E : List (List Nat))
def bitC (set a : Nat) : Bool := set.testBit (clsOf E a)
def closR (set a b : Nat) : Bool := !(bitC E set a) || !(bitC E set b) || bitC E set (timesN E a b)
def closA (set a j : Nat) : Bool := (List.range j).all (closR E set a)
def closTo (set i : Nat) : Bool := (List.range i).all fun a => closA E set a E.length
def closB (set : Nat) : Bool := closTo E set E.length
theorem closA_succ (set a j : Nat) : closA E set a (j + 1) = (closA E set a j && closR E set a j) := by
  unfold closA
  rw [List.range_succ, List.all_append]; simp
theorem closTo_succ (set i : Nat) : closTo E set (i + 1) = (closTo E set i && closA E set i E.length) := by
  unfold closTo
  rw [List.range_succ, List.all_append]; simp
theorem closB_no {set i j : Nat} (hi : i < E.length) (hj : j < E.length) (h : closR E set i j = false) : closB E set = false := by
  refine Bool.eq_false_iff.2 fun hc => ?_
  have h1 := List.all_eq_true.1 (List.all_eq_true.1 hc i (List.mem_range.2 hi)) j (List.mem_range.2 hj)
  rw [h] at h1
  cases h1
/-- The closed sets with the first class, up to some number. -/
def normTo (m i : Nat) : List (List Nat) := (((List.range i).map (2 * · + 1)).filter (closB E)).map (setN m)
theorem normTo_succ (m i : Nat) : normTo E m (i + 1) = normTo E m i ++ if closB E (2 * i + 1) = true then [setN m (2 * i + 1)] else [] := by
  unfold normTo
  rw [List.range_succ, List.map_append, List.filter_append, List.map_append]
  by_cases h : closB E (2 * i + 1) = true
  · simp [h]
  · simp [h]
theorem normTo_len (m i : Nat) : (normTo E m i).length ≤ i := by
  unfold normTo
  rw [List.length_map]
  exact Nat.le_trans (List.length_filter_le _ _) (by simp)
def normL (m : Nat) : List (List Nat) := normTo E m (2 ^ (m - 1))
theorem normTo_nodup {m : Nat} (hm : 0 < m) : (normL E m).Nodup := by
  unfold normL normTo
  have h1 : ((List.range (2 ^ (m - 1))).map (2 * · + 1)).Nodup := by
    rw [List.nodup_iff_pairwise_ne, List.pairwise_map]
    exact List.Pairwise.imp (fun {a b} (h : a < b) => by omega) List.pairwise_lt_range
  have h2 := h1.filter (closB E)
  rw [List.nodup_iff_pairwise_ne, List.pairwise_map]
  refine List.Pairwise.imp_of_mem (fun {a b} ha hb hne e => hne ?_) h2
  have hlt : ∀ x ∈ ((List.range (2 ^ (m - 1))).map (2 * · + 1)).filter (closB E), x < 2 ^ m := fun x hx => by
    obtain ⟨i, hi, rfl⟩ := List.mem_map.1 (List.mem_filter.1 hx).1
    have := List.mem_range.1 hi
    have e2 : 2 ^ m = 2 * 2 ^ (m - 1) := by
      obtain ⟨k, rfl⟩ : ∃ k, m = k + 1 := ⟨m - 1, by omega⟩
      rw [Nat.pow_succ, Nat.add_sub_cancel]; omega
    show 2 * i + 1 < _
    omega
  exact setN_inj (hlt _ ha) (hlt _ hb) e
/-- The normal subgroups, in order. -/
def normN (m : Nat) : List (List Nat) := sortP (normL E m)
end
section
variable {d : Nat} {E : List (List Nat)}
theorem Grp.cj_times (h : Grp d E) {x a b : Nat} (hx : x < E.length) (ha : a < E.length) (hb : b < E.length) : timesN E (cjN E x a) (cjN E x b) = cjN E x (timesN E a b) := by
  have hi := h.inv_spec hx
  have hxa := h.timesN_lt hx ha
  have hxb := h.timesN_lt hx hb
  unfold cjN
  rw [h.times_assoc hxa hi.1 (h.timesN_lt hxb hi.1), ← h.times_assoc hi.1 hxb hi.1, ← h.times_assoc hi.1 hx hb, h.inv_left hx, h.zero_times hb, ← h.times_assoc hxa hb hi.1, h.times_assoc hx ha hb]
theorem mem_pairs {A B : List Nat} {a b : Nat} : (a, b) ∈ pairsL A B ↔ a ∈ A ∧ b ∈ B := by simp [pairsL]
/-- The class numbers tell which sets are closed. -/
def closC (E : List (List Nat)) (m set : Nat) : Bool :=
  (List.range m).all fun c => (List.range m).all fun d => (List.range m).all fun e => !(set.testBit c) || !(set.testBit d) || set.testBit e || ((constL E c).getD d []).getD e 0 == 0
theorem const_at {c k i rk r : Nat} (hk : (repsN E E.length)[k]? = some rk) (hi : (repsN E E.length)[i]? = some r) :
    ((constL E c).getD k []).getD i 0 = (cntN E (pairsL ((classesN E).getD c []) (clsN E rk)) r : Int) := by
  have hkl := (List.getElem?_eq_some_iff.1 hk)
  have e : (constL E c).getD k [] = cntL E (pairsL ((classesN E).getD c []) (clsN E rk)) := by
    unfold constL
    rw [List.getD_eq_getElem?_getD, List.getElem?_map]
    unfold classesN
    rw [List.getElem?_map, hk]; rfl
  rw [e, List.getD_eq_getElem?_getD, cntL_at hi]; rfl
theorem Grp.clos_eq (h : Grp d E) (set : Nat) : closC E (repsN E E.length).length set = closB E set := by
  have hcl : ∀ c, c < (repsN E E.length).length → ∃ r, (repsN E E.length)[c]? = some r ∧ r < E.length ∧ (classesN E).getD c [] = clsN E r := fun c hc => by
    refine ⟨_, List.getElem?_eq_getElem hc, (reps_mem.1 (List.getElem_mem hc)).1, ?_⟩
    unfold classesN
    rw [List.getD_eq_getElem?_getD, List.getElem?_map, List.getElem?_eq_getElem hc]; rfl
  have hmem : ∀ {c r a : Nat}, (repsN E E.length)[c]? = some r → (a ∈ clsN E r ↔ a < E.length ∧ clsOf E a = c) := fun {c r a} hr => by
    unfold clsN
    rw [List.mem_filter, List.mem_range]
    constructor
    · exact fun hx => ⟨hx.1, (h.cls_iff hr hx.1).2 hx.2⟩
    · exact fun hx => ⟨hx.1, (h.cls_iff hr hx.1).1 hx.2⟩
  rw [Bool.eq_iff_iff]
  constructor
  · intro hc
    unfold closC at hc
    simp only [List.all_eq_true, List.mem_range] at hc
    unfold closB closTo closA
    simp only [List.all_eq_true, List.mem_range]
    intro a ha b hb
    unfold closR bitC
    have hlt := h.timesN_lt ha hb
    have h1 := h.cls_lt ha
    have h2 := h.cls_lt hb
    have h3 := h.cls_lt hlt
    have h4 := hc _ h1 _ h2 _ h3
    by_cases he : set.testBit (clsOf E (timesN E a b)) = true
    · rw [he]; simp
    · obtain ⟨ra, hra, hral, hca⟩ := hcl _ h1
      obtain ⟨rb, hrb, hrbl, hcb⟩ := hcl _ h2
      obtain ⟨r, hr, hrl, hce⟩ := hcl _ h3
      have hcon := (h.cls_iff hr hlt).1 rfl
      obtain ⟨x, hx, hxe⟩ := conjB_iff.1 (h.conj_symm hrl hlt hcon)
      have hpos : 0 < cntN E (pairsL ((classesN E).getD (clsOf E a) []) (clsN E rb)) r := by
        unfold cntN
        refine List.countP_pos_iff.2 ⟨(cjN E x a, cjN E x b), mem_pairs.2 ⟨?_, ?_⟩, ?_⟩
        · rw [hca, hmem hra]
          exact ⟨h.cj_lt hx ha, (h.cls_iff hra (h.cj_lt hx ha)).2 (h.conj_trans hral ha (h.cj_lt hx ha) ((h.cls_iff hra ha).1 rfl) (conjB_iff.2 ⟨x, hx, rfl⟩))⟩
        · rw [hmem hrb]
          exact ⟨h.cj_lt hx hb, (h.cls_iff hrb (h.cj_lt hx hb)).2 (h.conj_trans hrbl hb (h.cj_lt hx hb) ((h.cls_iff hrb hb).1 rfl) (conjB_iff.2 ⟨x, hx, rfl⟩))⟩
        · rw [beq_iff_eq]
          show timesN E (cjN E x a) (cjN E x b) = r
          rw [h.cj_times hx ha hb, hxe]
      rw [const_at hrb hr] at h4
      have h5 : ((cntN E (pairsL ((classesN E).getD (clsOf E a) []) (clsN E rb)) r : Int) == 0) = false := by rw [beq_eq_false_iff_ne]; omega
      rw [h5, Bool.or_false] at h4
      exact h4
  · intro hc
    unfold closB closTo closA at hc
    simp only [List.all_eq_true, List.mem_range] at hc
    unfold closC
    simp only [List.all_eq_true, List.mem_range]
    intro c h1 k h2 e h3
    obtain ⟨ra, hra, hral, hca⟩ := hcl _ h1
    obtain ⟨rb, hrb, hrbl, hcb⟩ := hcl _ h2
    obtain ⟨r, hr, hrl, hce⟩ := hcl _ h3
    rw [const_at hrb hr]
    by_cases hz : cntN E (pairsL ((classesN E).getD c []) (clsN E rb)) r = 0
    · rw [hz]; simp
    · have hpos : 0 < cntN E (pairsL ((classesN E).getD c []) (clsN E rb)) r := by omega
      unfold cntN at hpos
      obtain ⟨⟨a, b⟩, hm, hab⟩ := List.countP_pos_iff.1 hpos
      rw [beq_iff_eq] at hab
      have hab' : timesN E a b = r := hab
      obtain ⟨hma, hmb⟩ := mem_pairs.1 hm
      rw [hca, hmem hra] at hma
      rw [hmem hrb] at hmb
      have h4 := hc a hma.1 b hmb.1
      unfold closR bitC at h4
      rw [hma.2, hmb.2, hab', h.cls_rep hr] at h4
      rw [h4, Bool.true_or]
end
end Go.Proofs.YtdackakjcnnofaaGreat
