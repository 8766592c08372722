/- inverse, plainly: the permutation turned round, place by place; its number; its class. -/
import Derived.Test.YtdackakjcnnofaaGreatOa
import Derived.Test.YtdackakjcnnofaaGreatB1
namespace Go.Proofs.YtdackakjcnnofaaGreat

/-- The inverse while its places are written. -/
def bkP (d : Nat) (p : List Nat) (j : Nat) : List Nat := (List.range d).map fun y => if (p.take j).idxOf y < j then (p.take j).idxOf y else 0
theorem bkP_len (d : Nat) (p : List Nat) (j : Nat) : (bkP d p j).length = d := by simp [bkP]
theorem bkP_zero (d : Nat) (p : List Nat) : bkP d p 0 = List.replicate d 0 := by
  unfold bkP
  rw [List.eq_replicate_iff]
  refine ⟨by simp, fun x hx => ?_⟩
  obtain ⟨y, -, rfl⟩ := List.mem_map.1 hx
  simp
theorem bkP_succ {d : Nat} {p : List Nat} (hp : Perm1 d p) {j : Nat} (hj : j < p.length) : bkP d p (j + 1) = (bkP d p j).set p[j] j := by
  have ht : p.take (j + 1) = p.take j ++ [p[j]] := List.take_succ_eq_append_getElem hj
  have hlj : (p.take j).length = j := by rw [List.length_take]; omega
  have hnot : p[j] ∉ p.take j := fun hm => by
    obtain ⟨i, hi, e⟩ := List.getElem_of_mem hm
    rw [List.getElem_take] at e
    have := (List.getElem_inj hp.nodup).1 e
    omega
  refine List.ext_getElem (by simp [bkP]) fun y h1 h2 => ?_
  have hy : y < d := by rw [bkP_len] at h1; exact h1
  rw [List.getElem_set]
  simp only [bkP, List.getElem_map, List.getElem_range]
  rw [ht, List.idxOf_append]
  by_cases e : p[j] = y
  · subst e
    rw [if_neg hnot, if_pos rfl, hlj]
    simp
  · rw [if_neg e]
    by_cases hm : y ∈ p.take j
    · have := List.idxOf_lt_length_of_mem hm
      rw [if_pos hm, if_pos (by omega), if_pos (by omega)]
    · have h3 := List.idxOf_eq_length hm
      rw [if_neg hm, if_neg (c := List.idxOf y (p.take j) < j) (by omega), hlj]
      have : List.idxOf y [p[j]] = 1 := by
        rw [List.idxOf_eq_length (by simpa using fun h => e h.symm)]; rfl
      rw [this, if_neg (by omega)]
variable {d : Nat} {E : List (List Nat)}
theorem Grp.bkP_end (h : Grp d E) {a : Nat} (ha : a < E.length) : bkP d (elP E a) d = elP E (invN E a) := by
  have hs := h.inv_spec ha
  have hp := h.perm _ (elP_mem ha)
  have hq := h.perm _ (elP_mem hs.1)
  have hm : mulP (elP E a) (elP E (invN E a)) = oneP d := by
    rw [← h.el_times ha hs.1, hs.2, h.el_zero]
  refine List.ext_getElem (by rw [bkP_len, hq.len]) fun y h1 h2 => ?_
  have hy : y < d := by rw [bkP_len] at h1; exact h1
  have hx : (elP E (invN E a))[y] < d := hq.lt _ (List.getElem_mem _)
  have e := congrArg (fun l => l[y]?) hm
  simp only [mulP, oneP, List.getElem?_map, List.getElem?_range hy, List.getElem?_eq_getElem h2, Option.map_some, Option.some.injEq] at e
  rw [List.getD_eq_getElem?_getD, List.getElem?_eq_getElem (by rw [hp.len]; exact hx)] at e
  have e2 : (elP E a)[(elP E (invN E a))[y]]'(by rw [hp.len]; exact hx) = y := e
  simp only [bkP, List.getElem_map, List.getElem_range]
  rw [List.take_of_length_le (by rw [hp.len]; exact Nat.le_refl _)]
  have e3 : (elP E a).idxOf y = (elP E (invN E a))[y] := by
    conv => lhs; rw [← e2]
    exact hp.nodup.idxOf_getElem _ _
  rw [e3, if_pos hx]
theorem Grp.fi_inv (h : Grp d E) {a : Nat} (ha : a < E.length) : fiI (fun x => decide (toI x = toI (elP E a))) E = (a : Nat) := by
  have e : ∀ {i : Nat} (hi : i < E.length), elP E i = E[i] := fun hi => by
    rw [elP, List.getD_eq_getElem?_getD, List.getElem?_eq_getElem hi]; rfl
  refine fiI_found ha (fun i hi hl => ?_) ?_
  · rw [decide_eq_false_iff_not]
    intro he
    rw [e ha] at he
    have := (List.getElem_inj h.nodup).1 (toI_inj he)
    omega
  · rw [e ha]; simp
theorem Grp.fi_cls (h : Grp d E) {x : Nat} (hx : x < E.length) : fiI (fun c => (toI c).any fun y => (x : Int) == y) (classesN E) = (clsOf E x : Nat) := by
  have hlen : (classesN E).length = (repsN E E.length).length := by simp [classesN]
  have hlt : clsOf E x < (repsN E E.length).length := h.cls_lt hx
  have key : ∀ i (hi : i < (classesN E).length), ((toI (classesN E)[i]).any fun y => (x : Int) == y) = decide (clsOf E x = i) := fun i hi => by
    have hi2 : i < (repsN E E.length).length := by omega
    have := h.cls_iff (k := i) (r := (repsN E E.length)[i]) (List.getElem?_eq_getElem hi2) hx
    have e : (classesN E)[i] = clsN E (repsN E E.length)[i] := by simp [classesN]
    rw [e, Bool.eq_iff_iff, List.any_eq_true, decide_eq_true_iff, this]
    constructor
    · rintro ⟨y, hy, hxy⟩
      obtain ⟨z, hz, rfl⟩ := List.mem_map.1 hy
      have h9 : (x : Int) = z := by simpa using hxy
      have : x = z := by omega
      subst this
      exact (List.mem_filter.1 hz).2
    · intro hc
      exact ⟨x, List.mem_map.2 ⟨x, List.mem_filter.2 ⟨List.mem_range.2 hx, hc⟩, rfl⟩, by simp⟩
  refine fiI_found (by omega) (fun i hi hl => ?_) ?_
  · rw [key i hi]; simp; omega
  · rw [key _ (by omega)]; simp
end Go.Proofs.YtdackakjcnnofaaGreat
