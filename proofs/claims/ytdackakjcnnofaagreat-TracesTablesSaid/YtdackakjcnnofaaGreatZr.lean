/- TracesGroups answers true. -/
import Derived.Test.YtdackakjcnnofaaGreatR3
import Derived.Test.YtdackakjcnnofaaGreatA13
namespace Go.Proofs.YtdackakjcnnofaaGreat
open Go.RowKit
attribute [local go_sem] Oper.semAt_some

/-- The copy of valid generators is they. -/
theorem tabA_eq {L : List (List Int)} (h : genQ L = true ∨ genQ (tabA L) = true) : tabA L = L := by
  have key : L.length ≤ 6 → (∀ p ∈ L, p.length ≤ 30) → tabA L = L := fun h1 h2 => by
    unfold tabA
    rw [List.take_of_length_le h1]
    conv => rhs; rw [← List.map_id L]
    exact List.map_congr_left fun p hp => List.take_of_length_le (h2 p hp)
  rcases h with h | h
  · unfold genQ at h
    simp only [Bool.and_eq_true, decide_eq_true_eq, List.all_eq_true] at h
    exact key (by omega) fun p hp => by have := rowQ_iff.1 (h.2 p hp); omega
  · unfold genQ at h
    simp only [Bool.and_eq_true, decide_eq_true_eq, List.all_eq_true] at h
    obtain ⟨⟨h1, h2⟩, h3⟩ := h
    have hl : L.length ≤ 4 := by
      unfold tabA at h2
      rw [List.length_map, List.length_take] at h2
      omega
    refine key (by omega) fun p hp => ?_
    have hm : p.take 30 ∈ tabA L := by
      unfold tabA
      rw [List.take_of_length_le (by omega)]
      exact List.mem_map.2 ⟨p, hp, rfl⟩
    have := rowQ_iff.1 (h3 _ hm)
    have h5 := this.2.2.2.2
    rw [List.length_take] at h5
    omega
theorem genQ_tabA (L : List (List Int)) : genQ (tabA L) = genQ L := by
  cases h : genQ L with
  | true => rw [tabA_eq (.inl h)]; exact h
  | false =>
    cases h2 : genQ (tabA L) with
    | false => rfl
    | true => rw [tabA_eq (.inr h2), h] at h2; cases h2
theorem TracesGroups_true (v : Value) (L : List (List Int)) (w : World) (h : Args w v L) : Calls Tryz.prog 4 #[v] w fun e w' => e = .returned (.bool true) ∧ Below w.heap.size w w' := by
  rcases three L with hq | ⟨hq, ho⟩ | ⟨hq, E, hg⟩
  · refine groups_walk awake_any v L w h [] [] 0 2 (by simp) (by simp) (fun u w' ha => ?_) (fun u w' ha => ?_) (fun u w' ha => ?_) (fun w' ha => ?_)
    · exact (PElements_no ha (by rw [genQ_tabA]; exact hq)).mono fun e w2 ⟨he, hb⟩ => ⟨_, fun _ => True, 0, he, RowsF.nil _ _ _, hb⟩
    · exact (Classes_no ha (by rw [genQ_tabA]; exact hq)).mono fun e w2 ⟨he, hb⟩ => ⟨_, fun _ => True, 0, he, RowsF.nil _ _ _, hb⟩
    · exact Prime_no ha (by rw [genQ_tabA]; exact hq)
    · exact (made_no ha hq).mono fun e w2 ⟨he, hb⟩ => ⟨_, _, _, _, _, _, _, _, _, _, _, _, _, _, _, he, RowsF.nil _ _ _, RowsF.nil _ _ _, hb⟩
  · have e := tabA_eq (.inl hq)
    refine groups_walk awake_any v L w h [] [] 0 6 (by simp) (by simp) (fun u w' ha => ?_) (fun u w' ha => ?_) (fun u w' ha => ?_) (fun w' ha => ?_)
    · rw [e] at ha
      exact (PElements_over ha hq ho).mono fun e w2 ⟨he, hb⟩ => ⟨_, fun _ => True, 0, he, RowsF.nil _ _ _, hb⟩
    · rw [e] at ha
      exact (Classes_over ha hq ho).mono fun e w2 ⟨he, hb⟩ => ⟨_, fun _ => True, 0, he, RowsF.nil _ _ _, hb⟩
    · rw [e] at ha
      exact Prime_over ha hq ho
    · exact (made_over ha hq ho).mono fun e w2 ⟨he, hb⟩ => ⟨_, _, _, _, _, _, _, _, _, _, _, _, _, _, _, he, RowsF.nil _ _ _, RowsF.nil _ _ _, hb⟩
  · have e := tabA_eq (.inl hq)
    have h24 := hg.few
    have hcl : (classesN E).length ≤ 1000000 := by
      have := reps_len (E := E) E.length
      simp only [classesN, List.length_map]; omega
    refine groups_walk awake_any v L w h E (classesN E) (primeN E (L.headD []).length : Nat) 0 (by omega) hcl (fun u w' ha => ?_) (fun u w' ha => ?_) (fun u w' ha => ?_) (fun w' ha => ?_)
    · rw [e] at ha
      exact (PElements_yes ha hq hg).mono fun e w2 ⟨u, S, he, hr, hb⟩ => ⟨_, _, _, he, hr.1, hb⟩
    · rw [e] at ha
      exact (Classes_yes ha hq hg).mono fun e w2 ⟨u, S, H, he, hr, hb⟩ => ⟨_, _, _, he, hr, hb⟩
    · rw [e] at ha
      exact Prime_yes ha hq hg
    · refine (made_yes ha hq hg).mono fun e w2 ⟨gv, he, hr, hb⟩ => ?_
      obtain ⟨vL, vT, vB, vC, vO, rfl, k1, k2, k3, k4, k5⟩ := hr
      obtain ⟨aL, cL, rfl⟩ := k1.form
      obtain ⟨aT, cT, rfl⟩ := k2.form
      obtain ⟨aB, cB, rfl, -, -, -⟩ := k3
      obtain ⟨aC, cC, rfl⟩ := k4.form
      obtain ⟨aO, cO, rfl, -, -, -⟩ := k5
      exact ⟨_, _, _, _, _, _, _, _, _, _, _, _, _, _, _, he, k1, k4, hb⟩
theorem tracesGroups_true (v : Value) (L : List (List Int)) (w : World) (h : Args w v L) : Calls Tryz.prog 4 #[v] w fun e w' => e = .returned (.bool true) ∧ Below w.heap.size w w' := TracesGroups_true v L w h
end Go.Proofs.YtdackakjcnnofaaGreat
