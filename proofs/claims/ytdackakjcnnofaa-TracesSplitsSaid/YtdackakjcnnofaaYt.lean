/- The argument's copy is the argument, where it is a group's. -/
import Derived.Test.YtdackakjcnnofaaA8
namespace Go.Proofs.Ytdackakjcnnofaa
open Go.RowKit

theorem tabA_eq {L : List (List Int)} (h : genQ L = true ∨ genQ (tabA L) = true) : tabA L = L := by
  have key : L.length ≤ 6 → (∀ p ∈ L, p.length ≤ 30) → tabA L = L := fun h1 h2 => by
    unfold tabA
    rw [List.take_of_length_le h1]
    conv => rhs; rw [← List.map_id L]
    exact List.map_congr_left fun p hp => List.take_of_length_le (h2 p hp)
  rcases h with h | h
  · unfold genQ at h
    simp only [Bool.and_eq_true, decide_eq_true_eq, List.all_eq_true] at h
    exact key (by omega) fun p hp => by have := rowQ_iff.1 (h.2 p hp); omega
  · unfold genQ at h
    simp only [Bool.and_eq_true, decide_eq_true_eq, List.all_eq_true] at h
    obtain ⟨⟨h1, h2⟩, h3⟩ := h
    have hl : L.length ≤ 4 := by
      unfold tabA at h2
      rw [List.length_map, List.length_take] at h2
      omega
    refine key (by omega) fun p hp => ?_
    have hm : p.take 30 ∈ tabA L := by
      unfold tabA
      rw [List.take_of_length_le (by omega)]
      exact List.mem_map.2 ⟨p, hp, rfl⟩
    have := rowQ_iff.1 (h3 _ hm)
    have h5 := this.2.2.2.2
    rw [List.length_take] at h5
    omega
theorem genQ_tabA (L : List (List Int)) : genQ (tabA L) = genQ L := by
  cases h : genQ L with
  | true => rw [tabA_eq (.inl h)]; exact h
  | false =>
    cases h2 : genQ (tabA L) with
    | false => rfl
    | true => rw [tabA_eq (.inr h2), h] at h2; cases h2
end Go.Proofs.Ytdackakjcnnofaa
