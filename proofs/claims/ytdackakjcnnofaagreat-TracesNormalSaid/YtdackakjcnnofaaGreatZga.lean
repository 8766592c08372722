/- What every law of the reference needs of a group. -/
import Derived.Test.YtdackakjcnnofaaGreatB5
import Derived.Test.YtdackakjcnnofaaGreatA3
namespace Go.Proofs.YtdackakjcnnofaaGreat
open Go.RowKit

theorem RowsF.toArgs {S : Nat → Prop} {B : Nat} {w : World} {v : Value} {ls : List (List Nat)} (h : RowsF S B w v ls) (hl : ls.length ≤ 1000000) : Args w v (ls.map toI) := by
  by_cases hne : ls = []
  · subst hne
    obtain ⟨vs, ho, -⟩ := h
    rcases ho.2 with ⟨rfl, -⟩ | ⟨g, cap, cur, rfl, -, hb, -⟩
    · exact ⟨none, 0, rfl, by simp, by simp, fun h => absurd rfl h⟩
    · exact ⟨_, cap, rfl, by simp, by simp, fun h => absurd rfl h⟩
  · have h0 : 0 < ls.length := List.length_pos_iff.2 hne
    obtain ⟨vs, ho, hr⟩ := id h
    have hvl : vs.length = ls.length := by have := ho.1; omega
    rcases ho.2 with ⟨_, hn⟩ | ⟨g, cap, cur, rfl, hB, hb, hc, -⟩
    · omega
    · refine ⟨some ⟨g, 0, none⟩, cap, by rw [List.length_map], by rw [List.length_map]; omega, by rw [List.length_map]; exact hc, fun _ => ⟨g, 0, rfl, (Array.getElem?_eq_some_iff.1 hb).1, fun i hi => ?_⟩⟩
      rw [List.length_map] at hi
      have hvi : vs[i]? = some (vs[i]'(by omega)) := List.getElem?_eq_getElem (by omega)
      refine ⟨vs[i]'(by omega), by rw [Nat.zero_add, World.ownsRow.cellAt ho i (by omega), hvi], ?_⟩
      rw [List.getElem_map]
      exact (hr i _ _ hvi (List.getElem?_eq_getElem hi)).ints
/-- What every law needs of a group: its prime, its table, the reference's table. -/
structure GFacts (E : List (List Nat)) (d : Nat) : Prop where
  q1 : 0 < primeN E d
  q2 : primeN E d < 62
  qn : E.length < primeN E d
  ok : okG E d = true
  ref : (tabRE E d).map toI = tabG E d
  few : (tabG E d).length ≤ 6
theorem Grp.facts {E : List (List Nat)} {d : Nat} (h : Grp d E) (h1 : 0 < d) (hd : d ≤ 5) (h24 : E.length ≤ 24) : GFacts E d := by
  have hp := h.prime_spec hd h24
  obtain ⟨x, hx, hok, ht, -⟩ := h.tab h1 hd h24
  have hs := shp_all x hx
  refine ⟨by omega, hp.2.1, by omega, hok, h.refTab h1 hd h24, ?_⟩
  rw [ht]
  unfold shpOk at hs
  simp only [Bool.and_eq_true, beq_iff_eq, decide_eq_true_eq] at hs
  omega
end Go.Proofs.YtdackakjcnnofaaGreat
