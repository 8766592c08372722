/- Rows handed in, with their places fixed. -/
import Derived.Test.YtdackakjcnnofaaA1
import Derived.Test.YtdackakjcnnofaaA3
namespace Go.Proofs.Ytdackakjcnnofaa
open Go.RowKit

theorem first_at : ∀ (l : List Int) (h : 0 < l.length), l[0] = l.headD 0
  | [], h => absurd h (Nat.lt_irrefl _)
  | _ :: _, _ => rfl
theorem args_fix {w : World} {v : Value} {T : List (List Int)} (h : Args w v T) (hpos : 0 < T.length) :
    ∃ g o c, v = .slice (some ⟨g, o, none⟩) T.length c ∧ ∀ i (hi : i < T.length), ∃ aU cU, ∀ W, Below w.heap.size w W → W.cell? ⟨g, o + i, none⟩ = some (.slice aU (T[i]).length cU) ∧ Ints W (.slice aU (T[i]).length cU) T[i] := by
  obtain ⟨b0, o0, c0, u0, rfl, -, -, -⟩ := h.at 0 hpos
  refine ⟨b0, o0, c0, rfl, fun i hi => ?_⟩
  obtain ⟨b1, o1, c1, u, he, hb, hcu, hu⟩ := h.at i hi
  obtain ⟨e1, -, -⟩ := Value.slice.inj he
  obtain ⟨rfl, rfl⟩ : b0 = b1 ∧ o0 = o1 := by simpa using e1
  have hui := hu
  obtain ⟨aU, cU, rfl, -, -, -⟩ := hu
  exact ⟨aU, cU, fun W hb' => ⟨(hb'.cell (p := ⟨b0, o0 + i, none⟩) hb).trans hcu, hui.below hb'⟩⟩
theorem ints_at {W : World} {a : Option Addr} {m c : Nat} {l : List Int} (h : Ints W (.slice a m c) l) (hm : 0 < l.length) : ∃ b o, a = some ⟨b, o, none⟩ ∧ ∀ i, i < l.length → W.cell? ⟨b, o + i, none⟩ = some (.int .i64 (l.getD i 0)) := by
  obtain ⟨_, _, e1, -, -, hc1⟩ := h
  obtain ⟨b2, o2, e2, hb, hc2⟩ := hc1 (List.ne_nil_of_length_pos hm)
  obtain ⟨rfl, -, rfl⟩ := Value.slice.inj e1
  refine ⟨b2, o2, e2, fun i hi => ?_⟩
  rw [hc2 i hi, List.getD_eq_getElem?_getD, List.getElem?_eq_getElem hi]; rfl
theorem getD_bound {q : Nat} {l : List Int} (hq : 0 < q) (h : ∀ x ∈ l, 0 ≤ x ∧ x < (q : Int)) (i : Nat) : 0 ≤ l.getD i 0 ∧ l.getD i 0 < (q : Int) := by
  rw [List.getD_eq_getElem?_getD]
  cases hx : l[i]? with
  | none => simp; omega
  | some y => exact h y (List.mem_of_getElem? hx)
theorem getD_memN {l : List Nat} {i : Nat} (h : i < l.length) : l.getD i 0 ∈ l := by
  rw [List.getD_eq_getElem?_getD, List.getElem?_eq_getElem h]; exact List.getElem_mem h
end Go.Proofs.Ytdackakjcnnofaa
