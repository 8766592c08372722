/- Rows with their places fixed; a class's first element. -/
import Derived.Test.YtdackakjcnnofaaA13
namespace Go.Proofs.Ytdackakjcnnofaa
open Go.RowKit

theorem rows_fix {S : Nat → Prop} {B : Nat} {w : World} {aC : Option Addr} {n cC : Nat} {ls : List (List Nat)} (h : RowsF S B w (.slice aC n cC) ls) (hpos : 0 < ls.length) :
    n = ls.length ∧ ∃ gC, aC = some ⟨gC, 0, none⟩ ∧ ∀ i (hi : i < ls.length), ∃ aU cU, ∀ W, Below w.heap.size w W → W.cell? ⟨gC, i, none⟩ = some (.slice aU (ls[i]).length cU) ∧ Ints W (.slice aU (ls[i]).length cU) (toI ls[i]) := by
  obtain ⟨gC, cC', u0, e0, _⟩ := h.at 0 hpos
  have e0' := Value.slice.inj e0
  refine ⟨e0'.2.1, gC, e0'.1, fun i hi => ?_⟩
  obtain ⟨gC2, cC2, u, e1, _, hg, hcu, hu⟩ := h.at i hi
  have e2 : gC = gC2 := by
    have := (Value.slice.inj e1).1
    rw [e0'.1] at this
    simpa using this
  subst e2
  have hui := hu.ints
  obtain ⟨aU, cU, rfl, -, -, -⟩ := hu
  rw [toI_length] at hcu hui
  exact ⟨aU, cU, fun W hb => ⟨(hb.cell (p := ⟨gC, i, none⟩) hg).trans hcu, hui.below hb⟩⟩
theorem Grp.cls_first {d : Nat} {E : List (List Nat)} (h : Grp d E) {k : Nat} (hk : k < (classesN E).length) (hk2 : k < (repsN E E.length).length) : ((classesN E)[k])[0]? = some (repsN E E.length)[k] := by
  have hm := reps_mem.1 (List.getElem_mem hk2)
  simp only [classesN, List.getElem_map]
  exact h.cls_head hm.1 hm.2
end Go.Proofs.Ytdackakjcnnofaa
