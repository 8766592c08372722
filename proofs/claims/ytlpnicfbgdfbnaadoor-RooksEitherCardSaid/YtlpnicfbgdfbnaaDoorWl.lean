/- Worlds: boxes, owned rows and what lay before, over allocs, calls, appends and stores. -/
import Derived.Test.YtlpnicfbgdfbnaaDoorLib
import Derived.RangeFuncBox
namespace Go.Proofs.YtlpnicfbgdfbnaaDoor
open Go.RowKit

section
variable {e t : TypeId} {B b : Nat} {w w' : World} {v u : Value} {xs : List Int}

theorem below_alloc {a w : World} (h : Below a.heap.size a w) (o : Obj) : Below a.heap.size a (w.alloc o) := h.alloc h.size o
theorem boxed_below (h : Boxed w b t v) (hb : Below w.heap.size w w') : Boxed w' b t v := (hb.block b h.lt).trans h
theorem boxed_below_of {n : Nat} (h : Boxed w b t v) (hb : Below n w w') (hn : b < n) : Boxed w' b t v := (hb.block b hn).trans h
theorem boxed_app (h : Boxed w b t u) (hown : OwnI e B w v xs) (hte : t ≠ e) (hg : w.grownBy w' v.ownBlock) : Boxed w' b t u := h.kept hg (h.not_row hte hown)
theorem boxed_other {b' : Nat} (h : Boxed w b t v) (hne : b ≠ b') (u : Value) : Boxed (w.setCell ⟨b', 0, none⟩ u) b t v := h.kept (grownBy_setCell' w b' u) (fun e => hne (by cases e; rfl))
theorem own_setBox (h : OwnI e B w v xs) (hb : Boxed w b t u) (hte : t ≠ e) (u' : Value) : OwnI e B (w.setCell ⟨b, 0, none⟩ u') v xs :=
  World.ownsRow.kept h (grownBy_setCell' w b u') (.inr (fun e' => hb.not_row hte h e'.symm))
theorem own_putObj {l : Nat} {o : Obj} (h : OwnI e B w v xs) (o' : Obj) (hl : w.heap[l]? = some o) (ho : o.isCells = false) : OwnI e B (w.putObj l o') v xs := ownsRow_putObj h o' hl ho

/-- A row of the call's own that is not empty. -/
theorem OwnI.row {k : Nat} {L : List Nat} (h : OwnI e B w v (toI L)) (hl : L.length = k + 1) : ∃ g cap, v = .slice (some ⟨g, 0, none⟩) (k + 1) cap := by
  have h' : w.ownsRow B e 1 v (k + 1) ((toI L).map (Value.int .i64)) := by
    have := h
    unfold OwnI at this
    rwa [toI_length, hl] at this
  exact ownsRow_succ h'
theorem OwnI.cellN {g n cap : Nat} {L : List Nat} (h : OwnI e B w (.slice (some ⟨g, 0, none⟩) n cap) (toI L)) (j : Nat) (hj : j < L.length) : w.cell? ⟨g, j, none⟩ = some (.int .i64 ((L[j] : Nat) : Int)) := by
  obtain ⟨h1, h2⟩ := h
  rcases h2 with ⟨h2, _⟩ | ⟨g', cap', cur, h2, hg, hh, r⟩
  · cases h2
  · obtain ⟨e1, rfl, rfl⟩ := Value.slice.inj h2
    obtain rfl : g = g' := by simpa using e1
    have hown : w.ownsRow B e 1 (.slice (some ⟨g, 0, none⟩) (toI L).length cap) (toI L).length ((toI L).map (Value.int .i64)) := ⟨h1, .inr ⟨g, cap, cur, rfl, hg, hh, r⟩⟩
    rw [World.ownsRow.cellAt hown j (by rw [toI_length]; omega)]
    have hj' : j < (toI L).length := by rw [toI_length]; exact hj
    simp [List.getElem?_eq_getElem hj, toI]
theorem OwnI.frozenN {g n cap : Nat} {xs : List Int} (h : OwnI e B w (.slice (some ⟨g, 0, none⟩) n cap) xs) (j : Nat) : w.frozen? ⟨g, j, none⟩ = false := by
  obtain ⟨h1, h2⟩ := h
  rcases h2 with ⟨h2, _⟩ | ⟨g', cap', cur, h2, hg, hh, r⟩
  · cases h2
  · obtain ⟨e1, rfl, rfl⟩ := Value.slice.inj h2
    obtain rfl : g = g' := by simpa using e1
    have hown : w.ownsRow B e 1 (.slice (some ⟨g, 0, none⟩) xs.length cap) xs.length (xs.map (Value.int .i64)) := ⟨h1, .inr ⟨g, cap, cur, rfl, hg, hh, r⟩⟩
    exact World.ownsRow.frozenAt hown j
theorem OwnI.storedN {g n cap : Nat} {L : List Nat} (h : OwnI e B w (.slice (some ⟨g, 0, none⟩) n cap) (toI L)) (j x : Nat) : OwnI e B (w.setCell ⟨g, j, none⟩ (.int .i64 (x : Int))) (.slice (some ⟨g, 0, none⟩) n cap) (toI (L.set j x)) := by
  obtain ⟨h1, h2⟩ := h
  rcases h2 with ⟨h2, _⟩ | ⟨g', cap', cur, h2, hg, hh, r⟩
  · cases h2
  · obtain ⟨e1, rfl, rfl⟩ := Value.slice.inj h2
    obtain rfl : g = g' := by simpa using e1
    have hown : w.ownsRow B e 1 (.slice (some ⟨g, 0, none⟩) (toI L).length cap) (toI L).length ((toI L).map (Value.int .i64)) := ⟨h1, .inr ⟨g, cap, cur, rfl, hg, hh, r⟩⟩
    have := World.ownsRow.stored hown j (.int .i64 (x : Int))
    unfold OwnI
    have e1 : (toI (L.set j x)).length = (toI L).length := by simp [toI]
    have e2 : (toI (L.set j x)).map (Value.int .i64) = ((toI L).map (Value.int .i64)).set j (.int .i64 (x : Int)) := by simp [toI, List.map_set]
    rw [e1, e2]
    exact this.1
theorem OwnI.blockEq {g n cap : Nat} {xs : List Int} (h : OwnI e B w (.slice (some ⟨g, 0, none⟩) n cap) xs) : B ≤ g ∧ g < w.heap.size := h.lt g rfl
end
end Go.Proofs.YtlpnicfbgdfbnaaDoor
