/- A block that is known whole (Held); what is kept (Sm). No program in sight. -/
import Derived.Test.YtmlhecfhhhebnaaLib
import Derived.Laws.OwnMore
import Derived.Deep.Draws
import Derived.Deep.MidRow
import Derived.Laws.Rows
namespace Go.Proofs.Ytmlhecfhhhebnaa
open Go.RowKit

/-- Block g holds just these cells, and all can be written. -/
def Held (w : World) (g : Nat) (t : TypeId) (l : List Value) : Prop := w.heap[g]? = some (.cells l.toArray t (0, 0))

section
variable {w w' : World} {g : Nat} {t : TypeId} {l : List Value}
theorem Held.lt (h : Held w g t l) : g < w.heap.size := (Array.getElem?_eq_some_iff.1 h).1
theorem Held.cell (h : Held w g t l) (i : Nat) : w.cell? ⟨g, i, none⟩ = l[i]? := by
  rw [cell_of_row w g i l.toArray t (0, 0) h]; simp
theorem Held.at (h : Held w g t l) {i : Nat} {v : Value} (hv : l[i]? = some v) : w.cell? ⟨g, i, none⟩ = some v := (h.cell i).trans hv
theorem Held.free (h : Held w g t l) (i : Nat) : w.frozen? ⟨g, i, none⟩ = false := by
  have h' : w.heap[g]? = some (.cells l.toArray t (0, 0)) := h
  simp [World.frozen?, h']
theorem Held.new (w : World) (t : TypeId) (l : List Value) : Held (w.alloc (.cells l.toArray t)) w.heap.size t l := heap_alloc_new w _
theorem Held.made {w : World} {l : List Value} {t : TypeId} {g : Nat} (hg : w.heap.size = g) : Held (w.alloc (.cells l.toArray t)) g t l := by subst hg; exact Held.new w t l
theorem Held.drew (h : Held w g t l) : Held w.drew g t l := h
theorem Held.drewN (h : Held w g t l) (n : Nat) : Held (w.drewN n) g t l := h
theorem Held.alloc (h : Held w g t l) (o : Obj) : Held (w.alloc o) g t l := (Below.heap_alloc w o g h.lt).trans h
theorem Held.put (h : Held w g t l) (i : Nat) (u : Value) : Held (w.setCell ⟨g, i, none⟩ u) g t (l.set i u) := by
  have h' : w.heap[g]? = some (.cells l.toArray t (0, 0)) := h
  show (w.setCell ⟨g, i, none⟩ u).heap[g]? = _
  simp [World.setCell, Array.getElem?_modify, h']
theorem Held.far (h : Held w g t l) {b : Nat} (hp : g ≠ b) (i : Nat) (u : Value) : Held (w.setCell ⟨b, i, none⟩ u) g t l := (Below.heap_setCell w ⟨b, i, none⟩ u g hp).trans h
theorem Held.below {B : Nat} (h : Held w g t l) (hb : Below B w w') (hg : g < B) : Held w' g t l := (hb.block g hg).trans h
theorem Held.grown {row : Option Nat} (h : Held w g t l) (hb : w.grownBy w' row) (hg : some g ≠ row) : Held w' g t l := (hb.block g h.lt hg).trans h
theorem Held.apart {g' : Nat} {t' : TypeId} {l' : List Value} (h : Held w g t l) (h' : Held w g' t' l') (hne : t ≠ t') : g ≠ g' := by
  rintro rfl
  have h1 : w.heap[g]? = some (.cells l.toArray t (0, 0)) := h
  have h2 : w.heap[g]? = some (.cells l'.toArray t' (0, 0)) := h'
  rw [h1] at h2
  injection h2 with h2
  injection h2 with _ ht
  exact hne ht
theorem own_held_apart {base : Nat} {e : TypeId} {size n : Nat} {v : Value} {xs : List Value} (h : w.ownsRow base e size v n xs) (hg : Held w g t l) (hne : e ≠ t) : v.ownBlock ≠ some g := by
  rcases h.2 with ⟨rfl, _⟩ | ⟨g', cap, cur, rfl, _, hh, _⟩
  · simp [Value.ownBlock]
  · intro he
    obtain rfl : g' = g := by simpa [Value.ownBlock] using he
    have h1 : w.heap[g']? = some (.cells l.toArray t (0, 0)) := hg
    rw [hh] at h1
    injection h1 with h1
    injection h1 with _ ht
    exact hne ht
theorem Held.range (h : Held w g t l) : w.rangeAt g 0 l := fun j v hv => by rw [Nat.zero_add]; exact h.at hv
theorem Held.there (h : Held w g t l) : w.there g 0 l.length := fun j hj => by
  rw [Nat.zero_add, h.cell, List.getElem?_eq_getElem hj]
  exact ⟨rfl, h.free j⟩
end

/-- A whole row is stored over a block. -/
theorem setCells_heap (g : Nat) : ∀ (vs : List Value) (o : Nat) (w : World) (t : TypeId) (l : List Value), Held w g t l → o + vs.length ≤ l.length → Held (w.setCells g o vs) g t (l.take o ++ vs ++ l.drop (o + vs.length))
  | [], o, w, t, l, h, _ => by
    show Held w g t _
    simpa using h
  | v :: vs, o, w, t, l, h, hl => by
    have ih := setCells_heap g vs (o + 1) (w.setCell ⟨g, o, none⟩ v) t (l.set o v) (h.put o v) (by simp at hl ⊢; omega)
    have e : (l.set o v).take (o + 1) ++ vs ++ (l.set o v).drop (o + 1 + vs.length) = l.take o ++ v :: vs ++ l.drop (o + (v :: vs).length) := by
      have ho : o < l.length := by simp at hl; omega
      rw [List.take_succ_eq_append_getElem (by simpa using ho), List.getElem_set_self, List.take_set_of_le (Nat.le_refl o), List.drop_set_of_lt (by omega)]
      simp [Nat.add_assoc, Nat.add_comm 1]
    rw [e] at ih
    exact ih
theorem Held.over {w : World} {g : Nat} {t : TypeId} {l : List Value} (h : Held w g t l) (vs : List Value) (hl : vs.length = l.length) : Held (w.setCells g 0 vs) g t vs := by
  have := setCells_heap g vs 0 w t l h (by omega)
  rw [List.take_zero, List.nil_append, Nat.zero_add, hl, List.drop_length, List.append_nil] at this
  exact this

theorem below_setCells {n : Nat} {a : World} (g : Nat) (hg : n ≤ g) : ∀ (vs : List Value) (o : Nat) (b : World), Below n a b → Below n a (b.setCells g o vs)
  | [], _, _, h => h
  | v :: vs, o, _, h => below_setCells g hg vs (o + 1) _ (h.setCell (p := ⟨g, o, none⟩) hg v)

/-- A guard: the next operation is a load, a store, an index, at type ty. -/
theorem is_store (ty : TypeId) {P : Program} {ops : Array Oper} {Q : Exit → Act → World → Prop} {dst : Option Nat} {x y : Operand} {t : TypeId} {pos : String} {af : Array Edge} {g : Option (Nat × Bool)} {rest : List Oper} {a : Act} {w : World}
    (h : wpList P ops Q ({ dst := dst, op := Op.store ty x y, type := t, pos := pos, after := af, guard := g } :: rest) a w) : wpList P ops Q ({ dst := dst, op := Op.store ty x y, type := t, pos := pos, after := af, guard := g } :: rest) a w := h
theorem is_load (ty : TypeId) {P : Program} {ops : Array Oper} {Q : Exit → Act → World → Prop} {dst : Option Nat} {x : Operand} {t : TypeId} {pos : String} {af : Array Edge} {g : Option (Nat × Bool)} {rest : List Oper} {a : Act} {w : World}
    (h : wpList P ops Q ({ dst := dst, op := Op.load ty x, type := t, pos := pos, after := af, guard := g } :: rest) a w) : wpList P ops Q ({ dst := dst, op := Op.load ty x, type := t, pos := pos, after := af, guard := g } :: rest) a w := h

/-- All blocks of S are as they were. -/
structure Sm (S : Nat → Prop) (W W' : World) : Prop where
  os : W'.os = W.os
  tape : W'.tape = W.tape
  output : W'.output = W.output
  size : W.heap.size ≤ W'.heap.size
  block : ∀ k, S k → k < W.heap.size → W'.heap[k]? = W.heap[k]?
theorem Sm.refl (S : Nat → Prop) (W : World) : Sm S W W := ⟨rfl, rfl, rfl, Nat.le_refl _, fun _ _ _ => rfl⟩
theorem Sm.trans {S : Nat → Prop} {a b c : World} (h : Sm S a b) (k : Sm S b c) : Sm S a c :=
  ⟨k.os.trans h.os, k.tape.trans h.tape, k.output.trans h.output, Nat.le_trans h.size k.size, fun i hs hi => (k.block i hs (Nat.lt_of_lt_of_le hi h.size)).trans (h.block i hs hi)⟩
theorem Sm.setCells (g : Nat) : ∀ (vs : List Value) (o : Nat) (w : World), Sm (fun k => k ≠ g) w (w.setCells g o vs)
  | [], _, w => Sm.refl _ w
  | v :: vs, o, w => by
    have h1 : Sm (fun k => k ≠ g) w (w.setCell ⟨g, o, none⟩ v) := ⟨rfl, rfl, rfl, by simp [World.setCell], fun k hk _ => Below.heap_setCell w ⟨g, o, none⟩ v k hk⟩
    exact h1.trans (Sm.setCells g vs (o + 1) _)
theorem setCells_size (g : Nat) : ∀ (vs : List Value) (o : Nat) (w : World), (w.setCells g o vs).heap.size = w.heap.size
  | [], _, _ => rfl
  | v :: vs, o, w => by
    show ((w.setCell ⟨g, o, none⟩ v).setCells g (o + 1) vs).heap.size = _
    rw [setCells_size g vs (o + 1)]
    simp [World.setCell]
theorem Held.sm {S : Nat → Prop} {w w' : World} {g : Nat} {t : TypeId} {l : List Value} (h : Held w g t l) (hs : Sm S w w') (hg : S g) : Held w' g t l := (hs.block g hg h.lt).trans h
theorem Sm.below {n g : Nat} {a b c : World} (hs : Sm (fun k => k ≠ g) b c) (h : Below n a b) (hg : n ≤ g) (hn : n ≤ b.heap.size) : Below n a c :=
  h.trans ⟨hs.os, hs.tape, hs.output, hs.size, fun k hk => hs.block k (by show k ≠ g; omega) (by omega)⟩
end Go.Proofs.Ytmlhecfhhhebnaa
