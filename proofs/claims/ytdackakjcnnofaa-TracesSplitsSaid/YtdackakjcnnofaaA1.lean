/- Lib Held Sched Flow of the seat's texts, in this order. -/
import Derived.WalkKit
import Derived.WalkSpells
import Derived.Lib.Hide
import Derived.Deep.RegionLaw
import Derived.Laws.OwnMore
import Derived.Deep.Draws
import Derived.Deep.MidRow
import Derived.Laws.Rows
import Derived.Orders
import Derived.Deep.RegionWith

/- Slices of ints in memory: `Ints` (a slice value reads as a list), `OwnI` (the call's own slice). No program in sight. -/
namespace Go.Proofs.Ytdackakjcnnofaa
open Go.RowKit

/-- The slice value `v` reads as the ints `xs` in the world `w`. -/
def Ints (w : World) (v : Value) (xs : List Int) : Prop :=
  ∃ (a : Option Addr) (c : Nat), v = .slice a xs.length c ∧ xs.length ≤ 17592186044416 ∧ xs.length ≤ c ∧
    (xs ≠ [] → ∃ b off, a = some ⟨b, off, none⟩ ∧ b < w.heap.size ∧
      ∀ i (h : i < xs.length), w.cell? ⟨b, off + i, none⟩ = some (.int .i64 xs[i]))

/-- The slice value `v` is nil or the head of a row from block `B` on that holds the ints `xs` first. -/
def OwnI (e : TypeId) (B : Nat) (w : World) (v : Value) (xs : List Int) : Prop :=
  w.ownsRow B e 1 v xs.length (xs.map (Value.int .i64))

theorem Ints.nil (w : World) : Ints w (.slice none 0 0) [] := ⟨none, 0, rfl, by simp, by simp, fun h => absurd rfl h⟩

theorem Ints.below {w w' : World} {v : Value} {xs : List Int} (h : Ints w v xs) (hb : Below w.heap.size w w') : Ints w' v xs := by
  obtain ⟨a, c, rfl, h1, h2, h4⟩ := h
  refine ⟨a, c, rfl, h1, h2, fun hne => ?_⟩
  obtain ⟨b, off, rfl, hlt, hc⟩ := h4 hne
  exact ⟨b, off, rfl, Nat.lt_of_lt_of_le hlt hb.size, fun i hi => (hb.cell (p := ⟨b, off + i, none⟩) hlt).trans (hc i hi)⟩

theorem OwnI.ints {e : TypeId} {B : Nat} {w : World} {v : Value} {xs : List Int} (h : OwnI e B w v xs) (hl : xs.length ≤ 17592186044416) : Ints w v xs := by
  rcases h.2 with ⟨rfl, hn⟩ | ⟨g, cap, cur, rfl, hg, hh, hn, hcap, hsz, hx⟩
  · have : xs = [] := List.eq_nil_of_length_eq_zero hn
    subst this
    exact Ints.nil w
  · refine ⟨some ⟨g, 0, none⟩, cap, rfl, hl, hn, fun hne => ⟨g, 0, rfl, (Array.getElem?_eq_some_iff.1 hh).1, fun i hi => ?_⟩⟩
    have := World.ownsRow.cellAt (w := w) (base := B) (e := e) (size := 1) (g := g) (n := xs.length) (cap := cap) h i (by omega)
    rw [Nat.zero_add, this]
    simp [List.getElem?_eq_getElem hi]

theorem OwnI.form {e : TypeId} {B : Nat} {w : World} {v : Value} {xs : List Int} (h : OwnI e B w v xs) : ∃ a c, v = .slice a xs.length c := by
  rcases h.2 with ⟨rfl, hn⟩ | ⟨g, cap, cur, rfl, _⟩
  · exact ⟨none, 0, by rw [hn]⟩
  · exact ⟨_, _, rfl⟩
theorem OwnI.nil (e : TypeId) (B : Nat) (w : World) : OwnI e B w (.slice none 0 0) [] := World.ownsRow_nil w B e 1

/-- The cell of index i. -/
theorem Ints.len {w : World} {v : Value} {xs : List Int} (h : Ints w v xs) : xs.length ≤ 17592186044416 := by
  obtain ⟨a, c, rfl, h1, _⟩ := h; exact h1

/-- What the table says of the element type: int. -/
def IsInt (P : Program) (e : TypeId) : Prop := (P.info? e).map (fun i => (i.zero, i.size, i.bytes)) = some (some (.int .i64 0), 1, 8)

section append
variable {P : Program} {ops : Array Oper} {o : Oper} {a : Act} {w : World} {Q : Exit → Act → World → Prop}

theorem run_app1 {t ty e : TypeId} (h1 : P.underlying t = some (.slice e)) (hi : IsInt P e) {B : Nat} {v : Value} {xs : List Int} {y : Int} (hown : OwnI e B w v xs)
    {ad : Addr} {c : Nat} (hc : w.cell? ad = some (.int .i64 y)) (hlen : xs.length < 17592186044416) (hB : B ≤ w.heap.size) :
    ∃ v' w', (Builtin.append_ #[t, t] ty #[v, .slice (some ad) 1 c]).run P w = .ok v' w' ∧ OwnI e B w' v' (xs ++ [y]) ∧ w.grownBy w' v.ownBlock ∧ Below B w w' := by
  obtain ⟨i, hi1, hz0, hz1, hz2⟩ := info_parts hi
  obtain ⟨v', w', hrun, r1, r2, _⟩ := run_append_own (P := P) w B t ty e i (.int .i64 0) 1 8 h1 hi1 hz0 hz1 hz2 rfl (by decide) v xs.length _ hown ad 1 c [.int .i64 y] rfl
    (by
      intro j u hj
      match j, hj with
      | 0, hj => simp at hj; subst hj; simpa [Addr.add] using hc)
    (by intro u hu; simp at hu; subst hu; rfl) (by unfold maxLen; omega) (by omega) hB
  refine ⟨v', w', hrun, by unfold OwnI; simpa using r1, r2, (Below.refl B w).grown r2 hB (fun k hk => (hown.lt k hk).1)⟩

/-- `append(s, y)` as one step of a region that draws its order. -/
theorem step_app1 {K : Act → World → Prop} {E : Prop} (hg : o.guard = none) (s x : Operand) (t : TypeId) (hop : o.op = Op.call { callee := Callee.builtin Builtin.append, args := #[s, x], argTypes := #[t, t] })
    (e : TypeId) (h1 : P.underlying t = some (.slice e)) (hi : IsInt P e) (B : Nat) (v : Value) (xs : List Int) (y : Int) (hs : a.eval s = v) (hown : OwnI e B w v xs)
    (ad : Addr) (c : Nat) (hx : a.eval x = .slice (some ad) 1 c) (hc : w.cell? ad = some (.int .i64 y)) (hlen : xs.length < 17592186044416) (hB : B ≤ w.heap.size)
    (hK : ∀ v' w', OwnI e B w' v' (xs ++ [y]) → w.grownBy w' v.ownBlock → Below B w w' → K (a.put o.dst v') w') :
    if Region.wanted o (yielded ops a.tmps) = true then Oper.wp P o a w K Q else E := by
  have hw : Region.wanted o (yielded ops a.tmps) = true := by simp [Region.wanted, hg]
  rw [if_pos hw]
  obtain ⟨v', w', hrun, r1, r2, r3⟩ := run_app1 (P := P) (ty := o.type) h1 hi hown hc hlen hB
  unfold Oper.wp
  have hx' := hK v' w' r1 r2 r3
  simp [execOp, hop, resolve, invoke, builtin, hs, hx, Result.andThen]
  rw [hrun]
  exact hx'

/-- `append(s, y)` on the walk's road. -/
theorem wpList_app1 {rest : List Oper} (hg : o.guard = none) (s x : Operand) (t : TypeId) (hop : o.op = Op.call { callee := Callee.builtin Builtin.append, args := #[s, x], argTypes := #[t, t] })
    (e : TypeId) (h1 : P.underlying t = some (.slice e)) (hi : IsInt P e) (B : Nat) (v : Value) (xs : List Int) (y : Int) (hs : a.eval s = v) (hown : OwnI e B w v xs)
    (ad : Addr) (c : Nat) (hx : a.eval x = .slice (some ad) 1 c) (hc : w.cell? ad = some (.int .i64 y)) (hlen : xs.length < 17592186044416) (hB : B ≤ w.heap.size)
    (hK : ∀ v' w', OwnI e B w' v' (xs ++ [y]) → w.grownBy w' v.ownBlock → Below B w w' → wpList P ops Q rest (a.put o.dst v') w') :
    wpList P ops Q (o :: rest) a w := by
  obtain ⟨i, hi1, hz0, hz1, hz2⟩ := info_parts hi
  refine wpList_append_own w hg s x t hop B e i (.int .i64 0) 1 8 h1 hi1 hz0 hz1 hz2 rfl (by decide) v xs.length _ hs hown ad 1 c [.int .i64 y] hx rfl
    (by
      intro j u hj
      match j, hj with
      | 0, hj => simp at hj; subst hj; simpa [Addr.add] using hc)
    (by intro u hu; simp at hu; subst hu; rfl) (by unfold maxLen; omega) (by omega) hB ?_
  intro v' w' r1 r2 _
  exact hK v' w' (by unfold OwnI; simpa using r1) r2 ((Below.refl B w).grown r2 hB (fun k hk => (hown.lt k hk).1))
end append

theorem OwnI.alloc {e : TypeId} {B : Nat} {w : World} {v : Value} {xs : List Int} (h : OwnI e B w v xs) (o : Obj) : OwnI e B (w.alloc o) v xs := World.ownsRow.alloc h o
theorem OwnI.drew {e : TypeId} {B : Nat} {w : World} {v : Value} {xs : List Int} (h : OwnI e B w v xs) : OwnI e B w.drew v xs := World.ownsRow.drew h
/-- A row from block n on is kept where all that lay is kept. -/
theorem OwnI.below {e : TypeId} {B : Nat} {w w' : World} {v : Value} {xs : List Int} (h : OwnI e B w v xs) (hb : Below w.heap.size w w') : OwnI e B w' v xs :=
  World.ownsRow.kept (row := none) h ⟨hb.os, hb.tape, hb.output, hb.size, fun k hk _ => hb.block k hk⟩ (by cases hv : v.ownBlock <;> simp)
theorem OwnI.mono {e : TypeId} {B B' : Nat} {w : World} {v : Value} {xs : List Int} (h : OwnI e B w v xs) (hB : B' ≤ B) : OwnI e B' w v xs := by
  refine ⟨h.1, ?_⟩
  rcases h.2 with h2 | ⟨g, cap, cur, hv, hg, r⟩
  · exact Or.inl h2
  · exact Or.inr ⟨g, cap, cur, hv, Nat.le_trans hB hg, r⟩

/-- Numbers from 0 on, as ints. -/
def toI (bs : List Nat) : List Int := bs.map (fun n : Nat => (n : Int))

theorem toI_length (bs : List Nat) : (toI bs).length = bs.length := by simp [toI]
theorem toI_getElem (bs : List Nat) (i : Nat) (h : i < (toI bs).length) : (toI bs)[i] = ((bs[i]'(by simpa [toI] using h) : Nat) : Int) := by simp [toI]
theorem toI_take (bs : List Nat) (n : Nat) : (toI bs).take n = toI (bs.take n) := by simp [toI, List.map_take]
theorem toI_append (a b : List Nat) : toI (a ++ b) = toI a ++ toI b := by simp [toI]
theorem toI_nil : toI [] = [] := rfl
theorem toI_inj : ∀ {a b : List Nat}, toI a = toI b → a = b
  | [], [], _ => rfl
  | [], _ :: _, h => by simp [toI] at h
  | _ :: _, [], h => by simp [toI] at h
  | x :: a, y :: b, h => by
    have h' : (x : Int) = y ∧ toI a = toI b := by simpa [toI] using h
    rw [toI_inj h'.2, Int.ofNat.inj h'.1]

theorem ret_int {k : IntKind} {a b : Int} (h : a = b) : Ending.returned (.int k a) = .returned (.int k b) := by rw [h]
theorem ret_bool {a b : Bool} (h : a = b) : Ending.returned (.bool a) = .returned (.bool b) := by rw [h]

/-- A new block of one cell. -/
theorem cell_new1 (w : World) (u : Value) (e : TypeId) : (w.alloc (.cells #[u] e)).cell? ⟨w.heap.size, 0, none⟩ = some u := by simp

/-- What a slice of numbers gives a walk: its shape, and the cell of an index. -/
theorem Ints.openN {w : World} {v : Value} {bs : List Nat} (h : Ints w v (toI bs)) : ∃ (a : Option Addr) (c : Nat), v = .slice a bs.length c ∧ bs.length ≤ 17592186044416 ∧ bs.length ≤ c ∧
    (bs ≠ [] → ∃ b off, a = some ⟨b, off, none⟩ ∧ b < w.heap.size ∧ ∀ i (h : i < bs.length), w.cell? ⟨b, off + i, none⟩ = some (.int .i64 ((bs[i] : Nat) : Int))) := by
  obtain ⟨a, c, rfl, h1, h2, h3⟩ := h
  rw [toI_length] at h1 h2 ⊢
  refine ⟨a, c, rfl, h1, h2, fun hne => ?_⟩
  obtain ⟨b, off, rfl, hb, hc⟩ := h3 (by intro h; exact hne (by simpa [toI] using h))
  exact ⟨b, off, rfl, hb, fun i hi => by rw [hc i (by rw [toI_length]; exact hi), toI_getElem]⟩


/-- `v[1:]`. -/
theorem ints_tail {w : World} {b off n c : Nat} {x : Int} {xs : List Int} (h : Ints w (.slice (some ⟨b, off, none⟩) (n + 1) c) (x :: xs)) :
    Ints w (.slice (if c = 1 then some ⟨b, off, none⟩ else some ⟨b, off + 1, none⟩) n (c - 1)) xs := by
  obtain ⟨a', c', he, h1, h2, h3⟩ := h
  obtain ⟨rfl, hn, rfl⟩ := Value.slice.inj he
  simp only [List.length_cons] at hn h1 h2
  obtain ⟨b', off', e, hlt, hc⟩ := h3 (by simp)
  obtain ⟨rfl, rfl⟩ : b = b' ∧ off = off' := by simpa using e
  refine ⟨_, c - 1, by rw [show n = xs.length by omega], by omega, by omega, fun hne => ?_⟩
  have hl : 0 < xs.length := List.length_pos_iff.2 hne
  refine ⟨b, off + 1, by rw [if_neg (by omega)], hlt, fun i hi => ?_⟩
  have := hc (i + 1) (by simp; omega)
  rw [show off + 1 + i = off + (i + 1) by omega, this]
  simp

/-- A new block that holds the ints xs. -/
theorem own_fresh {B : Nat} (w : World) (e : TypeId) (xs : List Int) (hB : B ≤ w.heap.size) (hm : xs.length ≤ maxLen) :
    OwnI e B (w.alloc (.cells (xs.map (Value.int .i64)).toArray e)) (.slice (some ⟨w.heap.size, 0, none⟩) xs.length xs.length) xs :=
  ⟨by simp, .inr ⟨w.heap.size, xs.length, _, rfl, hB, heap_alloc_new w _, Nat.le_refl _, hm, by simp, by simp [List.take_of_length_le]⟩⟩

end Go.Proofs.Ytdackakjcnnofaa

/- A block that is known whole (Held); what is kept (Sm). No program in sight. -/
namespace Go.Proofs.Ytdackakjcnnofaa
open Go.RowKit

/-- Block g holds just these cells, and all can be written. -/
def Held (w : World) (g : Nat) (t : TypeId) (l : List Value) : Prop := w.heap[g]? = some (.cells l.toArray t (0, 0))

section
variable {w w' : World} {g : Nat} {t : TypeId} {l : List Value}
theorem Held.lt (h : Held w g t l) : g < w.heap.size := (Array.getElem?_eq_some_iff.1 h).1
theorem Held.cell (h : Held w g t l) (i : Nat) : w.cell? ⟨g, i, none⟩ = l[i]? := by
  rw [cell_of_row w g i l.toArray t (0, 0) h]; simp
theorem Held.at (h : Held w g t l) {i : Nat} {v : Value} (hv : l[i]? = some v) : w.cell? ⟨g, i, none⟩ = some v := (h.cell i).trans hv
theorem Held.free (h : Held w g t l) (i : Nat) : w.frozen? ⟨g, i, none⟩ = false := by
  have h' : w.heap[g]? = some (.cells l.toArray t (0, 0)) := h
  simp [World.frozen?, h']
theorem Held.new (w : World) (t : TypeId) (l : List Value) : Held (w.alloc (.cells l.toArray t)) w.heap.size t l := heap_alloc_new w _
theorem Held.made {w : World} {l : List Value} {t : TypeId} {g : Nat} (hg : w.heap.size = g) : Held (w.alloc (.cells l.toArray t)) g t l := by subst hg; exact Held.new w t l
theorem Held.drew (h : Held w g t l) : Held w.drew g t l := h
theorem Held.drewN (h : Held w g t l) (n : Nat) : Held (w.drewN n) g t l := h
theorem Held.alloc (h : Held w g t l) (o : Obj) : Held (w.alloc o) g t l := (Below.heap_alloc w o g h.lt).trans h
theorem Held.put (h : Held w g t l) (i : Nat) (u : Value) : Held (w.setCell ⟨g, i, none⟩ u) g t (l.set i u) := by
  have h' : w.heap[g]? = some (.cells l.toArray t (0, 0)) := h
  show (w.setCell ⟨g, i, none⟩ u).heap[g]? = _
  simp [World.setCell, Array.getElem?_modify, h']
theorem Held.far (h : Held w g t l) {b : Nat} (hp : g ≠ b) (i : Nat) (u : Value) : Held (w.setCell ⟨b, i, none⟩ u) g t l := (Below.heap_setCell w ⟨b, i, none⟩ u g hp).trans h
theorem Held.below {B : Nat} (h : Held w g t l) (hb : Below B w w') (hg : g < B) : Held w' g t l := (hb.block g hg).trans h
theorem Held.grown {row : Option Nat} (h : Held w g t l) (hb : w.grownBy w' row) (hg : some g ≠ row) : Held w' g t l := (hb.block g h.lt hg).trans h
theorem Held.apart {g' : Nat} {t' : TypeId} {l' : List Value} (h : Held w g t l) (h' : Held w g' t' l') (hne : t ≠ t') : g ≠ g' := by
  rintro rfl
  have h1 : w.heap[g]? = some (.cells l.toArray t (0, 0)) := h
  have h2 : w.heap[g]? = some (.cells l'.toArray t' (0, 0)) := h'
  rw [h1] at h2
  injection h2 with h2
  injection h2 with _ ht
  exact hne ht
theorem own_held_apart {base : Nat} {e : TypeId} {size n : Nat} {v : Value} {xs : List Value} (h : w.ownsRow base e size v n xs) (hg : Held w g t l) (hne : e ≠ t) : v.ownBlock ≠ some g := by
  rcases h.2 with ⟨rfl, _⟩ | ⟨g', cap, cur, rfl, _, hh, _⟩
  · simp [Value.ownBlock]
  · intro he
    obtain rfl : g' = g := by simpa [Value.ownBlock] using he
    have h1 : w.heap[g']? = some (.cells l.toArray t (0, 0)) := hg
    rw [hh] at h1
    injection h1 with h1
    injection h1 with _ ht
    exact hne ht
theorem Held.range (h : Held w g t l) : w.rangeAt g 0 l := fun j v hv => by rw [Nat.zero_add]; exact h.at hv
theorem Held.there (h : Held w g t l) : w.there g 0 l.length := fun j hj => by
  rw [Nat.zero_add, h.cell, List.getElem?_eq_getElem hj]
  exact ⟨rfl, h.free j⟩
end

/-- A whole row is stored over a block. -/
theorem setCells_heap (g : Nat) : ∀ (vs : List Value) (o : Nat) (w : World) (t : TypeId) (l : List Value), Held w g t l → o + vs.length ≤ l.length → Held (w.setCells g o vs) g t (l.take o ++ vs ++ l.drop (o + vs.length))
  | [], o, w, t, l, h, _ => by
    show Held w g t _
    simpa using h
  | v :: vs, o, w, t, l, h, hl => by
    have ih := setCells_heap g vs (o + 1) (w.setCell ⟨g, o, none⟩ v) t (l.set o v) (h.put o v) (by simp at hl ⊢; omega)
    have e : (l.set o v).take (o + 1) ++ vs ++ (l.set o v).drop (o + 1 + vs.length) = l.take o ++ v :: vs ++ l.drop (o + (v :: vs).length) := by
      have ho : o < l.length := by simp at hl; omega
      rw [List.take_succ_eq_append_getElem (by simpa using ho), List.getElem_set_self, List.take_set_of_le (Nat.le_refl o), List.drop_set_of_lt (by omega)]
      simp [Nat.add_assoc, Nat.add_comm 1]
    rw [e] at ih
    exact ih
theorem Held.over {w : World} {g : Nat} {t : TypeId} {l : List Value} (h : Held w g t l) (vs : List Value) (hl : vs.length = l.length) : Held (w.setCells g 0 vs) g t vs := by
  have := setCells_heap g vs 0 w t l h (by omega)
  rw [List.take_zero, List.nil_append, Nat.zero_add, hl, List.drop_length, List.append_nil] at this
  exact this

theorem below_setCells {n : Nat} {a : World} (g : Nat) (hg : n ≤ g) : ∀ (vs : List Value) (o : Nat) (b : World), Below n a b → Below n a (b.setCells g o vs)
  | [], _, _, h => h
  | v :: vs, o, _, h => below_setCells g hg vs (o + 1) _ (h.setCell (p := ⟨g, o, none⟩) hg v)

/-- A guard: the next operation is a load, a store, an index, at type ty. -/
theorem is_store (ty : TypeId) {P : Program} {ops : Array Oper} {Q : Exit → Act → World → Prop} {dst : Option Nat} {x y : Operand} {t : TypeId} {pos : String} {af : Array Edge} {g : Option (Nat × Bool)} {rest : List Oper} {a : Act} {w : World}
    (h : wpList P ops Q ({ dst := dst, op := Op.store ty x y, type := t, pos := pos, after := af, guard := g } :: rest) a w) : wpList P ops Q ({ dst := dst, op := Op.store ty x y, type := t, pos := pos, after := af, guard := g } :: rest) a w := h
theorem is_load (ty : TypeId) {P : Program} {ops : Array Oper} {Q : Exit → Act → World → Prop} {dst : Option Nat} {x : Operand} {t : TypeId} {pos : String} {af : Array Edge} {g : Option (Nat × Bool)} {rest : List Oper} {a : Act} {w : World}
    (h : wpList P ops Q ({ dst := dst, op := Op.load ty x, type := t, pos := pos, after := af, guard := g } :: rest) a w) : wpList P ops Q ({ dst := dst, op := Op.load ty x, type := t, pos := pos, after := af, guard := g } :: rest) a w := h

/-- All blocks of S are as they were. -/
structure Sm (S : Nat → Prop) (W W' : World) : Prop where
  os : W'.os = W.os
  tape : W'.tape = W.tape
  output : W'.output = W.output
  size : W.heap.size ≤ W'.heap.size
  block : ∀ k, S k → k < W.heap.size → W'.heap[k]? = W.heap[k]?
theorem Sm.refl (S : Nat → Prop) (W : World) : Sm S W W := ⟨rfl, rfl, rfl, Nat.le_refl _, fun _ _ _ => rfl⟩
theorem Sm.trans {S : Nat → Prop} {a b c : World} (h : Sm S a b) (k : Sm S b c) : Sm S a c :=
  ⟨k.os.trans h.os, k.tape.trans h.tape, k.output.trans h.output, Nat.le_trans h.size k.size, fun i hs hi => (k.block i hs (Nat.lt_of_lt_of_le hi h.size)).trans (h.block i hs hi)⟩
theorem Sm.setCells (g : Nat) : ∀ (vs : List Value) (o : Nat) (w : World), Sm (fun k => k ≠ g) w (w.setCells g o vs)
  | [], _, w => Sm.refl _ w
  | v :: vs, o, w => by
    have h1 : Sm (fun k => k ≠ g) w (w.setCell ⟨g, o, none⟩ v) := ⟨rfl, rfl, rfl, by simp [World.setCell], fun k hk _ => Below.heap_setCell w ⟨g, o, none⟩ v k hk⟩
    exact h1.trans (Sm.setCells g vs (o + 1) _)
theorem setCells_size (g : Nat) : ∀ (vs : List Value) (o : Nat) (w : World), (w.setCells g o vs).heap.size = w.heap.size
  | [], _, _ => rfl
  | v :: vs, o, w => by
    show ((w.setCell ⟨g, o, none⟩ v).setCells g (o + 1) vs).heap.size = _
    rw [setCells_size g vs (o + 1)]
    simp [World.setCell]
theorem Held.sm {S : Nat → Prop} {w w' : World} {g : Nat} {t : TypeId} {l : List Value} (h : Held w g t l) (hs : Sm S w w') (hg : S g) : Held w' g t l := (hs.block g hg h.lt).trans h
theorem Sm.below {n g : Nat} {a b c : World} (hs : Sm (fun k => k ≠ g) b c) (h : Below n a b) (hg : n ≤ g) (hn : n ≤ b.heap.size) : Below n a c :=
  h.trans ⟨hs.os, hs.tape, hs.output, hs.size, fun k hk => hs.block k (by show k ≠ g; omega) (by omega)⟩
end Go.Proofs.Ytdackakjcnnofaa

/- A REGION THAT DRAWS ITS ORDER, BY ONE GOAL AN OPERATION: what has been done is a predicate on the set of operations done, the slots written and the world. -/
namespace Go.Proofs.Ytdackakjcnnofaa

/-- The frame whose slots ds hold y. -/
def hole (base : Array Value) (ds : List Nat) (y : Nat → Value) : Array Value := ds.foldl (fun t d => t.setIfInBounds d (y d)) base
def upd (y : Nat → Value) (d : Nat) (v : Value) : Nat → Value := fun t => if t = d then v else y t
def updO (y : Nat → Value) (d : Option Nat) (v : Value) : Nat → Value := match d with | some t => upd y t v | none => y

theorem hole_get (ds : List Nat) (y : Nat → Value) : ∀ (base : Array Value) (i : Nat), (hole base ds y)[i]? = if i ∈ ds then (if i < base.size then some (y i) else none) else base[i]? := by
  induction ds with
  | nil => intro base i; simp [hole]
  | cons d ds ih =>
    intro base i
    have := ih (base.setIfInBounds d (y d)) i
    unfold hole at this ⊢
    rw [List.foldl_cons, this]
    by_cases h : i ∈ ds
    · simp [h]
    · by_cases hd : i = d
      · subst hd
        simp [h, Array.getElem?_setIfInBounds]
      · simp [h, hd, Ne.symm hd]

theorem hole_put (base : Array Value) (ds : List Nat) (y : Nat → Value) (d : Nat) (v : Value) (hd : d ∈ ds) : (hole base ds y).setIfInBounds d v = hole base ds (upd y d v) := by
  refine Array.ext_getElem? fun i => ?_
  rw [Array.getElem?_setIfInBounds, hole_get, hole_get]
  have hs : (hole base ds y).size = base.size := by
    have : ∀ (ds : List Nat) (b : Array Value), (hole b ds y).size = b.size := by
      intro ds
      induction ds with
      | nil => intro b; rfl
      | cons e es ih => intro b; unfold hole at ih ⊢; rw [List.foldl_cons, ih]; simp
    exact this ds base
  by_cases h : d = i
  · subst h
    simp [hd, hs, upd]
  · have : (upd y d v) i = y i := by simp [upd, Ne.symm h]
    simp [h, this]

theorem hole_self (ds : List Nat) : ∀ (base : Array Value) , hole base ds (fun t => base.getD t undef) = base := by
  intro base
  refine Array.ext_getElem? fun i => ?_
  rw [hole_get]
  by_cases h : i ∈ ds
  · rw [if_pos h]
    by_cases hi : i < base.size
    · simp [hi]
    · simp [hi]
  · rw [if_neg h]

section
variable {P : Program} {ops : Array Oper} {Q : Exit → Act → World → Prop}

/-- One operation of the region: what its value and the world behind it must meet. -/
def RStep (P : Program) (ops : Array Oper) (Q : Exit → Act → World → Prop) (o : Oper) (a : Act) (w : World) (post : Value → World → Prop) : Prop :=
  ∀ K : Act → World → Prop, (∀ v w', post v w' → K (a.put o.dst v) w') →
    if Region.wanted o (yielded ops a.tmps) then o.wp P a w K Q ∨ (o.asks P a w ∧ LetsOut Q) else K (a.put o.dst undef) w

theorem RStep.mono {o : Oper} {a : Act} {w : World} {p q : Value → World → Prop} (h : RStep P ops Q o a w p) (hpq : ∀ v w', p v w' → q v w') : RStep P ops Q o a w q :=
  fun K hK => h K fun v w' hp => hK v w' (hpq v w' hp)

/-- A slot's list, and that the edges lead backward. -/
def schedOk (ops : Array Oper) (ds : List Nat) : Bool :=
  ops.zipIdx.toList.all fun p => (match p.1.dst with | some d => ds.contains d | none => true) && p.1.after.all fun e => !Region.binds .any e || decide (e.on < p.2)

theorem schedOk_dst {ds : List Nat} (h : schedOk ops ds = true) {i : Nat} {o : Oper} (ho : ops[i]? = some o) {d : Nat} (hd : o.dst = some d) : d ∈ ds := by
  have := List.all_eq_true.1 h (o, i) (by
    rw [Array.mem_toList_iff, Array.mem_zipIdx_iff_getElem?]; exact ho)
  simp only [Bool.and_eq_true, hd] at this
  simpa using this.1
theorem schedOk_edge {ds : List Nat} (h : schedOk ops ds = true) {i : Nat} {o : Oper} (ho : ops[i]? = some o) {e : Edge} (he : e ∈ o.after) (hb : Region.binds .any e = true) : e.on < i := by
  have := List.all_eq_true.1 h (o, i) (by
    rw [Array.mem_toList_iff, Array.mem_zipIdx_iff_getElem?]; exact ho)
  simp only [Bool.and_eq_true] at this
  have h2 := Array.all_eq_true'.1 this.2 e he
  simpa [hb] using h2

theorem getD_both {l : Array Bool} {i : Nat} (h : i < l.size) (b : Bool) : l.getD i b = l[i] := by simp [Array.getD, h]

theorem wpAny_sched (ds : List Nat) (hok : schedOk ops ds = true) (base : Array Value) (dfs : List Deferred) (S : (Nat → Bool) → (Nat → Value) → World → Prop)
    (hs : ∀ i o, ops[i]? = some o → ∀ d y w, d i = false → (∀ e ∈ o.after, Region.binds .any e = true → d e.on = true) → S d y w →
      RStep P ops Q o { tmps := hole base ds y, defers := dfs } w fun v w' => S (fun j => j == i || d j) (updO y o.dst v) w')
    (he : ∀ d y w, (∀ i, i < ops.size → d i = true) → S d y w → Q .normal { tmps := hole base ds y, defers := dfs } w) :
    ∀ (fuel : Nat) (listed : Array Bool) (y : Nat → Value) (w : World), listed.size = ops.size → ((List.range ops.size).filter fun i => !listed.getD i true).length ≤ fuel →
      S (fun i => listed.getD i false) y w → wpAny P .any ops Q fuel listed { tmps := hole base ds y, defers := dfs } w := by
  have hready : ∀ listed : Array Bool, listed.size = ops.size → Region.ready .any ops listed = [] → ∀ i, i < ops.size → listed.getD i false = true := by
    intro listed hsz hr
    intro i
    induction i using Nat.strongRecOn with
    | _ i ih =>
      intro hi
      cases hl : listed.getD i false with
      | true => rfl
      | false =>
        exfalso
        have ho : ops[i]? = some ops[i] := Array.getElem?_eq_getElem hi
        have hmem : i ∈ Region.ready .any ops listed := by
          unfold Region.ready
          rw [List.mem_filter]
          refine ⟨List.mem_range.2 hi, ?_⟩
          have h1 : listed.getD i true = false := by
            have hi' : i < listed.size := by omega
            simp only [Array.getD, hi', dite_true] at hl ⊢
            exact hl
          rw [ho]
          simp only [h1, Bool.not_false, Bool.true_and, Option.map_some, Option.getD_some]
          rw [Array.all_eq_true']
          intro e he'
          by_cases hb : Region.binds .any e = true
          · have := schedOk_edge hok ho he' hb
            rw [ih e.on this (by omega)]; simp
          · simp [Bool.eq_false_iff.2 hb]
        rw [hr] at hmem
        cases hmem
  intro fuel
  induction fuel with
  | zero =>
    intro listed y w hsz hcnt hS
    have hall : ∀ i, i < ops.size → listed.getD i false = true := by
      intro i hi
      have hnil := List.length_eq_zero_iff.1 (Nat.le_zero.1 hcnt)
      have := List.filter_eq_nil_iff.1 hnil i (List.mem_range.2 hi)
      have hi' : i < listed.size := by omega
      simp only [Array.getD, hi', dite_true] at this ⊢
      simpa using this
    refine ⟨?_, he _ y w hall hS⟩
    unfold Region.ready
    rw [List.filter_eq_nil_iff]
    intro i hi
    have := hall i (List.mem_range.1 hi)
    have hi' : i < listed.size := by have := List.mem_range.1 hi; omega
    rw [getD_both hi'] at this
    rw [getD_both hi', this]; simp
  | succ fuel ih =>
    intro listed y w hsz hcnt hS
    refine ⟨fun hr => he _ y w (hready listed hsz hr) hS, fun i hi => ?_⟩
    unfold Region.ready at hi
    rw [List.mem_filter] at hi
    obtain ⟨hi1, hi2⟩ := hi
    have hlt := List.mem_range.1 hi1
    have hlt' : i < listed.size := by omega
    have ho : ops[i]? = some ops[i] := Array.getElem?_eq_getElem hlt
    rw [ho] at hi2
    simp only [Option.map_some, Option.getD_some, Bool.and_eq_true, Bool.not_eq_true'] at hi2
    have hf : listed.getD i false = false := by
      have := hi2.1
      simp only [Array.getD, hlt', dite_true] at this ⊢
      exact this
    have hedge : ∀ e ∈ ops[i].after, Region.binds .any e = true → listed.getD e.on false = true := by
      intro e he' hb
      have := Array.all_eq_true'.1 hi2.2 e he'
      simpa [hb] using this
    have st := hs i ops[i] ho (fun i => listed.getD i false) y w hf hedge hS
    unfold wpOp
    simp only [ho]
    refine st (wpAny P .any ops Q fuel (listed.setIfInBounds i true)) ?_
    intro v w' hS'
    have hput : ({ tmps := hole base ds y, defers := dfs } : Act).put ops[i].dst v = { tmps := hole base ds (updO y ops[i].dst v), defers := dfs } := by
      unfold Act.put updO
      cases hd : ops[i].dst with
      | none => rfl
      | some d => simp only []; rw [hole_put _ _ _ _ _ (schedOk_dst hok ho hd)]
    rw [hput]
    refine ih _ _ _ (by simpa using hsz) ?_ ?_
    · have h1 : ((List.range ops.size).filter fun j => !(listed.setIfInBounds i true).getD j true) = ((List.range ops.size).filter fun j => !listed.getD j true).filter (fun j => !(j == i)) := by
        rw [List.filter_filter]
        refine List.filter_congr fun j hj => ?_
        have hj' : j < listed.size := by have := List.mem_range.1 hj; omega
        by_cases hji : j = i
        · subst hji
          rw [getD_both (by simpa using hj')]
          simp
        · have : (j == i) = false := by simpa using hji
          rw [getD_both (by simpa using hj'), getD_both hj', this, Array.getElem_setIfInBounds_ne (by simpa using hj') (Ne.symm hji)]
          simp
      rw [h1]
      have hmem : i ∈ (List.range ops.size).filter fun j => !listed.getD j true := by
        rw [List.mem_filter]
        exact ⟨hi1, by rw [getD_both hlt'] at hf; rw [getD_both hlt', hf]; rfl⟩
      have : ((List.filter (fun j => !listed.getD j true) (List.range ops.size)).filter (fun j => !(j == i))).length < (List.filter (fun j => !listed.getD j true) (List.range ops.size)).length :=
        List.length_filter_lt_length_iff_exists.2 ⟨i, hmem, by simp⟩
      omega
    · have : (fun j => (listed.setIfInBounds i true).getD j false) = fun j => j == i || listed.getD j false := by
        funext j
        by_cases hji : j = i
        · subst hji; simp [Array.getD, hlt']
        · have h1 : (j == i) = false := by simpa using hji
          rw [h1, Bool.false_or]
          by_cases hj : j < listed.size
          · rw [getD_both (by simpa using hj), getD_both hj, Array.getElem_setIfInBounds_ne (by simpa using hj) (Ne.symm hji)]
          · simp [Array.getD, hj]
      rw [this]
      exact hS'

/-- **THE LAW.** -/
theorem wp_region_sched {id : Nat} {a : Act} {w : World} (hm : P.follows .mixedOrders = true) (ds : List Nat) (hok : schedOk ops ds = true) (S : (Nat → Bool) → (Nat → Value) → World → Prop)
    (h0 : S (fun _ => false) (fun t => a.tmps.getD t undef) w.drew)
    (hs : ∀ i o, ops[i]? = some o → ∀ d y w, d i = false → (∀ e ∈ o.after, Region.binds .any e = true → d e.on = true) → S d y w →
      RStep P ops Q o { tmps := hole a.tmps ds y, defers := a.defers } w fun v w' => S (fun j => j == i || d j) (updO y o.dst v) w')
    (he : ∀ d y w, (∀ i, i < ops.size → d i = true) → S d y w → Q .normal { tmps := hole a.tmps ds y, defers := a.defers } w) :
    (Code.region id ops true).wp P Q a w := by
  refine wp_region_any hm ?_
  have hself := hole_self ds a.tmps
  have key := wpAny_sched (P := P) (Q := Q) ds hok a.tmps a.defers S hs he ops.size (Array.replicate ops.size false) (fun t => a.tmps.getD t undef) w.drew (by simp)
    (Nat.le_trans (List.length_filter_le _ _) (by simp)) (by
      have : (fun i => (Array.replicate ops.size false).getD i false) = fun _ => false := by
        funext i
        simp only [Array.getD, Array.size_replicate]
        split
        · simp
        · rfl
      rw [this]; exact h0)
  rw [hself] at key
  exact key

/-! ### What one operation does -/
theorem rstep_value {o : Oper} {a : Act} {w w' : World} {v : Value} {post : Value → World → Prop} (hg : o.guard = none) (hr : (execOp a.eval o).run P w = .ok (.value v) w') (hp : post v w') : RStep P ops Q o a w post := by
  intro K hK
  have hw : Region.wanted o (yielded ops a.tmps) = true := by simp [Region.wanted, hg]
  rw [if_pos hw]
  refine .inl ?_
  unfold Oper.wp
  rw [hr]
  exact hK v w' hp
theorem rstep_skip {o : Oper} {a : Act} {w w' : World} {post : Value → World → Prop} (hg : o.guard = none) (hr : (execOp a.eval o).run P w = .ok .skip w') (hp : post undef w') : RStep P ops Q o a w post := by
  intro K hK
  have hw : Region.wanted o (yielded ops a.tmps) = true := by simp [Region.wanted, hg]
  rw [if_pos hw]
  refine .inl ?_
  unfold Oper.wp
  rw [hr]
  exact hK undef w' hp
theorem rstep_call {o : Oper} {a : Act} {w w' : World} {f : FuncId} {args : Array Value} {R : Ending → World → Prop} {post : Value → World → Prop} (hg : o.guard = none) (hr : (execOp a.eval o).run P w = .ok (.enter f args) w')
    (hc : Calls P f args w' R) (hp : ∀ e w'', R e w'' → ∃ v, e = .returned v ∧ post v w'') : RStep P ops Q o a w post := by
  intro K hK
  have hw : Region.wanted o (yielded ops a.tmps) = true := by simp [Region.wanted, hg]
  rw [if_pos hw]
  refine .inl ?_
  unfold Oper.wp
  rw [hr]
  refine Calls.mono hc fun e w'' hR => ?_
  obtain ⟨v, rfl, hv⟩ := hp e w'' hR
  exact hK v w'' hv
end
end Go.Proofs.Ytdackakjcnnofaa

/- A REGION THAT DRAWS ITS ORDER, BY ONE GOAL AN OPERATION: each operation's value meets a predicate that the others keep. -/
namespace Go.Proofs.Ytdackakjcnnofaa

/-- The bits of the operations that stand before each one. -/
def ancs (ops : Array Oper) : Array Nat :=
  ops.foldl (fun acc o => acc.push (o.after.foldl (fun m e => if Region.binds .any e then (m ||| 2 ^ e.on) ||| acc.getD e.on 0 else m) 0)) #[]
def anc (ops : Array Oper) (i j : Nat) : Bool := ((ancs ops).getD i 0).testBit j
def ancOk (ops : Array Oper) : Bool :=
  (List.range ops.size).all fun i => (List.range ops.size).all fun j => !anc ops i j || (match ops[i]? with | some o => o.after.any fun e => Region.binds .any e && (e.on == j || anc ops e.on j) | none => false)
def dstOf (ops : Array Oper) (j : Nat) : Option Nat := (ops[j]?).bind (·.dst)
def dstOk (ops : Array Oper) : Bool := (List.range ops.size).all fun i => (List.range ops.size).all fun j => i == j || (match dstOf ops i, dstOf ops j with | some a, some b => a != b | _, _ => true)

theorem updO_at_none (y : Nat → Value) (o : Oper) (v : Value) (h : o.dst = none) : updO y o.dst v = y := by rw [h]; rfl
theorem updO_at_some (y : Nat → Value) (o : Oper) (v : Value) (t : Nat) (h : o.dst = some t) : updO y o.dst v = upd y t v := by rw [h]; rfl
theorem updO_none (y : Nat → Value) (v : Value) : updO y none v = y := rfl

section
variable {P : Program} {ops : Array Oper} {Q : Exit → Act → World → Prop}

theorem ancOk_at (h : ancOk ops = true) {i j : Nat} (hi : i < ops.size) (hj : j < ops.size) (ha : anc ops i j = true) : ∃ o e, ops[i]? = some o ∧ e ∈ o.after ∧ Region.binds .any e = true ∧ (e.on = j ∨ anc ops e.on j = true) := by
  unfold ancOk at h
  have := List.all_eq_true.1 (List.all_eq_true.1 h i (List.mem_range.2 hi)) j (List.mem_range.2 hj)
  rw [ha] at this
  cases ho : ops[i]? with
  | none => rw [ho] at this; cases this
  | some o =>
    rw [ho] at this
    simp only [Bool.not_true, Bool.false_or, Array.any_eq_true'] at this
    obtain ⟨e, he, h2⟩ := this
    simp only [Bool.and_eq_true, Bool.or_eq_true, beq_iff_eq] at h2
    exact ⟨o, e, rfl, he, h2.1, h2.2⟩
theorem dstOk_at (h : dstOk ops = true) {i j : Nat} (hi : i < ops.size) (hj : j < ops.size) (hne : i ≠ j) {a b : Nat} (ha : dstOf ops i = some a) (hb : dstOf ops j = some b) : a ≠ b := by
  unfold dstOk at h
  have := List.all_eq_true.1 (List.all_eq_true.1 h i (List.mem_range.2 hi)) j (List.mem_range.2 hj)
  rw [ha, hb] at this
  simpa [hne] using this

/-- **THE LAW.** Ext: what every operation keeps to; V j: what operation j has brought about, said of the slots of j and of those before it. -/
theorem wp_region_flow {id : Nat} {a : Act} {w : World} (hm : P.follows .mixedOrders = true) (ds : List Nat) (hok : schedOk ops ds = true) (hanc : ancOk ops = true) (hdst : dstOk ops = true)
    (Ext : World → World → Prop) (hrefl : ∀ w, Ext w w) (htrans : ∀ a b c, Ext a b → Ext b c → Ext a c)
    (V : Nat → (Nat → Value) → World → Prop) (hV : ∀ j y w w', Ext w w' → V j y w → V j y w')
    (hVy : ∀ j y y' w, j < ops.size → (∀ i t, (anc ops j i = true ∨ i = j) → dstOf ops i = some t → y t = y' t) → V j y w → V j y' w)
    (hs : ∀ i o, ops[i]? = some o → ∀ y wx, Ext w.drew wx → (∀ j, anc ops i j = true → j < ops.size → V j y wx) → (∀ j t, (anc ops j i = true ∨ j = i) → j < ops.size → dstOf ops j = some t → y t = a.tmps.getD t undef) →
      RStep P ops Q o { tmps := hole a.tmps ds y, defers := a.defers } wx fun v w' => Ext wx w' ∧ V i (updO y o.dst v) w')
    (he : ∀ y wx, Ext w.drew wx → (∀ j, j < ops.size → V j y wx) → Q .normal { tmps := hole a.tmps ds y, defers := a.defers } wx) :
    (Code.region id ops true).wp P Q a w := by
  refine wp_region_sched hm ds hok (fun d y wx => Ext w.drew wx ∧ (∀ i o, ops[i]? = some o → d i = true → ∀ e ∈ o.after, Region.binds .any e = true → d e.on = true) ∧
    (∀ j, j < ops.size → d j = true → V j y wx) ∧ (∀ j t, j < ops.size → d j = false → dstOf ops j = some t → y t = a.tmps.getD t undef)) ?_ ?_ ?_
  · exact ⟨hrefl _, fun _ _ _ h => absurd h Bool.false_ne_true, fun _ _ h => absurd h Bool.false_ne_true, fun _ _ _ _ _ => rfl⟩
  · intro i o ho d y wx hdi hdep ⟨hx, hdown, hval, hini⟩
    have hi : i < ops.size := (Array.getElem?_eq_some_iff.1 ho).1
    have hle : ∀ i o, ops[i]? = some o → ∀ e ∈ o.after, Region.binds .any e = true → e.on < i := fun i o ho e he hb => schedOk_edge hok ho he hb
    have anc_done : ∀ n i j, i < n → i < ops.size → j < ops.size → anc ops i j = true → (∀ o, ops[i]? = some o → ∀ e ∈ o.after, Region.binds .any e = true → d e.on = true) → d j = true := by
      intro n
      induction n with
      | zero => intro i j h; omega
      | succ n ih =>
        intro i j hin hi hj ha hdn
        obtain ⟨o', e, ho', he, hb, hor⟩ := ancOk_at hanc hi hj ha
        have hde := hdn o' ho' e he hb
        have hlt := hle i o' ho' e he hb
        rcases hor with rfl | hor
        · exact hde
        · exact ih e.on j (by omega) (by omega) hj hor (fun o2 ho2 e2 he2 hb2 => hdown e.on o2 ho2 hde e2 he2 hb2)
    refine (hs i o ho y wx hx (fun j haj hj => hval j hj (anc_done (i + 1) i j (by omega) hi hj haj (fun o2 ho2 => by rw [ho] at ho2; cases ho2; exact hdep))) (fun j t hj hjs hdj => hini j t hjs ?_ hdj)).mono ?_
    · rcases hj with hj | rfl
      · cases hdd : d j with
        | false => rfl
        | true =>
          have := anc_done (j + 1) j i (by omega) hjs hi hj (fun o2 ho2 => hdown j o2 ho2 hdd)
          rw [hdi] at this; cases this
      · exact hdi
    · rintro v w' ⟨hx', hv⟩
      have hupd : ∀ j t, j < ops.size → j ≠ i → dstOf ops j = some t → updO y o.dst v t = y t := fun j t hj hne hdj => by
        unfold updO
        cases hod : o.dst with
        | none => rfl
        | some s =>
          have hdo : dstOf ops i = some s := by unfold dstOf; rw [ho]; exact hod
          have := dstOk_at hdst hj hi hne hdj hdo
          show upd y s v t = y t
          unfold upd; rw [if_neg this]
      refine ⟨htrans _ _ _ hx hx', fun i2 o2 ho2 hd2 e he hb => ?_, fun j hj hdj => ?_, fun j t hj hdj hdt => ?_⟩
      · by_cases e2 : i2 = i
        · subst e2
          rw [ho] at ho2; cases ho2
          have := hdep e he hb
          simp [this]
        · have h2 : d i2 = true := by simpa [e2] using hd2
          have := hdown i2 o2 ho2 h2 e he hb
          simp [this]
      · by_cases e2 : j = i
        · subst e2; exact hv
        · have h2 : d j = true := by simpa [e2] using hdj
          refine hV j _ _ _ hx' (hVy j y _ _ hj (fun i2 t hor hdt => ?_) (hval j hj h2))
          have hne : i2 ≠ i := by
            rintro rfl
            rcases hor with ha | ha
            · have := anc_done (j + 1) j i2 (by omega) hj hi ha (fun o2 ho2 => hdown j o2 ho2 h2)
              rw [hdi] at this; cases this
            · exact e2 ha.symm
          have hi2 : i2 < ops.size := by
            refine Nat.lt_of_not_le fun hge => ?_
            unfold dstOf at hdt
            rw [Array.getElem?_eq_none hge] at hdt
            cases hdt
          exact (hupd i2 t hi2 hne hdt).symm
      · have e2 : j ≠ i := fun e => by subst e; simp at hdj
        have h2 : d j = false := by simpa [e2] using hdj
        rw [hupd j t hj e2 hdt]
        exact hini j t hj h2 hdt
  · intro d y wx hd ⟨hx, _, hval, _⟩
    exact he y wx hx fun j hj => hval j hj (hd j hj)

/-- The same where the last operation waits for all others: it may do whatever leads on. c: an operation after which other facts hold (the last one: none such); the facts' first argument says whether it is done. -/
theorem wp_region_tail {id : Nat} {a : Act} {w : World} (hm : P.follows .mixedOrders = true) (ds : List Nat) (hok : schedOk ops ds = true) (hanc : ancOk ops = true) (hdst : dstOk ops = true)
    (m c : Nat) (hc : c ≤ m) (hsz : ops.size = m + 1) (hlast : (List.range m).all (fun j => anc ops m j) = true)
    (Ext : World → World → Prop) (hrefl : ∀ w, Ext w w) (htrans : ∀ a b c, Ext a b → Ext b c → Ext a c)
    (V : Bool → Nat → (Nat → Value) → World → Prop)
    (hVy : ∀ f j y y' w, j < m → (∀ i t, (anc ops j i = true ∨ i = j) → dstOf ops i = some t → y t = y' t) → V f j y w → V f j y' w)
    (hs : ∀ i o, i < m → ops[i]? = some o → ∀ f y wx, Ext w.drew wx → ((anc ops c i = true ∨ i = c) → f = false) → (∀ j, anc ops i j = true → j < m → V f j y wx) → (∀ j t, (anc ops j i = true ∨ j = i) → j < ops.size → dstOf ops j = some t → y t = a.tmps.getD t undef) →
      RStep P ops Q o { tmps := hole a.tmps ds y, defers := a.defers } wx fun v w' => Ext wx w' ∧ V (f || i == c) i (updO y o.dst v) w' ∧ ∀ j, j < m → j ≠ i → anc ops j i = false → V f j y wx → V (f || i == c) j y w')
    (hl : ∀ o, ops[m]? = some o → ∀ y wx, Ext w.drew wx → (∀ j, j < m → V (decide (c < m)) j y wx) → (∀ t, dstOf ops m = some t → y t = a.tmps.getD t undef) →
      RStep P ops Q o { tmps := hole a.tmps ds y, defers := a.defers } wx fun v w' => Q .normal { tmps := hole a.tmps ds (updO y o.dst v), defers := a.defers } w') :
    (Code.region id ops true).wp P Q a w := by
  have hla : ∀ j, j < m → anc ops m j = true := fun j hj => List.all_eq_true.1 hlast j (List.mem_range.2 hj)
  refine wp_region_sched hm ds hok (fun d y wx => (∀ i o, ops[i]? = some o → d i = true → ∀ e ∈ o.after, Region.binds .any e = true → d e.on = true) ∧
    (d m = true → Q .normal { tmps := hole a.tmps ds y, defers := a.defers } wx) ∧ (d m = false → Ext w.drew wx ∧
    (∀ j, j < m → d j = true → V (d c) j y wx) ∧ (∀ j t, j < ops.size → d j = false → dstOf ops j = some t → y t = a.tmps.getD t undef))) ?_ ?_ ?_
  · exact ⟨fun _ _ _ h => absurd h Bool.false_ne_true, fun h => absurd h Bool.false_ne_true, fun _ => ⟨hrefl _, fun _ _ h => absurd h Bool.false_ne_true, fun _ _ _ _ _ => rfl⟩⟩
  · intro i o ho d y wx hdi hdep ⟨hdown, _, hopen⟩
    have hi : i < ops.size := (Array.getElem?_eq_some_iff.1 ho).1
    have hle : ∀ i o, ops[i]? = some o → ∀ e ∈ o.after, Region.binds .any e = true → e.on < i := fun i o ho e he hb => schedOk_edge hok ho he hb
    have anc_done : ∀ n i j, i < n → i < ops.size → j < ops.size → anc ops i j = true → (∀ o, ops[i]? = some o → ∀ e ∈ o.after, Region.binds .any e = true → d e.on = true) → d j = true := by
      intro n
      induction n with
      | zero => intro i j h; omega
      | succ n ih =>
        intro i j hin hi hj ha hdn
        obtain ⟨o', e, ho', he, hb, hor⟩ := ancOk_at hanc hi hj ha
        have hde := hdn o' ho' e he hb
        have hlt := hle i o' ho' e he hb
        rcases hor with rfl | hor
        · exact hde
        · exact ih e.on j (by omega) (by omega) hj hor (fun o2 ho2 e2 he2 hb2 => hdown e.on o2 ho2 hde e2 he2 hb2)
    have hdm : d m = false := by
      cases hdd : d m with
      | false => rfl
      | true =>
        by_cases e : i = m
        · subst e; rw [hdi] at hdd; cases hdd
        · have := anc_done (m + 1) m i (by omega) (by omega) hi (hla i (by omega)) (fun o2 ho2 => hdown m o2 ho2 hdd)
          rw [hdi] at this; cases this
    obtain ⟨hx, hval, hini⟩ := hopen hdm
    have hdown' : ∀ i2 o2, ops[i2]? = some o2 → (i2 == i || d i2) = true → ∀ e ∈ o2.after, Region.binds .any e = true → (e.on == i || d e.on) = true := fun i2 o2 ho2 hd2 e he hb => by
      by_cases e2 : i2 = i
      · subst e2
        rw [ho] at ho2; cases ho2
        have := hdep e he hb
        simp [this]
      · have h2 : d i2 = true := by simpa [e2] using hd2
        have := hdown i2 o2 ho2 h2 e he hb
        simp [this]
    by_cases him : i = m
    · subst him
      have hdc : d c = decide (c < i) := by
        by_cases e : c = i
        · subst e; rw [hdi]; simp
        · rw [anc_done (i + 1) i c (by omega) hi (by omega) (hla c (by omega)) (fun o2 ho2 => by rw [ho] at ho2; cases ho2; exact hdep)]
          simp; omega
      refine (hl o ho y wx hx (fun j hj => by rw [← hdc]; exact hval j hj (anc_done (i + 1) i j (by omega) hi (by omega) (hla j hj) (fun o2 ho2 => by rw [ho] at ho2; cases ho2; exact hdep))) (fun t hdt => hini i t hi hdi hdt)).mono fun v w' hq => ?_
      exact ⟨hdown', fun _ => hq, fun h => by simp at h⟩
    · have hilt : i < m := by omega
      refine (hs i o hilt ho (d c) y wx hx (fun hor => by
        rcases hor with hor | rfl
        · cases hdd : d c with
          | false => rfl
          | true =>
            have := anc_done (c + 1) c i (by omega) (by omega) hi hor (fun o2 ho2 => hdown c o2 ho2 hdd)
            rw [hdi] at this; cases this
        · exact hdi) (fun j haj hj => hval j hj (anc_done (i + 1) i j (by omega) hi (by omega) haj (fun o2 ho2 => by rw [ho] at ho2; cases ho2; exact hdep))) (fun j t hj hjs hdj => hini j t hjs ?_ hdj)).mono ?_
      · rcases hj with hj | rfl
        · cases hdd : d j with
          | false => rfl
          | true =>
            have := anc_done (j + 1) j i (by omega) hjs hi hj (fun o2 ho2 => hdown j o2 ho2 hdd)
            rw [hdi] at this; cases this
        · exact hdi
      · rintro v w' ⟨hx', hv, hkeep⟩
        have hupd : ∀ j t, j < ops.size → j ≠ i → dstOf ops j = some t → updO y o.dst v t = y t := fun j t hj hne hdj => by
          unfold updO
          cases hod : o.dst with
          | none => rfl
          | some s =>
            have hdo : dstOf ops i = some s := by unfold dstOf; rw [ho]; exact hod
            have := dstOk_at hdst hj hi hne hdj hdo
            show upd y s v t = y t
            unfold upd; rw [if_neg this]
        have hm2 : (m == i || d m) = false := by simp [hdm]; omega
        refine ⟨hdown', fun h => absurd (show (m == i || d m) = true from h) (by rw [hm2]; exact Bool.false_ne_true), fun _ => ⟨htrans _ _ _ hx hx', fun j hj hdj => ?_, fun j t hj hdj hdt => ?_⟩⟩
        · by_cases e2 : j = i
          · subst e2
            have : (c == j || d c) = (d c || j == c) := by
              by_cases e : c = j
              · rw [e, Bool.or_comm]
              · have e1 : (c == j) = false := beq_eq_false_iff_ne.2 e
                have e2 : (j == c) = false := beq_eq_false_iff_ne.2 (fun h => e h.symm)
                rw [e1, e2, Bool.or_comm]
            show V (c == j || d c) _ _ _
            rw [this]; exact hv
          · have h2 : d j = true := by simpa [e2] using hdj
            have hji : anc ops j i = false := by
              cases hc : anc ops j i with
              | false => rfl
              | true =>
                have := anc_done (j + 1) j i (by omega) (by omega) hi hc (fun o2 ho2 => hdown j o2 ho2 h2)
                rw [hdi] at this; cases this
            have hfl : (c == i || d c) = (d c || i == c) := by
              by_cases e : c = i
              · rw [e, Bool.or_comm]
              · have e1 : (c == i) = false := beq_eq_false_iff_ne.2 e
                have e2 : (i == c) = false := beq_eq_false_iff_ne.2 (fun h => e h.symm)
                rw [e1, e2, Bool.or_comm]
            show V (c == i || d c) _ _ _
            rw [hfl]
            refine hVy _ j y _ _ hj (fun i2 t hor hdt => ?_) (hkeep j hj e2 hji (hval j hj h2))
            have hne : i2 ≠ i := by
              rintro rfl
              rcases hor with ha | ha
              · have := anc_done (j + 1) j i2 (by omega) (by omega) hi ha (fun o2 ho2 => hdown j o2 ho2 h2)
                rw [hdi] at this; cases this
              · exact e2 ha.symm
            have hi2 : i2 < ops.size := by
              refine Nat.lt_of_not_le fun hge => ?_
              unfold dstOf at hdt
              rw [Array.getElem?_eq_none hge] at hdt
              cases hdt
            exact (hupd i2 t hi2 hne hdt).symm
        · have e2 : j ≠ i := fun e => by subst e; simp at hdj
          have h2 : d j = false := by simpa [e2] using hdj
          rw [hupd j t hj e2 hdt]
          exact hini j t hj h2 hdt
  · intro d y wx hd ⟨_, hq, _⟩
    exact hq (hd m (by omega))

/-- The same with an invariant I of the worlds, whose first argument says whether c is done. c: an operation after which other facts hold (the last one: none such); the facts' first argument says whether it is done. -/
theorem wp_region_inv {id : Nat} {a : Act} {w : World} (hm : P.follows .mixedOrders = true) (ds : List Nat) (hok : schedOk ops ds = true) (hanc : ancOk ops = true) (hdst : dstOk ops = true)
    (m c : Nat) (hc : c ≤ m) (hsz : ops.size = m + 1) (hlast : (List.range m).all (fun j => anc ops m j) = true)
    (I : Bool → World → Prop) (hI : I false w.drew)
    (V : Bool → Nat → (Nat → Value) → World → Prop)
    (hVy : ∀ f j y y' w, j < m → (∀ i t, (anc ops j i = true ∨ i = j) → dstOf ops i = some t → y t = y' t) → V f j y w → V f j y' w)
    (hs : ∀ i o, i < m → ops[i]? = some o → ∀ f y wx, I f wx → ((anc ops c i = true ∨ i = c) → f = false) → (∀ j, anc ops i j = true → j < m → V f j y wx) → (∀ j t, (anc ops j i = true ∨ j = i) → j < ops.size → dstOf ops j = some t → y t = a.tmps.getD t undef) →
      RStep P ops Q o { tmps := hole a.tmps ds y, defers := a.defers } wx fun v w' => I (f || i == c) w' ∧ V (f || i == c) i (updO y o.dst v) w' ∧ ∀ j, j < m → j ≠ i → anc ops j i = false → V f j y wx → V (f || i == c) j y w')
    (hl : ∀ o, ops[m]? = some o → ∀ y wx, I (decide (c < m)) wx → (∀ j, j < m → V (decide (c < m)) j y wx) → (∀ t, dstOf ops m = some t → y t = a.tmps.getD t undef) →
      RStep P ops Q o { tmps := hole a.tmps ds y, defers := a.defers } wx fun v w' => Q .normal { tmps := hole a.tmps ds (updO y o.dst v), defers := a.defers } w') :
    (Code.region id ops true).wp P Q a w := by
  have hla : ∀ j, j < m → anc ops m j = true := fun j hj => List.all_eq_true.1 hlast j (List.mem_range.2 hj)
  refine wp_region_sched hm ds hok (fun d y wx => (∀ i o, ops[i]? = some o → d i = true → ∀ e ∈ o.after, Region.binds .any e = true → d e.on = true) ∧
    (d m = true → Q .normal { tmps := hole a.tmps ds y, defers := a.defers } wx) ∧ (d m = false → I (d c) wx ∧
    (∀ j, j < m → d j = true → V (d c) j y wx) ∧ (∀ j t, j < ops.size → d j = false → dstOf ops j = some t → y t = a.tmps.getD t undef))) ?_ ?_ ?_
  · exact ⟨fun _ _ _ h => absurd h Bool.false_ne_true, fun h => absurd h Bool.false_ne_true, fun _ => ⟨hI, fun _ _ h => absurd h Bool.false_ne_true, fun _ _ _ _ _ => rfl⟩⟩
  · intro i o ho d y wx hdi hdep ⟨hdown, _, hopen⟩
    have hi : i < ops.size := (Array.getElem?_eq_some_iff.1 ho).1
    have hle : ∀ i o, ops[i]? = some o → ∀ e ∈ o.after, Region.binds .any e = true → e.on < i := fun i o ho e he hb => schedOk_edge hok ho he hb
    have anc_done : ∀ n i j, i < n → i < ops.size → j < ops.size → anc ops i j = true → (∀ o, ops[i]? = some o → ∀ e ∈ o.after, Region.binds .any e = true → d e.on = true) → d j = true := by
      intro n
      induction n with
      | zero => intro i j h; omega
      | succ n ih =>
        intro i j hin hi hj ha hdn
        obtain ⟨o', e, ho', he, hb, hor⟩ := ancOk_at hanc hi hj ha
        have hde := hdn o' ho' e he hb
        have hlt := hle i o' ho' e he hb
        rcases hor with rfl | hor
        · exact hde
        · exact ih e.on j (by omega) (by omega) hj hor (fun o2 ho2 e2 he2 hb2 => hdown e.on o2 ho2 hde e2 he2 hb2)
    have hdm : d m = false := by
      cases hdd : d m with
      | false => rfl
      | true =>
        by_cases e : i = m
        · subst e; rw [hdi] at hdd; cases hdd
        · have := anc_done (m + 1) m i (by omega) (by omega) hi (hla i (by omega)) (fun o2 ho2 => hdown m o2 ho2 hdd)
          rw [hdi] at this; cases this
    obtain ⟨hx, hval, hini⟩ := hopen hdm
    have hdown' : ∀ i2 o2, ops[i2]? = some o2 → (i2 == i || d i2) = true → ∀ e ∈ o2.after, Region.binds .any e = true → (e.on == i || d e.on) = true := fun i2 o2 ho2 hd2 e he hb => by
      by_cases e2 : i2 = i
      · subst e2
        rw [ho] at ho2; cases ho2
        have := hdep e he hb
        simp [this]
      · have h2 : d i2 = true := by simpa [e2] using hd2
        have := hdown i2 o2 ho2 h2 e he hb
        simp [this]
    by_cases him : i = m
    · subst him
      have hdc : d c = decide (c < i) := by
        by_cases e : c = i
        · subst e; rw [hdi]; simp
        · rw [anc_done (i + 1) i c (by omega) hi (by omega) (hla c (by omega)) (fun o2 ho2 => by rw [ho] at ho2; cases ho2; exact hdep)]
          simp; omega
      refine (hl o ho y wx (by rw [← hdc]; exact hx) (fun j hj => by rw [← hdc]; exact hval j hj (anc_done (i + 1) i j (by omega) hi (by omega) (hla j hj) (fun o2 ho2 => by rw [ho] at ho2; cases ho2; exact hdep))) (fun t hdt => hini i t hi hdi hdt)).mono fun v w' hq => ?_
      exact ⟨hdown', fun _ => hq, fun h => by simp at h⟩
    · have hilt : i < m := by omega
      refine (hs i o hilt ho (d c) y wx hx (fun hor => by
        rcases hor with hor | rfl
        · cases hdd : d c with
          | false => rfl
          | true =>
            have := anc_done (c + 1) c i (by omega) (by omega) hi hor (fun o2 ho2 => hdown c o2 ho2 hdd)
            rw [hdi] at this; cases this
        · exact hdi) (fun j haj hj => hval j hj (anc_done (i + 1) i j (by omega) hi (by omega) haj (fun o2 ho2 => by rw [ho] at ho2; cases ho2; exact hdep))) (fun j t hj hjs hdj => hini j t hjs ?_ hdj)).mono ?_
      · rcases hj with hj | rfl
        · cases hdd : d j with
          | false => rfl
          | true =>
            have := anc_done (j + 1) j i (by omega) hjs hi hj (fun o2 ho2 => hdown j o2 ho2 hdd)
            rw [hdi] at this; cases this
        · exact hdi
      · rintro v w' ⟨hx', hv, hkeep⟩
        have hupd : ∀ j t, j < ops.size → j ≠ i → dstOf ops j = some t → updO y o.dst v t = y t := fun j t hj hne hdj => by
          unfold updO
          cases hod : o.dst with
          | none => rfl
          | some s =>
            have hdo : dstOf ops i = some s := by unfold dstOf; rw [ho]; exact hod
            have := dstOk_at hdst hj hi hne hdj hdo
            show upd y s v t = y t
            unfold upd; rw [if_neg this]
        have hm2 : (m == i || d m) = false := by simp [hdm]; omega
        refine ⟨hdown', fun h => absurd (show (m == i || d m) = true from h) (by rw [hm2]; exact Bool.false_ne_true), fun _ => ⟨by
            have hfl : (c == i || d c) = (d c || i == c) := by
              by_cases e : c = i
              · rw [e, Bool.or_comm]
              · have e1 : (c == i) = false := beq_eq_false_iff_ne.2 e
                have e2 : (i == c) = false := beq_eq_false_iff_ne.2 (fun h => e h.symm)
                rw [e1, e2, Bool.or_comm]
            show I (c == i || d c) _
            rw [hfl]; exact hx', fun j hj hdj => ?_, fun j t hj hdj hdt => ?_⟩⟩
        · by_cases e2 : j = i
          · subst e2
            have : (c == j || d c) = (d c || j == c) := by
              by_cases e : c = j
              · rw [e, Bool.or_comm]
              · have e1 : (c == j) = false := beq_eq_false_iff_ne.2 e
                have e2 : (j == c) = false := beq_eq_false_iff_ne.2 (fun h => e h.symm)
                rw [e1, e2, Bool.or_comm]
            show V (c == j || d c) _ _ _
            rw [this]; exact hv
          · have h2 : d j = true := by simpa [e2] using hdj
            have hji : anc ops j i = false := by
              cases hc : anc ops j i with
              | false => rfl
              | true =>
                have := anc_done (j + 1) j i (by omega) (by omega) hi hc (fun o2 ho2 => hdown j o2 ho2 h2)
                rw [hdi] at this; cases this
            have hfl : (c == i || d c) = (d c || i == c) := by
              by_cases e : c = i
              · rw [e, Bool.or_comm]
              · have e1 : (c == i) = false := beq_eq_false_iff_ne.2 e
                have e2 : (i == c) = false := beq_eq_false_iff_ne.2 (fun h => e h.symm)
                rw [e1, e2, Bool.or_comm]
            show V (c == i || d c) _ _ _
            rw [hfl]
            refine hVy _ j y _ _ hj (fun i2 t hor hdt => ?_) (hkeep j hj e2 hji (hval j hj h2))
            have hne : i2 ≠ i := by
              rintro rfl
              rcases hor with ha | ha
              · have := anc_done (j + 1) j i2 (by omega) (by omega) hi ha (fun o2 ho2 => hdown j o2 ho2 h2)
                rw [hdi] at this; cases this
              · exact e2 ha.symm
            have hi2 : i2 < ops.size := by
              refine Nat.lt_of_not_le fun hge => ?_
              unfold dstOf at hdt
              rw [Array.getElem?_eq_none hge] at hdt
              cases hdt
            exact (hupd i2 t hi2 hne hdt).symm
        · have e2 : j ≠ i := fun e => by subst e; simp at hdj
          have h2 : d j = false := by simpa [e2] using hdj
          rw [hupd j t hj e2 hdt]
          exact hini j t hj h2 hdt
  · intro d y wx hd ⟨_, hq, _⟩
    exact hq (hd m (by omega))
end
end Go.Proofs.Ytdackakjcnnofaa
