/- Slices of ints in memory: `Ints` (a slice value reads as a list), `OwnI` (the call's own slice). No program in sight. -/
import Derived.WalkKit
import Derived.WalkSpells
import Derived.Lib.Hide
import Derived.Deep.RegionLaw
namespace Go.Proofs.Ytmlhecfhhhebnaa
open Go.RowKit

/-- The slice value `v` reads as the ints `xs` in the world `w`. -/
def Ints (w : World) (v : Value) (xs : List Int) : Prop :=
  ∃ (a : Option Addr) (c : Nat), v = .slice a xs.length c ∧ xs.length ≤ 17592186044416 ∧ xs.length ≤ c ∧
    (xs ≠ [] → ∃ b off, a = some ⟨b, off, none⟩ ∧ b < w.heap.size ∧
      ∀ i (h : i < xs.length), w.cell? ⟨b, off + i, none⟩ = some (.int .i64 xs[i]))

/-- The slice value `v` is nil or the head of a row from block `B` on that holds the ints `xs` first. -/
def OwnI (e : TypeId) (B : Nat) (w : World) (v : Value) (xs : List Int) : Prop :=
  w.ownsRow B e 1 v xs.length (xs.map (Value.int .i64))

theorem Ints.nil (w : World) : Ints w (.slice none 0 0) [] := ⟨none, 0, rfl, by simp, by simp, fun h => absurd rfl h⟩

theorem Ints.below {w w' : World} {v : Value} {xs : List Int} (h : Ints w v xs) (hb : Below w.heap.size w w') : Ints w' v xs := by
  obtain ⟨a, c, rfl, h1, h2, h4⟩ := h
  refine ⟨a, c, rfl, h1, h2, fun hne => ?_⟩
  obtain ⟨b, off, rfl, hlt, hc⟩ := h4 hne
  exact ⟨b, off, rfl, Nat.lt_of_lt_of_le hlt hb.size, fun i hi => (hb.cell (p := ⟨b, off + i, none⟩) hlt).trans (hc i hi)⟩

theorem OwnI.ints {e : TypeId} {B : Nat} {w : World} {v : Value} {xs : List Int} (h : OwnI e B w v xs) (hl : xs.length ≤ 17592186044416) : Ints w v xs := by
  rcases h.2 with ⟨rfl, hn⟩ | ⟨g, cap, cur, rfl, hg, hh, hn, hcap, hsz, hx⟩
  · have : xs = [] := List.eq_nil_of_length_eq_zero hn
    subst this
    exact Ints.nil w
  · refine ⟨some ⟨g, 0, none⟩, cap, rfl, hl, hn, fun hne => ⟨g, 0, rfl, (Array.getElem?_eq_some_iff.1 hh).1, fun i hi => ?_⟩⟩
    have := World.ownsRow.cellAt (w := w) (base := B) (e := e) (size := 1) (g := g) (n := xs.length) (cap := cap) h i (by omega)
    rw [Nat.zero_add, this]
    simp [List.getElem?_eq_getElem hi]

theorem OwnI.form {e : TypeId} {B : Nat} {w : World} {v : Value} {xs : List Int} (h : OwnI e B w v xs) : ∃ a c, v = .slice a xs.length c := by
  rcases h.2 with ⟨rfl, hn⟩ | ⟨g, cap, cur, rfl, _⟩
  · exact ⟨none, 0, by rw [hn]⟩
  · exact ⟨_, _, rfl⟩
theorem OwnI.nil (e : TypeId) (B : Nat) (w : World) : OwnI e B w (.slice none 0 0) [] := World.ownsRow_nil w B e 1

/-- The cell of index i. -/
theorem Ints.len {w : World} {v : Value} {xs : List Int} (h : Ints w v xs) : xs.length ≤ 17592186044416 := by
  obtain ⟨a, c, rfl, h1, _⟩ := h; exact h1

/-- What the table says of the element type: int. -/
def IsInt (P : Program) (e : TypeId) : Prop := (P.info? e).map (fun i => (i.zero, i.size, i.bytes)) = some (some (.int .i64 0), 1, 8)

section append
variable {P : Program} {ops : Array Oper} {o : Oper} {a : Act} {w : World} {Q : Exit → Act → World → Prop}

theorem run_app1 {t ty e : TypeId} (h1 : P.underlying t = some (.slice e)) (hi : IsInt P e) {B : Nat} {v : Value} {xs : List Int} {y : Int} (hown : OwnI e B w v xs)
    {ad : Addr} {c : Nat} (hc : w.cell? ad = some (.int .i64 y)) (hlen : xs.length < 17592186044416) (hB : B ≤ w.heap.size) :
    ∃ v' w', (Builtin.append_ #[t, t] ty #[v, .slice (some ad) 1 c]).run P w = .ok v' w' ∧ OwnI e B w' v' (xs ++ [y]) ∧ w.grownBy w' v.ownBlock ∧ Below B w w' := by
  obtain ⟨i, hi1, hz0, hz1, hz2⟩ := info_parts hi
  obtain ⟨v', w', hrun, r1, r2, _⟩ := run_append_own (P := P) w B t ty e i (.int .i64 0) 1 8 h1 hi1 hz0 hz1 hz2 rfl (by decide) v xs.length _ hown ad 1 c [.int .i64 y] rfl
    (by
      intro j u hj
      match j, hj with
      | 0, hj => simp at hj; subst hj; simpa [Addr.add] using hc)
    (by intro u hu; simp at hu; subst hu; rfl) (by unfold maxLen; omega) (by omega) hB
  refine ⟨v', w', hrun, by unfold OwnI; simpa using r1, r2, (Below.refl B w).grown r2 hB (fun k hk => (hown.lt k hk).1)⟩

/-- `append(s, y)` as one step of a region that draws its order. -/
theorem step_app1 {K : Act → World → Prop} {E : Prop} (hg : o.guard = none) (s x : Operand) (t : TypeId) (hop : o.op = Op.call { callee := Callee.builtin Builtin.append, args := #[s, x], argTypes := #[t, t] })
    (e : TypeId) (h1 : P.underlying t = some (.slice e)) (hi : IsInt P e) (B : Nat) (v : Value) (xs : List Int) (y : Int) (hs : a.eval s = v) (hown : OwnI e B w v xs)
    (ad : Addr) (c : Nat) (hx : a.eval x = .slice (some ad) 1 c) (hc : w.cell? ad = some (.int .i64 y)) (hlen : xs.length < 17592186044416) (hB : B ≤ w.heap.size)
    (hK : ∀ v' w', OwnI e B w' v' (xs ++ [y]) → w.grownBy w' v.ownBlock → Below B w w' → K (a.put o.dst v') w') :
    if Region.wanted o (yielded ops a.tmps) = true then Oper.wp P o a w K Q else E := by
  have hw : Region.wanted o (yielded ops a.tmps) = true := by simp [Region.wanted, hg]
  rw [if_pos hw]
  obtain ⟨v', w', hrun, r1, r2, r3⟩ := run_app1 (P := P) (ty := o.type) h1 hi hown hc hlen hB
  unfold Oper.wp
  have hx' := hK v' w' r1 r2 r3
  simp [execOp, hop, resolve, invoke, builtin, hs, hx, Result.andThen]
  rw [hrun]
  exact hx'

/-- `append(s, y)` on the walk's road. -/
theorem wpList_app1 {rest : List Oper} (hg : o.guard = none) (s x : Operand) (t : TypeId) (hop : o.op = Op.call { callee := Callee.builtin Builtin.append, args := #[s, x], argTypes := #[t, t] })
    (e : TypeId) (h1 : P.underlying t = some (.slice e)) (hi : IsInt P e) (B : Nat) (v : Value) (xs : List Int) (y : Int) (hs : a.eval s = v) (hown : OwnI e B w v xs)
    (ad : Addr) (c : Nat) (hx : a.eval x = .slice (some ad) 1 c) (hc : w.cell? ad = some (.int .i64 y)) (hlen : xs.length < 17592186044416) (hB : B ≤ w.heap.size)
    (hK : ∀ v' w', OwnI e B w' v' (xs ++ [y]) → w.grownBy w' v.ownBlock → Below B w w' → wpList P ops Q rest (a.put o.dst v') w') :
    wpList P ops Q (o :: rest) a w := by
  obtain ⟨i, hi1, hz0, hz1, hz2⟩ := info_parts hi
  refine wpList_append_own w hg s x t hop B e i (.int .i64 0) 1 8 h1 hi1 hz0 hz1 hz2 rfl (by decide) v xs.length _ hs hown ad 1 c [.int .i64 y] hx rfl
    (by
      intro j u hj
      match j, hj with
      | 0, hj => simp at hj; subst hj; simpa [Addr.add] using hc)
    (by intro u hu; simp at hu; subst hu; rfl) (by unfold maxLen; omega) (by omega) hB ?_
  intro v' w' r1 r2 _
  exact hK v' w' (by unfold OwnI; simpa using r1) r2 ((Below.refl B w).grown r2 hB (fun k hk => (hown.lt k hk).1))
end append

theorem OwnI.alloc {e : TypeId} {B : Nat} {w : World} {v : Value} {xs : List Int} (h : OwnI e B w v xs) (o : Obj) : OwnI e B (w.alloc o) v xs := World.ownsRow.alloc h o
theorem OwnI.drew {e : TypeId} {B : Nat} {w : World} {v : Value} {xs : List Int} (h : OwnI e B w v xs) : OwnI e B w.drew v xs := World.ownsRow.drew h
/-- A row from block n on is kept where all that lay is kept. -/
theorem OwnI.below {e : TypeId} {B : Nat} {w w' : World} {v : Value} {xs : List Int} (h : OwnI e B w v xs) (hb : Below w.heap.size w w') : OwnI e B w' v xs :=
  World.ownsRow.kept (row := none) h ⟨hb.os, hb.tape, hb.output, hb.size, fun k hk _ => hb.block k hk⟩ (by cases hv : v.ownBlock <;> simp)
theorem OwnI.mono {e : TypeId} {B B' : Nat} {w : World} {v : Value} {xs : List Int} (h : OwnI e B w v xs) (hB : B' ≤ B) : OwnI e B' w v xs := by
  refine ⟨h.1, ?_⟩
  rcases h.2 with h2 | ⟨g, cap, cur, hv, hg, r⟩
  · exact Or.inl h2
  · exact Or.inr ⟨g, cap, cur, hv, Nat.le_trans hB hg, r⟩

/-- Numbers from 0 on, as ints. -/
def toI (bs : List Nat) : List Int := bs.map (fun n : Nat => (n : Int))

theorem toI_length (bs : List Nat) : (toI bs).length = bs.length := by simp [toI]
theorem toI_getElem (bs : List Nat) (i : Nat) (h : i < (toI bs).length) : (toI bs)[i] = ((bs[i]'(by simpa [toI] using h) : Nat) : Int) := by simp [toI]
theorem toI_take (bs : List Nat) (n : Nat) : (toI bs).take n = toI (bs.take n) := by simp [toI, List.map_take]
theorem toI_append (a b : List Nat) : toI (a ++ b) = toI a ++ toI b := by simp [toI]
theorem toI_nil : toI [] = [] := rfl
theorem toI_inj : ∀ {a b : List Nat}, toI a = toI b → a = b
  | [], [], _ => rfl
  | [], _ :: _, h => by simp [toI] at h
  | _ :: _, [], h => by simp [toI] at h
  | x :: a, y :: b, h => by
    have h' : (x : Int) = y ∧ toI a = toI b := by simpa [toI] using h
    rw [toI_inj h'.2, Int.ofNat.inj h'.1]

theorem ret_int {k : IntKind} {a b : Int} (h : a = b) : Ending.returned (.int k a) = .returned (.int k b) := by rw [h]
theorem ret_bool {a b : Bool} (h : a = b) : Ending.returned (.bool a) = .returned (.bool b) := by rw [h]

/-- A new block of one cell. -/
theorem cell_new1 (w : World) (u : Value) (e : TypeId) : (w.alloc (.cells #[u] e)).cell? ⟨w.heap.size, 0, none⟩ = some u := by simp

/-- What a slice of numbers gives a walk: its shape, and the cell of an index. -/
theorem Ints.openN {w : World} {v : Value} {bs : List Nat} (h : Ints w v (toI bs)) : ∃ (a : Option Addr) (c : Nat), v = .slice a bs.length c ∧ bs.length ≤ 17592186044416 ∧ bs.length ≤ c ∧
    (bs ≠ [] → ∃ b off, a = some ⟨b, off, none⟩ ∧ b < w.heap.size ∧ ∀ i (h : i < bs.length), w.cell? ⟨b, off + i, none⟩ = some (.int .i64 ((bs[i] : Nat) : Int))) := by
  obtain ⟨a, c, rfl, h1, h2, h3⟩ := h
  rw [toI_length] at h1 h2 ⊢
  refine ⟨a, c, rfl, h1, h2, fun hne => ?_⟩
  obtain ⟨b, off, rfl, hb, hc⟩ := h3 (by intro h; exact hne (by simpa [toI] using h))
  exact ⟨b, off, rfl, hb, fun i hi => by rw [hc i (by rw [toI_length]; exact hi), toI_getElem]⟩


/-- `v[1:]`. -/
theorem ints_tail {w : World} {b off n c : Nat} {x : Int} {xs : List Int} (h : Ints w (.slice (some ⟨b, off, none⟩) (n + 1) c) (x :: xs)) :
    Ints w (.slice (if c = 1 then some ⟨b, off, none⟩ else some ⟨b, off + 1, none⟩) n (c - 1)) xs := by
  obtain ⟨a', c', he, h1, h2, h3⟩ := h
  obtain ⟨rfl, hn, rfl⟩ := Value.slice.inj he
  simp only [List.length_cons] at hn h1 h2
  obtain ⟨b', off', e, hlt, hc⟩ := h3 (by simp)
  obtain ⟨rfl, rfl⟩ : b = b' ∧ off = off' := by simpa using e
  refine ⟨_, c - 1, by rw [show n = xs.length by omega], by omega, by omega, fun hne => ?_⟩
  have hl : 0 < xs.length := List.length_pos_iff.2 hne
  refine ⟨b, off + 1, by rw [if_neg (by omega)], hlt, fun i hi => ?_⟩
  have := hc (i + 1) (by simp; omega)
  rw [show off + 1 + i = off + (i + 1) by omega, this]
  simp

/-- A new block that holds the ints xs. -/
theorem own_fresh {B : Nat} (w : World) (e : TypeId) (xs : List Int) (hB : B ≤ w.heap.size) (hm : xs.length ≤ maxLen) :
    OwnI e B (w.alloc (.cells (xs.map (Value.int .i64)).toArray e)) (.slice (some ⟨w.heap.size, 0, none⟩) xs.length xs.length) xs :=
  ⟨by simp, .inr ⟨w.heap.size, xs.length, _, rfl, hB, heap_alloc_new w _, Nat.le_refl _, hm, by simp, by simp [List.take_of_length_le]⟩⟩

end Go.Proofs.Ytmlhecfhhhebnaa
