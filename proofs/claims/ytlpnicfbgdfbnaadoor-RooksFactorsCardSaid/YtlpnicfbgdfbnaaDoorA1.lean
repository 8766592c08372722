/- A1: Lib, Sl, Bits, Ct, Col, ColL, Pl, Nm, ColP, Bw, Wl of the seat's texts, in this order. -/
import Derived.WalkKit
import Derived.WalkSpells
import Derived.Lib.Hide
import Derived.Deep.RegionLaw
import Derived.Test.YtlpnicfbgdfbnaaDoorProg
import Derived.WalkLawsBesides
import Derived.BigQuiet
import Derived.Deep.QuietTactic
import Derived.Lib.SliceRun
import Derived.RangeFuncNested
import Derived.RangeFuncBound
import Derived.RangeFuncCalls
import Derived.RangeFuncLeaves
import Derived.OwnWalkIn
import Derived.TacticsInMore
import Derived.LoopNIn
import Derived.LoopIn
import Derived.Shelf.Abstract
import Derived.RangeFuncBox

/- Slices of ints in memory: `Ints` (a slice value reads as a list), `OwnI` (the call's own slice). No program in sight. -/
namespace Go.Proofs.YtlpnicfbgdfbnaaDoor
open Go.RowKit

/-- The slice value `v` reads as the ints `xs` in the world `w`. -/
def Ints (w : World) (v : Value) (xs : List Int) : Prop :=
  ∃ (a : Option Addr) (c : Nat), v = .slice a xs.length c ∧ xs.length ≤ 17592186044416 ∧ xs.length ≤ c ∧
    (xs ≠ [] → ∃ b off, a = some ⟨b, off, none⟩ ∧ b < w.heap.size ∧
      ∀ i (h : i < xs.length), w.cell? ⟨b, off + i, none⟩ = some (.int .i64 xs[i]))

/-- The slice value `v` is nil or the head of a row from block `B` on that holds the ints `xs` first. -/
def OwnI (e : TypeId) (B : Nat) (w : World) (v : Value) (xs : List Int) : Prop :=
  w.ownsRow B e 1 v xs.length (xs.map (Value.int .i64))

theorem Ints.nil (w : World) : Ints w (.slice none 0 0) [] := ⟨none, 0, rfl, by simp, by simp, fun h => absurd rfl h⟩

theorem Ints.below {w w' : World} {v : Value} {xs : List Int} (h : Ints w v xs) (hb : Below w.heap.size w w') : Ints w' v xs := by
  obtain ⟨a, c, rfl, h1, h2, h4⟩ := h
  refine ⟨a, c, rfl, h1, h2, fun hne => ?_⟩
  obtain ⟨b, off, rfl, hlt, hc⟩ := h4 hne
  exact ⟨b, off, rfl, Nat.lt_of_lt_of_le hlt hb.size, fun i hi => (hb.cell (p := ⟨b, off + i, none⟩) hlt).trans (hc i hi)⟩

theorem OwnI.ints {e : TypeId} {B : Nat} {w : World} {v : Value} {xs : List Int} (h : OwnI e B w v xs) (hl : xs.length ≤ 17592186044416) : Ints w v xs := by
  rcases h.2 with ⟨rfl, hn⟩ | ⟨g, cap, cur, rfl, hg, hh, hn, hcap, hsz, hx⟩
  · have : xs = [] := List.eq_nil_of_length_eq_zero hn
    subst this
    exact Ints.nil w
  · refine ⟨some ⟨g, 0, none⟩, cap, rfl, hl, hn, fun hne => ⟨g, 0, rfl, (Array.getElem?_eq_some_iff.1 hh).1, fun i hi => ?_⟩⟩
    have := World.ownsRow.cellAt (w := w) (base := B) (e := e) (size := 1) (g := g) (n := xs.length) (cap := cap) h i (by omega)
    rw [Nat.zero_add, this]
    simp [List.getElem?_eq_getElem hi]

theorem OwnI.form {e : TypeId} {B : Nat} {w : World} {v : Value} {xs : List Int} (h : OwnI e B w v xs) : ∃ a c, v = .slice a xs.length c := by
  rcases h.2 with ⟨rfl, hn⟩ | ⟨g, cap, cur, rfl, _⟩
  · exact ⟨none, 0, by rw [hn]⟩
  · exact ⟨_, _, rfl⟩
theorem OwnI.nil (e : TypeId) (B : Nat) (w : World) : OwnI e B w (.slice none 0 0) [] := World.ownsRow_nil w B e 1

/-- The cell of index i. -/
theorem Ints.len {w : World} {v : Value} {xs : List Int} (h : Ints w v xs) : xs.length ≤ 17592186044416 := by
  obtain ⟨a, c, rfl, h1, _⟩ := h; exact h1

/-- What the table says of the element type: int. -/
def IsInt (P : Program) (e : TypeId) : Prop := (P.info? e).map (fun i => (i.zero, i.size, i.bytes)) = some (some (.int .i64 0), 1, 8)

section append
variable {P : Program} {ops : Array Oper} {o : Oper} {a : Act} {w : World} {Q : Exit → Act → World → Prop}

theorem run_app1 {t ty e : TypeId} (h1 : P.underlying t = some (.slice e)) (hi : IsInt P e) {B : Nat} {v : Value} {xs : List Int} {y : Int} (hown : OwnI e B w v xs)
    {ad : Addr} {c : Nat} (hc : w.cell? ad = some (.int .i64 y)) (hlen : xs.length < 17592186044416) (hB : B ≤ w.heap.size) :
    ∃ v' w', (Builtin.append_ #[t, t] ty #[v, .slice (some ad) 1 c]).run P w = .ok v' w' ∧ OwnI e B w' v' (xs ++ [y]) ∧ w.grownBy w' v.ownBlock ∧ Below B w w' := by
  obtain ⟨i, hi1, hz0, hz1, hz2⟩ := info_parts hi
  obtain ⟨v', w', hrun, r1, r2, _⟩ := run_append_own (P := P) w B t ty e i (.int .i64 0) 1 8 h1 hi1 hz0 hz1 hz2 rfl (by decide) v xs.length _ hown ad 1 c [.int .i64 y] rfl
    (by
      intro j u hj
      match j, hj with
      | 0, hj => simp at hj; subst hj; simpa [Addr.add] using hc)
    (by intro u hu; simp at hu; subst hu; rfl) (by unfold maxLen; omega) (by omega) hB
  refine ⟨v', w', hrun, by unfold OwnI; simpa using r1, r2, (Below.refl B w).grown r2 hB (fun k hk => (hown.lt k hk).1)⟩

/-- `append(s, y)` as one step of a region that draws its order. -/
theorem step_app1 {K : Act → World → Prop} {E : Prop} (hg : o.guard = none) (s x : Operand) (t : TypeId) (hop : o.op = Op.call { callee := Callee.builtin Builtin.append, args := #[s, x], argTypes := #[t, t] })
    (e : TypeId) (h1 : P.underlying t = some (.slice e)) (hi : IsInt P e) (B : Nat) (v : Value) (xs : List Int) (y : Int) (hs : a.eval s = v) (hown : OwnI e B w v xs)
    (ad : Addr) (c : Nat) (hx : a.eval x = .slice (some ad) 1 c) (hc : w.cell? ad = some (.int .i64 y)) (hlen : xs.length < 17592186044416) (hB : B ≤ w.heap.size)
    (hK : ∀ v' w', OwnI e B w' v' (xs ++ [y]) → w.grownBy w' v.ownBlock → Below B w w' → K (a.put o.dst v') w') :
    if Region.wanted o (yielded ops a.tmps) = true then Oper.wp P o a w K Q else E := by
  have hw : Region.wanted o (yielded ops a.tmps) = true := by simp [Region.wanted, hg]
  rw [if_pos hw]
  obtain ⟨v', w', hrun, r1, r2, r3⟩ := run_app1 (P := P) (ty := o.type) h1 hi hown hc hlen hB
  unfold Oper.wp
  have hx' := hK v' w' r1 r2 r3
  simp [execOp, hop, resolve, invoke, builtin, hs, hx, Result.andThen]
  rw [hrun]
  exact hx'

/-- `append(s, y)` on the walk's road. -/
theorem wpList_app1 {rest : List Oper} (hg : o.guard = none) (s x : Operand) (t : TypeId) (hop : o.op = Op.call { callee := Callee.builtin Builtin.append, args := #[s, x], argTypes := #[t, t] })
    (e : TypeId) (h1 : P.underlying t = some (.slice e)) (hi : IsInt P e) (B : Nat) (v : Value) (xs : List Int) (y : Int) (hs : a.eval s = v) (hown : OwnI e B w v xs)
    (ad : Addr) (c : Nat) (hx : a.eval x = .slice (some ad) 1 c) (hc : w.cell? ad = some (.int .i64 y)) (hlen : xs.length < 17592186044416) (hB : B ≤ w.heap.size)
    (hK : ∀ v' w', OwnI e B w' v' (xs ++ [y]) → w.grownBy w' v.ownBlock → Below B w w' → wpList P ops Q rest (a.put o.dst v') w') :
    wpList P ops Q (o :: rest) a w := by
  obtain ⟨i, hi1, hz0, hz1, hz2⟩ := info_parts hi
  refine wpList_append_own w hg s x t hop B e i (.int .i64 0) 1 8 h1 hi1 hz0 hz1 hz2 rfl (by decide) v xs.length _ hs hown ad 1 c [.int .i64 y] hx rfl
    (by
      intro j u hj
      match j, hj with
      | 0, hj => simp at hj; subst hj; simpa [Addr.add] using hc)
    (by intro u hu; simp at hu; subst hu; rfl) (by unfold maxLen; omega) (by omega) hB ?_
  intro v' w' r1 r2 _
  exact hK v' w' (by unfold OwnI; simpa using r1) r2 ((Below.refl B w).grown r2 hB (fun k hk => (hown.lt k hk).1))
end append

theorem OwnI.alloc {e : TypeId} {B : Nat} {w : World} {v : Value} {xs : List Int} (h : OwnI e B w v xs) (o : Obj) : OwnI e B (w.alloc o) v xs := World.ownsRow.alloc h o
theorem OwnI.drew {e : TypeId} {B : Nat} {w : World} {v : Value} {xs : List Int} (h : OwnI e B w v xs) : OwnI e B w.drew v xs := World.ownsRow.drew h
/-- A row from block n on is kept where all that lay is kept. -/
theorem OwnI.below {e : TypeId} {B : Nat} {w w' : World} {v : Value} {xs : List Int} (h : OwnI e B w v xs) (hb : Below w.heap.size w w') : OwnI e B w' v xs :=
  World.ownsRow.kept (row := none) h ⟨hb.os, hb.tape, hb.output, hb.size, fun k hk _ => hb.block k hk⟩ (by cases hv : v.ownBlock <;> simp)
theorem OwnI.mono {e : TypeId} {B B' : Nat} {w : World} {v : Value} {xs : List Int} (h : OwnI e B w v xs) (hB : B' ≤ B) : OwnI e B' w v xs := by
  refine ⟨h.1, ?_⟩
  rcases h.2 with h2 | ⟨g, cap, cur, hv, hg, r⟩
  · exact Or.inl h2
  · exact Or.inr ⟨g, cap, cur, hv, Nat.le_trans hB hg, r⟩

/-- Numbers from 0 on, as ints. -/
def toI (bs : List Nat) : List Int := bs.map (fun n : Nat => (n : Int))

theorem toI_length (bs : List Nat) : (toI bs).length = bs.length := by simp [toI]
theorem toI_getElem (bs : List Nat) (i : Nat) (h : i < (toI bs).length) : (toI bs)[i] = ((bs[i]'(by simpa [toI] using h) : Nat) : Int) := by simp [toI]
theorem toI_take (bs : List Nat) (n : Nat) : (toI bs).take n = toI (bs.take n) := by simp [toI, List.map_take]
theorem toI_append (a b : List Nat) : toI (a ++ b) = toI a ++ toI b := by simp [toI]
theorem toI_nil : toI [] = [] := rfl
theorem toI_inj : ∀ {a b : List Nat}, toI a = toI b → a = b
  | [], [], _ => rfl
  | [], _ :: _, h => by simp [toI] at h
  | _ :: _, [], h => by simp [toI] at h
  | x :: a, y :: b, h => by
    have h' : (x : Int) = y ∧ toI a = toI b := by simpa [toI] using h
    rw [toI_inj h'.2, Int.ofNat.inj h'.1]

theorem ret_int {k : IntKind} {a b : Int} (h : a = b) : Ending.returned (.int k a) = .returned (.int k b) := by rw [h]
theorem ret_bool {a b : Bool} (h : a = b) : Ending.returned (.bool a) = .returned (.bool b) := by rw [h]

/-- A new block of one cell. -/
theorem cell_new1 (w : World) (u : Value) (e : TypeId) : (w.alloc (.cells #[u] e)).cell? ⟨w.heap.size, 0, none⟩ = some u := by simp

/-- What a slice of numbers gives a walk: its shape, and the cell of an index. -/
theorem Ints.openN {w : World} {v : Value} {bs : List Nat} (h : Ints w v (toI bs)) : ∃ (a : Option Addr) (c : Nat), v = .slice a bs.length c ∧ bs.length ≤ 17592186044416 ∧ bs.length ≤ c ∧
    (bs ≠ [] → ∃ b off, a = some ⟨b, off, none⟩ ∧ b < w.heap.size ∧ ∀ i (h : i < bs.length), w.cell? ⟨b, off + i, none⟩ = some (.int .i64 ((bs[i] : Nat) : Int))) := by
  obtain ⟨a, c, rfl, h1, h2, h3⟩ := h
  rw [toI_length] at h1 h2 ⊢
  refine ⟨a, c, rfl, h1, h2, fun hne => ?_⟩
  obtain ⟨b, off, rfl, hb, hc⟩ := h3 (by intro h; exact hne (by simpa [toI] using h))
  exact ⟨b, off, rfl, hb, fun i hi => by rw [hc i (by rw [toI_length]; exact hi), toI_getElem]⟩


/-- `v[1:]`. -/
theorem ints_tail {w : World} {b off n c : Nat} {x : Int} {xs : List Int} (h : Ints w (.slice (some ⟨b, off, none⟩) (n + 1) c) (x :: xs)) :
    Ints w (.slice (if c = 1 then some ⟨b, off, none⟩ else some ⟨b, off + 1, none⟩) n (c - 1)) xs := by
  obtain ⟨a', c', he, h1, h2, h3⟩ := h
  obtain ⟨rfl, hn, rfl⟩ := Value.slice.inj he
  simp only [List.length_cons] at hn h1 h2
  obtain ⟨b', off', e, hlt, hc⟩ := h3 (by simp)
  obtain ⟨rfl, rfl⟩ : b = b' ∧ off = off' := by simpa using e
  refine ⟨_, c - 1, by rw [show n = xs.length by omega], by omega, by omega, fun hne => ?_⟩
  have hl : 0 < xs.length := List.length_pos_iff.2 hne
  refine ⟨b, off + 1, by rw [if_neg (by omega)], hlt, fun i hi => ?_⟩
  have := hc (i + 1) (by simp; omega)
  rw [show off + 1 + i = off + (i + 1) by omega, this]
  simp

/-- A new block that holds the ints xs. -/
theorem own_fresh {B : Nat} (w : World) (e : TypeId) (xs : List Int) (hB : B ≤ w.heap.size) (hm : xs.length ≤ maxLen) :
    OwnI e B (w.alloc (.cells (xs.map (Value.int .i64)).toArray e)) (.slice (some ⟨w.heap.size, 0, none⟩) xs.length xs.length) xs :=
  ⟨by simp, .inr ⟨w.heap.size, xs.length, _, rfl, hB, heap_alloc_new w _, Nat.le_refl _, hm, by simp, by simp [List.take_of_length_le]⟩⟩

end Go.Proofs.YtlpnicfbgdfbnaaDoor

/- Walks of small slice functions. -/
namespace Go.Proofs.YtlpnicfbgdfbnaaDoor
open Go.RowKit

theorem info3 : (Tryd.prog.info? 3).map (fun i => (i.zero, i.size, i.bytes)) = some (some (.int .i64 0), 1, 8) := by kernel_rfl

set_option maxHeartbeats 400000 in
theorem Clone_any (v : Value) (xs : List Int) (w : World) (hv : Ints w v xs) :
    Calls Tryd.prog 40 #[v] w fun e w' => ∃ v', e = .returned v' ∧ OwnI 3 w.heap.size w' v' xs ∧ Below w.heap.size w w' := by
  obtain ⟨a, c, rfl, hlen, hcl, hc⟩ := hv
  obtain ⟨i0, hi, hz0, hz1, hz2⟩ := info_parts info3
  have q22 : ∀ (w : World) (a : Option Addr) (n c n' c' : Nat), (binOp .eql 22 (.slice a n c) (.slice none n' c')).run Tryd.prog w = .ok (.bool a.isNone) w := fun w a n c n' c' => Lib.run_eql_slice_nil w _ _ a n c n' c' Tryd.underlying22
  have A := Lib.hid hc
  clear hc
  cases a with
  | none =>
    have hx : xs = [] := by
      by_cases h : xs = []
      · exact h
      · obtain ⟨b, off, h1, _⟩ := A.out h; cases h1
    subst hx
    go_enter Tryd.func40, Tryd.ntmps40
    go_wp2
    go_ret
    exact ⟨_, rfl, OwnI.nil _ _ _, Below.refl _ _⟩
  | some ad =>
    go_enter Tryd.func40, Tryd.ntmps40
    go_wp2_with (at_builtin; refine wpList_append_own _ rfl _ _ 22 rfl w.heap.size 3 i0 (.int .i64 0) 1 8 Tryd.underlying22 hi hz0 hz1 hz2 rfl (by decide) _ _ _ rfl (World.ownsRow_made w #[] 0 (Nat.le_refl _) (Nat.zero_le _) rfl) ad xs.length c (xs.map (Value.int .i64)) rfl ?qc1 ?qc2 ?qc3 ?qc4 ?qc5 ?qc6 ?_)
    case qc1 => simp
    case qc2 =>
      intro j u hj
      have hjn : j < xs.length := by
        have := (List.getElem?_eq_some_iff.1 hj).1
        simpa using this
      obtain ⟨b, off, h1, hlt, hcell⟩ := A.out (by intro h; simp [h] at hjn)
      obtain rfl : ad = ⟨b, off, none⟩ := by simpa using h1
      rw [Addr.add_lit]
      refine Lib.cell?_alloc_some _ ?_
      rw [hcell j hjn]
      simpa [List.getElem?_eq_getElem hjn] using hj
    case qc3 => intro u hu; obtain ⟨x, _, rfl⟩ := List.mem_map.1 hu; rfl
    case qc4 => unfold maxLen; omega
    case qc5 => omega
    case qc6 => simp
    intro v' w1 hown hgrow hnil
    go_wp2
    go_ret
    refine ⟨v', rfl, by unfold OwnI; simpa using hown, ?_⟩
    exact ((Below.refl _ w).alloc (Nat.le_refl _) _).grown hgrow (by simp) (by intro k hk; simp [Value.ownBlock] at hk; omega)

theorem ints_take {w : World} {a : Option Addr} {xs : List Int} {c n : Nat} (hv : Ints w (.slice a xs.length c) xs) (hn : n ≤ xs.length) : Ints w (.slice a n c) (xs.take n) := by
  obtain ⟨a', c', he, hlen, hcl, hc⟩ := hv
  obtain ⟨rfl, _, rfl⟩ := Value.slice.inj he
  have hl : (xs.take n).length = n := by simp; omega
  refine ⟨a, c, by rw [hl], by omega, by omega, fun hne => ?_⟩
  obtain ⟨b, off, rfl, hlt, hcell⟩ := hc (by intro h; simp [h] at hne)
  exact ⟨b, off, rfl, hlt, fun i hi => by rw [hcell i (by omega)]; simp⟩

set_option maxHeartbeats 400000 in
theorem list_any (v : Value) (xs : List Int) (w : World) (hv : Ints w v xs) :
    Calls Tryd.prog 15 #[v] w fun e w' => ∃ v', e = .returned v' ∧ OwnI 3 w.heap.size w' v' (xs.take 9) ∧ Below w.heap.size w w' := by
  have hv' := hv
  obtain ⟨a, c, rfl, hlen, hcl, hc⟩ := hv
  clear hc
  by_cases h9 : 9 < xs.length
  · have h := ints_take hv' (n := 9) (by omega)
    clear hv'
    go_enter Tryd.func15, Tryd.ntmps15
    go_wp2_with (go_at_call 40; refine (Clone_any _ _ _ h).mono ?_; rintro e w' ⟨v', rfl, ho, hb⟩)
    go_ret
    exact ⟨v', rfl, ho, hb⟩
  · have h := hv'
    clear hv'
    go_enter Tryd.func15, Tryd.ntmps15
    go_wp2_with (go_at_call 40; refine (Clone_any _ _ _ h).mono ?_; rintro e w' ⟨v', rfl, ho, hb⟩)
    go_ret
    exact ⟨v', rfl, by rw [List.take_of_length_le (by omega)]; exact ho, hb⟩

end Go.Proofs.YtlpnicfbgdfbnaaDoor

/- Bits of small numbers, in the walk's spelling. -/
namespace Go.Proofs.YtlpnicfbgdfbnaaDoor
open Go.RowKit

/-- Row r without column j. -/
def delcol (j r : Nat) : Nat := (r &&& (2 ^ j - 1)) ||| ((r >>> (j + 1)) <<< j)

theorem delcol_walk : ∀ j : Nat, j < 6 → ∀ r : Nat, r < 64 → bits BinOp.or IntKind.i64 (bits BinOp.and IntKind.i64 (r : Int) ((2 : Int) ^ j - 1)) (IntKind.i64.wrap ((r : Int) / (2 ^ (j + 1)) * 2 ^ j)) = ((delcol j r : Nat) : Int) := by decide +kernel
theorem delcol_lt : ∀ j : Nat, j < 6 → ∀ r : Nat, r < 64 → delcol j r < 64 := by decide +kernel

theorem pow_in : ∀ j : Nat, j < 7 → IntKind.i64.wrap ((2 : Int) ^ j) = (2 : Int) ^ j := by decide +kernel
theorem pow_in1 : ∀ j : Nat, j < 7 → IntKind.i64.wrap ((2 : Int) ^ j - 1) = (2 : Int) ^ j - 1 := by decide +kernel
theorem pow_in64 : ∀ j : Nat, j < 7 → wrap64 ((2 : Int) ^ j) = (2 : Int) ^ j := by decide +kernel
theorem pow_in164 : ∀ j : Nat, j < 7 → wrap64 ((2 : Int) ^ j - 1) = (2 : Int) ^ j - 1 := by decide +kernel

/-- The columns of n that are not in r. -/
def otherRow (n r : Nat) : Nat := 2 ^ n - 1 - r
theorem other_walk : ∀ n : Nat, n < 7 → ∀ r : Nat, r < 64 → r < 2 ^ n → bits BinOp.andNot IntKind.i64 ((2 : Int) ^ n - 1) (r : Int) = ((otherRow n r : Nat) : Int) := by decide +kernel
theorem other_lt : ∀ n : Nat, n < 7 → ∀ r : Nat, r < 64 → otherRow n r < 2 ^ n := by decide +kernel
end Go.Proofs.YtlpnicfbgdfbnaaDoor

/- math/bits.TrailingZeros and OnesCount at numbers below 256. -/
namespace Go.Proofs.YtlpnicfbgdfbnaaDoor
open Go.RowKit

/-- The least element of a set of numbers below 8. -/
def tz (x : Nat) : Nat := ((List.range 8).find? (x.testBit ·)).getD 64
/-- How many elements a set of numbers below 8 has. -/
def pop (x : Nat) : Nat := (List.range 8).countP (x.testBit ·)

def oc1 (x : Nat) : Nat := ((x / 2) &&& 6148914691236517205) + (x &&& 6148914691236517205)
def oc2 (x : Nat) : Nat := ((oc1 x / 4) &&& 3689348814741910323) + (oc1 x &&& 3689348814741910323)
def oc3 (x : Nat) : Nat := (oc2 x / 16 + oc2 x) &&& 1085102592571150095
theorem oc1_w : ∀ x : Nat, x < 256 → IntKind.u64.wrap (bits BinOp.and IntKind.u64 ((x : Int) / 2) 6148914691236517205 + bits BinOp.and IntKind.u64 (x : Int) 6148914691236517205) = ((oc1 x : Nat) : Int) := by decide +kernel
theorem oc2_w : ∀ x : Nat, x < 256 → IntKind.u64.wrap (bits BinOp.and IntKind.u64 (((oc1 x : Nat) : Int) / 4) 3689348814741910323 + bits BinOp.and IntKind.u64 ((oc1 x : Nat) : Int) 3689348814741910323) = ((oc2 x : Nat) : Int) := by decide +kernel
theorem oc3_w : ∀ x : Nat, x < 256 → bits BinOp.and IntKind.u64 (IntKind.u64.wrap (((oc2 x : Nat) : Int) / 16 + ((oc2 x : Nat) : Int))) 1085102592571150095 = ((oc3 x : Nat) : Int) := by decide +kernel
theorem oc4_w : ∀ x : Nat, x < 256 → IntKind.u64.wrap (((oc3 x : Nat) : Int) + ((oc3 x : Nat) : Int) / 256) = ((oc3 x : Nat) : Int) := by decide +kernel
theorem oc5_w : ∀ x : Nat, x < 256 → IntKind.u64.wrap (((oc3 x : Nat) : Int) + ((oc3 x : Nat) : Int) / 65536) = ((oc3 x : Nat) : Int) := by decide +kernel
theorem oc6_w : ∀ x : Nat, x < 256 → IntKind.u64.wrap (((oc3 x : Nat) : Int) + ((oc3 x : Nat) : Int) / 4294967296) = ((oc3 x : Nat) : Int) := by decide +kernel
theorem oc7_w : ∀ x : Nat, x < 256 → bits BinOp.and IntKind.i64 (wrap64 ((oc3 x : Nat) : Int)) 127 = ((pop x : Nat) : Int) := by decide +kernel
theorem oc7_w' : ∀ x : Nat, x < 256 → bits BinOp.and IntKind.i64 ((oc3 x : Nat) : Int) 127 = ((pop x : Nat) : Int) := by decide +kernel
theorem pop_le : ∀ x : Nat, x < 256 → pop x ≤ 8 := by decide +kernel


set_option maxHeartbeats 400000 in
theorem ones64_any (x : Nat) (w : World) (hx : x < 256)  :
    Calls Tryd.prog 87 #[.int .u64 x] w fun e w' => e = .returned (.int .i64 (pop x : Nat)) ∧ w = w' := by
  have h1 := oc1_w x hx; have h2 := oc2_w x hx; have h3 := oc3_w x hx; have h4 := oc4_w x hx; have h5 := oc5_w x hx; have h6 := oc6_w x hx
  have H7 := Lib.hid (oc7_w x hx); have H7' := Lib.hid (oc7_w' x hx)
  go_enter Tryd.func87, Tryd.ntmps87
  go_wp2
  go_ret
  exact ⟨ret_int (by first | exact H7.out | exact H7'.out), rfl⟩

set_option maxHeartbeats 400000 in
theorem ones_any (x : Nat) (w : World) (hx : x < 256)  :
    Calls Tryd.prog 75 #[.int .u64 x] w fun e w' => e = .returned (.int .i64 (pop x : Nat)) ∧ w = w' := by
  go_enter Tryd.func75, Tryd.ntmps75
  go_wp2_with (go_at_call 87; refine (ones64_any x _ hx).mono ?_; rintro e w' ⟨rfl, rfl⟩)
  go_ret
  exact ⟨rfl, rfl⟩

set_option maxHeartbeats 400000 in
theorem count_any (x : Nat) (w : World) (hx : x < 256)  :
    Calls Tryd.prog 59 #[.int .i64 x] w fun e w' => e = .returned (.int .i64 (pop x : Nat)) ∧ w = w' := by
  have hu : IntKind.u64.wrap (x : Int) = x := by simp [IntKind.wrap, IntKind.bits, IntKind.signed]; omega
  go_enter Tryd.func59, Tryd.ntmps59
  go_wp2_with (go_at_call 75; refine (ones_any x _ hx).mono ?_; rintro e w' ⟨rfl, rfl⟩)
  go_ret
  exact ⟨rfl, rfl⟩

/-- The table of math/bits.TrailingZeros64. -/
def tzTab : List Nat := [0, 1, 56, 2, 57, 49, 28, 3, 61, 58, 42, 50, 38, 29, 17, 4, 62, 47, 59, 36, 45, 43, 51, 22, 53, 39, 33, 30, 24, 18, 12, 5, 63, 55, 48, 27, 60, 41, 37, 16, 46, 35, 44, 21, 52, 32, 23, 11, 54, 26, 40, 15, 34, 20, 31, 10, 25, 14, 19, 9, 13, 8, 7, 6]
/-- The table lies in the world. -/
def Tab (w : World) : Prop := ∀ i : Nat, i < 64 → w.cell? ⟨1, i, none⟩ = some (.int .u8 ((tzTab.getD i 0 : Nat) : Int))
theorem Tab.lt {w : World} (h : Tab w) : 1 < w.heap.size := World.block_lt_of_cell? w _ (h 0 (by omega))
theorem Tab.below {w w' : World} (h : Tab w) (hb : Below w.heap.size w w') : Tab w' := fun i hi => (hb.cell (p := ⟨1, i, none⟩) h.lt).trans (h i hi)

def tzAt (x : Nat) : Nat := ((x &&& (18446744073709551616 - x)) * 285870213051353865 % 18446744073709551616) / 288230376151711744
theorem tzAt_w : ∀ x : Nat, x < 256 → IntKind.u64.wrap (bits BinOp.and IntKind.u64 (x : Int) (IntKind.u64.wrap (-(x : Int))) * 285870213051353865) / 288230376151711744 = ((tzAt x : Nat) : Int) := by decide +kernel
theorem tzAt_lt : ∀ x : Nat, x < 256 → tzAt x < 64 := by decide +kernel
theorem tzAt_tab : ∀ x : Nat, x < 256 → 0 < x → tzTab.getD (tzAt x) 0 = tz x := by decide +kernel
theorem tz_lt : ∀ x : Nat, x < 256 → 0 < x → tz x < 8 := by decide +kernel

set_option maxHeartbeats 400000 in
theorem tz64_core (x t z : Nat) (w : World) (h0 : 0 < x) (hw : IntKind.u64.wrap (bits BinOp.and IntKind.u64 (x : Int) (IntKind.u64.wrap (-(x : Int))) * 285870213051353865) / 288230376151711744 = (t : Int))
    (hl : (t : Int) < 64) (hz : (z : Int) < 8) (hc : w.cell? ⟨1, t, none⟩ = some (.int .u8 (z : Int))) :
    Calls Tryd.prog 85 #[.int .u64 x] w fun e w' => e = .returned (.int .i64 z) ∧ w = w' := by
  go_enter Tryd.func85, Tryd.ntmps85
  go_wp2
  go_ret
  exact ⟨rfl, rfl⟩

theorem tz64_any (x : Nat) (w : World) (hx : x < 256) (h0 : 0 < x) (ht : Tab w) :
    Calls Tryd.prog 85 #[.int .u64 x] w fun e w' => e = .returned (.int .i64 (tz x : Nat)) ∧ w = w' :=
  tz64_core x (tzAt x) (tz x) w h0 (tzAt_w x hx) (by have := tzAt_lt x hx; omega) (by have := tz_lt x hx h0; omega) (by rw [ht _ (tzAt_lt x hx), tzAt_tab x hx h0])

set_option maxHeartbeats 400000 in
theorem tzeros_any (x : Nat) (w : World) (hx : x < 256) (h0 : 0 < x) (ht : Tab w) :
    Calls Tryd.prog 73 #[.int .u64 x] w fun e w' => e = .returned (.int .i64 (tz x : Nat)) ∧ w = w' := by
  have HT := Lib.hid ht; clear ht
  go_enter Tryd.func73, Tryd.ntmps73
  go_wp2_with (go_at_call 85; refine (tz64_any x _ hx h0 HT.out).mono ?_; rintro e w' ⟨rfl, rfl⟩)
  go_ret
  exact ⟨rfl, rfl⟩
end Go.Proofs.YtlpnicfbgdfbnaaDoor

/- rooks.columns: the iterator over the elements of a set. -/
namespace Go.Proofs.YtlpnicfbgdfbnaaDoor
open Go.RowKit
attribute [local go_sem] Oper.semAt_some

set_option maxHeartbeats 400000 in
theorem columns_any (s : Int) (w : World) :
    Calls Tryd.prog 56 #[.int .i64 s] w fun e w' => e = .returned (.func (.func 72) #[] #[.pointer (some ⟨w.heap.size, 0, none⟩)]) ∧ w' = w.alloc (.cells #[.int .i64 s] 3) := by
  go_enter Tryd.func56, Tryd.ntmps56
  go_wp2
  go_ret
  exact ⟨rfl, rfl⟩

/-- The box at block B holds the number s. -/
def BoxN (W : World) (B s : Nat) : Prop := W.heap[B]? = some (.cells #[.int .i64 (s : Int)] 3 (0, 0))
theorem BoxN.cell {W : World} {B s : Nat} (h : BoxN W B s) : W.cell? ⟨B, 0, none⟩ = some (.int .i64 (s : Int)) := cell_of_one h
theorem BoxN.frozen {W : World} {B s : Nat} (h : BoxN W B s) : W.frozen? ⟨B, 0, none⟩ = false := free_of_one h

/-- What is left of the set behind its least element. -/
def nextS (s : Nat) : Nat := s &&& (s - 1)
theorem nextS_w : ∀ s : Nat, s < 256 → 0 < s → bits BinOp.and IntKind.i64 (s : Int) ((s : Int) - 1) = ((nextS s : Nat) : Int) := by decide +kernel
theorem nextS_lt : ∀ s : Nat, s < 256 → 0 < s → nextS s < s := by decide +kernel

theorem tz_lt6 : ∀ s : Nat, s < 64 → 0 < s → tz s < 6 := by decide +kernel

set_option maxHeartbeats 1000000 in
theorem cols_in (n l B : Nat) (hn : 1 ≤ n) (J J' : Nat → World → Prop) (Jx : World → Prop)
    (hround : ∀ s W, s < 256 → 0 < s → J s W → YieldAt Fence.wide (n - 1) Tryd.prog l #[.int .i64 (tz s : Nat)] W fun e W' =>
      (e = .returned (.bool true) ∧ J' s W') ∨ (e = .returned (.bool false) ∧ Jx W'))
    (hbox : ∀ s W, J s W → BoxN W B s ∧ Tab W) (hbox' : ∀ s W, J' s W → BoxN W B s)
    (hnext : ∀ s W, s < 256 → 0 < s → J' s W → J (nextS s) (W.setCell ⟨B, 0, none⟩ (.int .i64 (nextS s : Nat))))
    (s0 : Nat) (W : World) (hs0 : s0 < 256) (h0 : J s0 W) :
    CallsIn Fence.wide n Tryd.prog 72 #[.func (.yield l) #[] #[], .pointer (some ⟨B, 0, none⟩)] W fun e W' => (∃ v, e = .returned v) ∧ (J 0 W' ∨ Jx W') := by
  refine callsIn_of_wp Tryd.func72 rfl trivial ?_ rfl
  simp only [Tryd.ntmps72, List.size_toArray, List.length_cons, List.length_nil, Nat.reduceAdd, Nat.reduceSub, Array.replicate_succ, Array.replicate_zero, List.push_toArray, List.append_toArray, List.nil_append, List.cons_append]
  gi_wp2
  gi_loopw [3] (fun _ wr => ∃ s, s < 256 ∧ J s wr) (fun _ wr => (intOf ((wr.cell? ⟨B, 0, none⟩).getD undef)).toNat)
  case atStart => exact ⟨s0, hs0, h0⟩
  case round =>
    obtain ⟨s, hs, hJ⟩ := hrel
    have hc := (hbox s wr hJ).1.cell
    by_cases h1 : 0 < s
    · have ht := Lib.hid (hbox s wr hJ).2
      obtain ⟨fn, tmps, assign, body, hy, hR⟩ := hround s wr hs h1 hJ
      have hu : IntKind.u64.wrap (s : Int) = s := by simp [IntKind.wrap, IntKind.bits, IntKind.signed]; omega
      have H1 := Lib.hid (hbox'); have H2 := Lib.hid hnext
      clear hround hbox' hnext hJ
      gi_wp2_with (refine ⟨trivial, ?_⟩; gi_at_call 73; refine (callsIn_wide.2 (tzeros_any s _ hs h1 ht.out)).mono ?_; rintro e w1 ⟨rfl, rfl⟩)
      refine hR.mono ?_
      rintro e W2 (⟨rfl, hJ2⟩ | ⟨rfl, hJx⟩)
      · have hb2 := H1.out s W2 hJ2
        have hc2 := hb2.cell
        have hf2 := hb2.frozen
        have hw := nextS_w s hs h1
        have H3 := Lib.hid hJ2
        clear hJ2 hb2
        gi_wp2
        go_roundw
        case rel => exact ⟨nextS s, by have := nextS_lt s hs h1; omega, H2.out s W2 hs h1 H3.out⟩
        case measure =>
          have := nextS_lt s hs h1
          rw [hc, World.cell?_setCell_same' _ _ _ (by rw [hc2]; rfl)]
          simp [intOf]; omega
      · gi_wp2
        refine bodyPost_ret (results_none rfl _ _ _) rfl ?_
        exact ⟨⟨_, rfl⟩, .inr hJx⟩
    · obtain rfl : s = 0 := by omega
      have HJ := Lib.hid hJ
      clear hround hbox' hnext hJ
      gi_wp2
      go_end0
      exact ⟨⟨_, rfl⟩, .inl HJ.out⟩
end Go.Proofs.YtlpnicfbgdfbnaaDoor

/- THE LAW OF A RANGE OVER rooks.columns. -/
namespace Go.Proofs.YtlpnicfbgdfbnaaDoor
open Go.RowKit Go.Shelf
attribute [local go_sem] Oper.semAt_some

/-- What a loop over columns may turn between two rounds: the set's box B, and what is no cells from n0 on. -/
structure LoopExt (n0 B : Nat) (W W' : World) : Prop where
  os : W'.os = W.os
  tape : W'.tape = W.tape
  output : W'.output = W.output
  size : W.heap.size ≤ W'.heap.size
  block : ∀ (k : Nat) (o : Obj), W.heap[k]? = some o → k ≠ B → (k < n0 ∨ o.isCells = true) → W'.heap[k]? = some o

theorem LoopExt.alloc (n0 B : Nat) (W : World) (o : Obj) : LoopExt n0 B W (W.alloc o) :=
  ⟨rfl, rfl, rfl, by simp, fun k o' hk _ _ => (Below.heap_alloc W o k (Array.getElem?_eq_some_iff.1 hk).1).trans hk⟩
theorem LoopExt.trans {n0 B : Nat} {a b c : World} (h : LoopExt n0 B a b) (k : LoopExt n0 B b c) : LoopExt n0 B a c :=
  ⟨k.os.trans h.os, k.tape.trans h.tape, k.output.trans h.output, Nat.le_trans h.size k.size, fun i o hi hB hc => k.block i o (h.block i o hi hB hc) hB hc⟩
theorem LoopExt.putObj {n0 B : Nat} {W : World} {l : Nat} {o : Obj} (o' : Obj) (hl : W.heap[l]? = some o) (hn : n0 ≤ l) (ho : o.isCells = false) : LoopExt n0 B W (W.putObj l o') :=
  ⟨(grownBy_putObj' W l o').os, (grownBy_putObj' W l o').tape, (grownBy_putObj' W l o').output, (grownBy_putObj' W l o').size, fun k u hk _ hc => by
    have hne : k ≠ l := by
      intro e; subst e
      rw [hl] at hk; cases hk
      rcases hc with h | h
      · omega
      · rw [ho] at h; cases h
    exact (World.putObj_heap_other hne).trans hk⟩
theorem LoopExt.setCell (n0 B : Nat) (W : World) (v : Value) : LoopExt n0 B W (W.setCell ⟨B, 0, none⟩ v) :=
  ⟨rfl, rfl, rfl, by simp [World.setCell], fun k o hk hB _ => (Below.heap_setCell W ⟨B, 0, none⟩ v k hB).trans hk⟩

/-- How the body of a round may be left. -/
def colPost (n0 B : Nat) (I : Nat → World → Prop) (Ix : Code → World → Prop) (s : Nat) (W : World) : Exit → Act → World → Prop
  | .normal, _, W' => KeepsFrom n0 W W' ∧ BoxN W' B s ∧ I (nextS s) W'
  | .ret, _, W' => KeepsFrom n0 W W' ∧ Ix .ret W'
  | .exit id, _, W' => KeepsFrom n0 W W' ∧ Ix (.exit id) W'
  | .goto t, _, W' => KeepsFrom n0 W W' ∧ Ix (.goto t) W'
  | .panic _, _, _ => False
  | .outgrown, _, _ => False

theorem BoxN.putObj {W : World} {B s l : Nat} (h : BoxN W B s) (hne : B ≠ l) (o : Obj) : BoxN (W.putObj l o) B s := (World.putObj_heap_other hne).trans h
theorem BoxN.alloc {W : World} {B s : Nat} (h : BoxN W B s) (o : Obj) : BoxN (W.alloc o) B s := (Below.heap_alloc W o B (Array.getElem?_eq_some_iff.1 h).1).trans h
theorem BoxN.lt {W : World} {B s : Nat} (h : BoxN W B s) : B < W.heap.size := (Array.getElem?_eq_some_iff.1 h).1
theorem BoxN.set {W : World} {B s : Nat} (h : BoxN W B s) (t : Nat) : BoxN (W.setCell ⟨B, 0, none⟩ (.int .i64 (t : Int))) B t := one_setCell h

theorem wpIn_cols {n : Nat} {g : Operand} {p : Tmp} {assign body : Code} {Q : Exit → Act → World → Prop} {a : Act} {w : World} (hn : 3 ≤ n) (B s0 : Nat)
    (hg : a.eval g = .func (.func 72) #[] #[.pointer (some ⟨B, 0, none⟩)]) (hbx : BoxN w B s0) (hs0 : s0 < 256)
    (I : Nat → World → Prop) (Ix : Code → World → Prop) (hT : ∀ s W, I s W → Tab W)
    (hI : ∀ s W W', I s W → LoopExt w.heap.size B W W' → I s W') (hIx : ∀ c W W', Ix c W → LoopExt w.heap.size B W W' → Ix c W') (h0 : I s0 w) (a₁ : Nat → Act)
    (hassign : ∀ (l s : Nat) (W : World) (K : Act → World → Prop), K (a₁ (tz s)) W →
      assign.wpIn (Fence.wide.inRound l) (n - 1 - 1) Tryd.prog (Exit.then K (fun _ _ _ => False)) { tmps := a.tmps.setIfInBounds p (.int .i64 (tz s : Nat)), defers := [] } W)
    (hbody : ∀ (l s : Nat) (W : World), s < 256 → 0 < s → w.heap.size ≤ l → I s W → BoxN W B s →
      body.wpIn (Fence.wide.inRound l) (n - 1 - 1) Tryd.prog (colPost w.heap.size B I Ix s W) (a₁ (tz s)) W)
    (hdone : ∀ (D : Nat) (W : World), w.heap.size ≤ D → I 0 W → W.heap[D]? = some (.deferred (some [])) → Q .normal { a with defers := { target := .collected D, args := #[] } :: a.defers } W)
    (hstop : ∀ (D : Nat) (c : Code) (W : World), w.heap.size ≤ D → Ix c W → W.heap[D]? = some (.deferred (some [])) → c.wpIn Fence.wide n Tryd.prog Q { a with defers := { target := .collected D, args := #[] } :: a.defers } W) :
    (Code.rangeFunc g #[p] assign body).wpIn Fence.wide n Tryd.prog Q a w := by
  have hBlt := hbx.lt
  refine wpIn_rangeFunc ?_
  intro fn hfn
  obtain ⟨rec, hrec⟩ : ∃ rec : LoopState → Option Code → Loop, rec = fun st pe => { state := st, pending := pe, fn, tmps := a.tmps, params := #[p], assign, body, defers := w.heap.size } := ⟨_, rfl⟩
  obtain ⟨W1, hW1⟩ : ∃ W1, (w.alloc (.deferred (some []))).alloc (.loop (rec .ready none)) = W1 := ⟨_, rfl⟩
  have hL1 : W1.heap[w.heap.size + 1]? = some (.loop (rec .ready none)) := by
    rw [← hW1]; have := World.alloc_heap_new (w.alloc (.deferred (some []))) (.loop (rec .ready none)); rwa [World.size_alloc] at this
  have hK1 : W1.heap[w.heap.size]? = some (.deferred (some [])) := by
    rw [← hW1]; exact (Below.heap_alloc _ _ _ (by simp)).trans (World.alloc_heap_new w _)
  have hI1 : I s0 W1 := by rw [← hW1]; exact hI _ _ _ h0 ((LoopExt.alloc _ _ _ _).trans (LoopExt.alloc _ _ _ _))
  have hb1 : BoxN W1 B s0 := by rw [← hW1]; exact (hbx.alloc _).alloc _
  refine ⟨w.heap.size + 1, [{ target := .collected w.heap.size, args := #[] }], W1, { target := .fn (.func 72) #[.pointer (some ⟨B, 0, none⟩)], args := #[.func (.yield (w.heap.size + 1)) #[] #[]] }, W1, 72,
    #[.func (.yield (w.heap.size + 1)) #[] #[], .pointer (some ⟨B, 0, none⟩)], W1, ?_, ?_, fun _ _ => trivial, ?_, fun _ => by omega, ?_⟩
  · rw [← hW1, hrec]; exact run_enterLoop_outer _ _ _ _ _
  · simp only [resolve, hg]
    simp [go_sem]
  · simp [invoke, go_sem]
  · have hne1 : B ≠ w.heap.size + 1 := by omega
    have hne0 : B ≠ w.heap.size := by omega
    refine (cols_in (n - 1) (w.heap.size + 1) B (by omega)
      (fun s W => I s W ∧ BoxN W B s ∧ W.heap[w.heap.size + 1]? = some (.loop (rec .ready none)) ∧ W.heap[w.heap.size]? = some (.deferred (some [])))
      (fun s W => I (nextS s) W ∧ BoxN W B s ∧ W.heap[w.heap.size + 1]? = some (.loop (rec .ready none)) ∧ W.heap[w.heap.size]? = some (.deferred (some [])))
      (fun W => ∃ c, Ix c W ∧ W.heap[w.heap.size + 1]? = some (.loop (rec .done (some c))) ∧ W.heap[w.heap.size]? = some (.deferred (some [])))
      ?_ (fun s W h => ⟨h.2.1, hT s W h.1⟩) (fun s W h => h.2.1)
      (fun s W _ _ h => ⟨hI _ _ _ h.1 (LoopExt.setCell _ _ _ _), h.2.1.set _, (Below.heap_setCell _ _ _ _ (by simpa using hne1.symm)).trans h.2.2.1, (Below.heap_setCell _ _ _ _ (by simpa using hne0.symm)).trans h.2.2.2⟩)
      s0 W1 hs0 ⟨hI1, hb1, hL1, hK1⟩).mono ?_
    · -- ONE ROUND
      rintro s W hs hpos ⟨hi, hbW, hl, hk⟩
      have hlt : w.heap.size + 1 < W.heap.size := (Array.getElem?_eq_some_iff.1 hl).1
      have hy := run_yield (P := Tryd.prog) (args := #[Value.int .i64 (tz s : Nat)]) hl (by rw [hrec]; rfl)
      rw [hrec] at hy
      have hz : (#[p].zip #[Value.int .i64 (tz s : Nat)]).foldl (fun tmps x => match x with | (t, a) => tmps.setIfInBounds t a) a.tmps = a.tmps.setIfInBounds p (.int .i64 (tz s : Nat)) := by simp
      refine ⟨fn, a.tmps.setIfInBounds p (.int .i64 (tz s : Nat)), assign, body, by rw [← hz]; exact hy, roundIn_of_wpIn hfn (hassign _ s W _ ?_)⟩
      clear hy hz
      refine ⟨_, run_beginRound hl (by rw [hrec]), ?_⟩
      have hl2 : (W.putObj (w.heap.size + 1) (.loop { rec .ready none with state := .busy })).heap[w.heap.size + 1]? = some (.loop { rec .ready none with state := .busy }) := World.putObj_heap_same hlt
      have hk2 : (W.putObj (w.heap.size + 1) (.loop { rec .ready none with state := .busy })).heap[w.heap.size]? = some (.deferred (some [])) := (World.putObj_heap_other (by omega)).trans hk
      refine wpIn_mono (hbody _ s _ hs hpos (by omega) (hI _ _ _ hi (LoopExt.putObj _ hl (by omega) rfl)) (hbW.putObj hne1 _)) ?_
      have fin : ∀ (jump : Option Code) (W3 : World), KeepsFrom w.heap.size (W.putObj (w.heap.size + 1) (.loop { rec .ready none with state := .busy })) W3 →
          (Instr.endRound (w.heap.size + 1) jump).run Tryd.prog W3 = .ok (.bool jump.isNone) (W3.putObj (w.heap.size + 1) (.loop (rec (if jump.isNone then .ready else .done) jump))) ∧
          W3.heap[w.heap.size + 1]? = some (.loop { rec .ready none with state := .busy }) ∧
          (W3.putObj (w.heap.size + 1) (.loop (rec (if jump.isNone then .ready else .done) jump))).heap[w.heap.size + 1]? = some (.loop (rec (if jump.isNone then .ready else .done) jump)) ∧
          (W3.putObj (w.heap.size + 1) (.loop (rec (if jump.isNone then .ready else .done) jump))).heap[w.heap.size]? = some (.deferred (some [])) := fun jump W3 hk3 => by
        have hl3 := hk3.same _ _ (by omega) hl2 rfl
        have := run_endRound (P := Tryd.prog) jump hl3
        rw [hrec] at this ⊢
        exact ⟨this, by rw [hrec] at hl3; exact hl3, World.putObj_heap_same (Array.getElem?_eq_some_iff.1 hl3).1, (World.putObj_heap_other (by omega)).trans (hk3.same _ _ (Nat.le_refl _) hk2 rfl)⟩
      rintro e a3 W3 hp
      cases e with
      | normal =>
        obtain ⟨hk3, hb3, hi3⟩ := hp
        obtain ⟨hr, hl3, hl4, hk4⟩ := fin none W3 hk3
        exact ⟨_, _, hr, .inl ⟨rfl, hI _ _ _ hi3 (LoopExt.putObj _ hl3 (by omega) rfl), hb3.putObj hne1 _, hl4, hk4⟩⟩
      | ret =>
        obtain ⟨hk3, hi3⟩ := hp
        obtain ⟨hr, hl3, hl4, hk4⟩ := fin (some .ret) W3 hk3
        exact ⟨_, _, hr, .inr ⟨rfl, .ret, hIx _ _ _ hi3 (LoopExt.putObj _ hl3 (by omega) rfl), hl4, hk4⟩⟩
      | exit id =>
        obtain ⟨hk3, hi3⟩ := hp
        obtain ⟨hr, hl3, hl4, hk4⟩ := fin (some (.exit id)) W3 hk3
        exact ⟨_, _, hr, .inr ⟨rfl, .exit id, hIx _ _ _ hi3 (LoopExt.putObj _ hl3 (by omega) rfl), hl4, hk4⟩⟩
      | goto t =>
        obtain ⟨hk3, hi3⟩ := hp
        obtain ⟨hr, hl3, hl4, hk4⟩ := fin (some (.goto t)) W3 hk3
        exact ⟨_, _, hr, .inr ⟨rfl, .goto t, hIx _ _ _ hi3 (LoopExt.putObj _ hl3 (by omega) rfl), hl4, hk4⟩⟩
      | panic ch => exact hp.elim
      | outgrown => exact hp.elim
    · -- BEHIND THE ITERATOR
      rintro e W2 ⟨⟨v, rfl⟩, (⟨hi, _, hl, hk⟩ | ⟨c, hi, hl, hk⟩)⟩
      · exact ⟨none, _, by have := run_endLoop (P := Tryd.prog) hl (by rw [hrec]; simp); rw [hrec] at this; exact this, hdone _ _ (Nat.le_refl _) (hI _ _ _ hi (LoopExt.putObj _ hl (by omega) rfl)) ((World.putObj_heap_other (by omega)).trans hk)⟩
      · exact ⟨some c, _, by have := run_endLoop (P := Tryd.prog) hl (by rw [hrec]; simp); rw [hrec] at this; exact this, hstop _ c _ (Nat.le_refl _) (hIx _ _ _ hi (LoopExt.putObj _ hl (by omega) rfl)) ((World.putObj_heap_other (by omega)).trans hk)⟩
end Go.Proofs.YtlpnicfbgdfbnaaDoor

/- Plain lemmas on lists and numbers. No Go in sight. -/
namespace Go.Proofs.YtlpnicfbgdfbnaaDoor

/-- What a loop over indexes and elements gathers. -/
def sel {α β : Type} (f : Nat → α → Option β) (l : List α) : List β := l.zipIdx.filterMap fun p => f p.2 p.1

theorem take_succ' {α : Type} (l : List α) (k : Nat) (h : k < l.length) : l.take (k + 1) = l.take k ++ [l[k]] := by
  rw [List.take_succ_eq_append_getElem h]

theorem sel_take_succ {α β : Type} (f : Nat → α → Option β) (l : List α) (k : Nat) (h : k < l.length) :
    sel f (l.take (k + 1)) = sel f (l.take k) ++ (f k l[k]).toList := by
  unfold sel
  rw [take_succ' l k h, List.zipIdx_append, List.filterMap_append]
  congr 1
  have : 0 + (l.take k).length = k := by simp; omega
  simp only [List.zipIdx_cons, List.zipIdx_nil, this]
  cases hf : f k l[k] <;> simp [hf]

theorem sel_length_le {α β : Type} (f : Nat → α → Option β) (l : List α) : (sel f l).length ≤ l.length := by
  unfold sel
  exact Nat.le_trans (List.length_filterMap_le _ _) (by simp)

theorem sel_all {α β : Type} (f : Nat → α → Option β) (l : List α) : sel f (l.take l.length) = sel f l := by rw [List.take_length]

theorem sel_nil {α β : Type} (f : Nat → α → Option β) : sel f ([] : List α) = [] := rfl

theorem sel_some_at {α β : Type} (g : α → β) (l : List α) : ∀ n, (l.zipIdx n).filterMap (fun p => some (g p.1)) = l.map g := by
  induction l with
  | nil => intro n; rfl
  | cons x l ih => intro n; simp [ih (n + 1)]
theorem sel_some {α β : Type} (g : α → β) (l : List α) : sel (fun _ x => some (g x)) l = l.map g := sel_some_at g l 0

theorem ne_nil_of_lt {α : Type} {l : List α} {k : Nat} (h : k < l.length) : l ≠ [] := by
  intro e; rw [e] at h; simp at h

theorem map_take_succ {α β : Type} (f : α → β) (l : List α) (k : Nat) (h : k < l.length) : (l.take (k + 1)).map f = (l.take k).map f ++ [f l[k]] := by
  rw [take_succ' l k h, List.map_append]; rfl

end Go.Proofs.YtlpnicfbgdfbnaaDoor

/- The rook numbers as rooks.numbers reckons them: plain lists. -/
namespace Go.Proofs.YtlpnicfbgdfbnaaDoor

theorem getD_at {l : List Nat} {i : Nat} (h : i < l.length) : l.getD i 0 = l[i] := by simp [List.getD, List.getElem?_eq_getElem h]
theorem getD_out {l : List Nat} {i : Nat} (h : l.length ≤ i) : l.getD i 0 = 0 := by simp [List.getD, List.getElem?_eq_none h]

/-- One list added to another, from the front. -/
def addZ : List Nat → List Nat → List Nat
  | [], _ => []
  | o :: os, [] => o :: os
  | o :: os, z :: zs => (o + z) :: addZ os zs
/-- The same, one place further. -/
def addSh : List Nat → List Nat → List Nat
  | [], _ => []
  | o :: os, zs => o :: addZ os zs

theorem addZ_nil (os : List Nat) : addZ os [] = os := by cases os <;> rfl
theorem addSh_nil (os : List Nat) : addSh os [] = os := by cases os <;> simp [addSh, addZ_nil]
theorem addZ_length : ∀ os zs : List Nat, (addZ os zs).length = os.length
  | [], _ => rfl
  | _ :: _, [] => rfl
  | o :: os, z :: zs => by simp [addZ, addZ_length os zs]
theorem addSh_length (os zs : List Nat) : (addSh os zs).length = os.length := by cases os <;> simp [addSh, addZ_length]

theorem addZ_getD : ∀ (os zs : List Nat) (i : Nat), i < os.length → (addZ os zs).getD i 0 = os.getD i 0 + zs.getD i 0
  | [], _, i, h => by simp at h
  | o :: os, [], i, h => by simp [addZ]
  | o :: os, z :: zs, 0, h => by simp [addZ]
  | o :: os, z :: zs, i + 1, h => by
    have := addZ_getD os zs i (by simpa using h)
    simpa [addZ] using this
theorem addSh_getD_zero (os zs : List Nat) : (addSh os zs).getD 0 0 = os.getD 0 0 := by cases os <;> rfl
theorem addSh_getD_succ (os zs : List Nat) (i : Nat) (h : i + 1 < os.length) : (addSh os zs).getD (i + 1) 0 = os.getD (i + 1) 0 + zs.getD i 0 := by
  cases os with
  | nil => simp at h
  | cons o os =>
    have := addZ_getD os zs i (by simpa using h)
    simpa [addSh] using this

theorem getD_ext {a b : List Nat} (hl : a.length = b.length) (h : ∀ i, i < a.length → a.getD i 0 = b.getD i 0) : a = b := by
  refine List.ext_getElem hl fun i h1 h2 => ?_
  have := h i h1
  rwa [getD_at h1, getD_at h2] at this

theorem addSh_take_succ (os zs : List Nat) (k : Nat) (hk : k < zs.length) (h : k + 1 < os.length) :
    addSh os (zs.take (k + 1)) = (addSh os (zs.take k)).set (k + 1) ((addSh os (zs.take k)).getD (k + 1) 0 + zs[k]) := by
  refine getD_ext (by simp [addSh_length]) fun i hi => ?_
  rw [addSh_length] at hi
  have hd (n : Nat) (j : Nat) : (zs.take n).getD j 0 = if j < n then zs.getD j 0 else 0 := by
    simp only [List.getD, List.getElem?_take]
    split <;> rfl
  have hset : ∀ (l : List Nat) (v : Nat), i < l.length → (l.set (k + 1) v).getD i 0 = if k + 1 = i then v else l.getD i 0 := by
    intro l v hl
    simp only [List.getD, List.getElem?_set]
    split
    · rename_i he; subst he; simp [hl]
    · rfl
  rw [hset _ _ (by rw [addSh_length]; exact hi)]
  cases i with
  | zero => rw [if_neg (by omega), addSh_getD_zero, addSh_getD_zero]
  | succ i =>
    by_cases hik : k = i
    · subst hik
      rw [if_pos rfl, addSh_getD_succ _ _ k h, addSh_getD_succ _ _ k h, hd, hd, if_pos (by omega), if_neg (by omega), getD_at hk]
      omega
    · rw [if_neg (by omega), addSh_getD_succ _ _ i hi, addSh_getD_succ _ _ i hi, hd, hd]
      by_cases h1 : i < k
      · rw [if_pos (by omega), if_pos h1]
      · rw [if_neg (by omega), if_neg h1]

theorem le_addSh (os zs : List Nat) (i : Nat) : os.getD i 0 ≤ (addSh os zs).getD i 0 := by
  by_cases h : i < os.length
  · cases i with
    | zero => rw [addSh_getD_zero]; exact Nat.le_refl _
    | succ i => rw [addSh_getD_succ _ _ _ h]; omega
  · rw [getD_out (by omega)]; omega
theorem addSh_take_le (os zs : List Nat) (k i : Nat) : (addSh os (zs.take k)).getD i 0 ≤ (addSh os zs).getD i 0 := by
  by_cases h : i < os.length
  · cases i with
    | zero => rw [addSh_getD_zero, addSh_getD_zero]; exact Nat.le_refl _
    | succ i =>
      rw [addSh_getD_succ _ _ _ h, addSh_getD_succ _ _ _ h]
      have : (zs.take k).getD i 0 ≤ zs.getD i 0 := by
        simp only [List.getD, List.getElem?_take]
        split
        · exact Nat.le_refl _
        · simp
      omega
  · rw [getD_out (by rw [addSh_length]; omega)]; omega

theorem foldl_addSh_length {α : Type} (f : α → List Nat) : ∀ (l : List α) (cur : List Nat), (l.foldl (fun out j => addSh out (f j)) cur).length = cur.length
  | [], _ => rfl
  | x :: l, cur => by rw [List.foldl_cons, foldl_addSh_length f l, addSh_length]
theorem le_foldl_addSh {α : Type} (f : α → List Nat) (i : Nat) : ∀ (l : List α) (cur : List Nat), cur.getD i 0 ≤ (l.foldl (fun out j => addSh out (f j)) cur).getD i 0
  | [], _ => Nat.le_refl _
  | x :: l, cur => Nat.le_trans (le_addSh cur (f x) i) (by rw [List.foldl_cons]; exact le_foldl_addSh f i l _)

/-- The columns of r that are not used. -/
def diffS (r u : Nat) : Nat := r ^^^ (r &&& u)
/-- The elements of a set of numbers below 8, rising. -/
def elems (s : Nat) : List Nat := (List.range 8).filter (s.testBit ·)
theorem elems_zero : elems 0 = [] := by decide
theorem elems_lt {s j : Nat} (h : j ∈ elems s) : j < 8 := by
  unfold elems at h; simp at h; exact h.1

/-- The rook numbers of some rows where some columns are used. -/
def numL : List Nat → Nat → List Nat
  | [], _ => [1]
  | r :: rs, used => (elems (diffS r used)).foldl (fun out j => addSh out (numL rs (used ||| 2 ^ j))) (numL rs used ++ [0])

theorem numL_length : ∀ (rs : List Nat) (used : Nat), (numL rs used).length = rs.length + 1
  | [], _ => rfl
  | r :: rs, used => by rw [numL, foldl_addSh_length]; simp [numL_length rs used]

theorem elems_length (s : Nat) : (elems s).length ≤ 8 := Nat.le_trans (List.length_filter_le _ _) (by simp)

theorem foldl_addSh_le {α : Type} (f : α → List Nat) (M : Nat) (hf : ∀ x i, (f x).getD i 0 ≤ M) (i : Nat) : ∀ (l : List α) (cur : List Nat),
    (l.foldl (fun out j => addSh out (f j)) cur).getD i 0 ≤ cur.getD i 0 + l.length * M
  | [], cur => by simp
  | x :: l, cur => by
    rw [List.foldl_cons]
    refine Nat.le_trans (foldl_addSh_le f M hf i l _) ?_
    have h1 : (addSh cur (f x)).getD i 0 ≤ cur.getD i 0 + M := by
      by_cases h : i < cur.length
      · cases i with
        | zero => rw [addSh_getD_zero]; omega
        | succ i => rw [addSh_getD_succ _ _ _ h]; have := hf x i; omega
      · rw [getD_out (by rw [addSh_length]; omega)]; omega
    rw [List.length_cons, Nat.succ_mul]
    omega

theorem numL_le : ∀ (rs : List Nat) (used i : Nat), (numL rs used).getD i 0 ≤ 9 ^ rs.length
  | [], used, i => by
    cases i <;> simp [numL]
  | r :: rs, used, i => by
    rw [numL]
    refine Nat.le_trans (foldl_addSh_le _ (9 ^ rs.length) (fun j i => numL_le rs _ i) i _ _) ?_
    have h1 : (numL rs used ++ [0]).getD i 0 ≤ 9 ^ rs.length := by
      by_cases h : i < (numL rs used).length
      · have : (numL rs used ++ [0]).getD i 0 = (numL rs used).getD i 0 := by
          simp only [List.getD]; rw [List.getElem?_append_left h]
        rw [this]; exact numL_le rs used i
      · have : (numL rs used ++ [0]).getD i 0 = 0 := by
          simp only [List.getD]
          rw [List.getElem?_append_right (by omega)]
          cases hh : i - (numL rs used).length <;> simp
        rw [this]; exact Nat.zero_le _
    have h2 := elems_length (diffS r used)
    have h3 : (elems (diffS r used)).length * 9 ^ rs.length ≤ 8 * 9 ^ rs.length := Nat.mul_le_mul_right _ h2
    rw [List.length_cons, Nat.pow_succ]
    omega

theorem numL_lt (rs : List Nat) (used i : Nat) (h : rs.length ≤ 6) : (numL rs used).getD i 0 ≤ 531441 :=
  Nat.le_trans (numL_le rs used i) (Nat.pow_le_pow_right (by decide) h)

end Go.Proofs.YtlpnicfbgdfbnaaDoor

/- The law of a range over columns for the plain walk; functions that hold such a loop. -/
namespace Go.Proofs.YtlpnicfbgdfbnaaDoor
open Go.RowKit Go.Shelf

/-- A function whose body holds a range over a function. -/
theorem calls_marks {f : FuncId} {fn : Func} {c : Code} {args : Array Value} {w : World} {R : Ending → World → Prop} (hf : Tryd.prog.funcs[f]? = some fn) (hb : fn.body = some c)
    (h : c.wp Tryd.prog (bodyPostM Fence.wide 9 Tryd.prog fn R) { tmps := args ++ Array.replicate (fn.ntmps - args.size) undef, defers := [] } w) : Calls Tryd.prog f args w R :=
  callsIn_wide.1 (callsIn_of_wp_marks hf hb trivial (wpIn_wide.2 h) rfl)

/-- It returns with no mark among its deferred calls. -/
theorem leaves_none {fn : Func} {tmps : Array Value} {R : Ending → World → Prop} {w : World} {v : Value} (hr : (results fn tmps).run Tryd.prog w = .ok v w) (hR : R (.returned v) w) :
    LeavesInM Fence.wide 9 Tryd.prog fn tmps R [] .returning w := by
  exact ⟨v, hr, hR⟩

/-- It returns with one mark: the block for the rounds' deferred calls is turned once more. -/
theorem leaves_one {fn : Func} {tmps : Array Value} {R : Ending → World → Prop} {w : World} {D : Nat} {v : Value} (hK : w.heap[D]? = some (.deferred (some [])))
    (hr : (results fn tmps).run Tryd.prog (w.putObj D (.deferred none)) = .ok v (w.putObj D (.deferred none))) (hR : R (.returned v) (w.putObj D (.deferred none))) :
    LeavesInM Fence.wide 9 Tryd.prog fn tmps R [{ target := .collected D, args := #[] }] .returning w := by
  refine ⟨by simp, .inl ⟨_, _, rfl, run_takeDeferred hK, ?_⟩⟩
  exact ⟨v, hr, hR⟩

theorem wp_cols {g : Operand} {p : Tmp} {assign body : Code} {Q : Exit → Act → World → Prop} {a : Act} {w : World} (B s0 : Nat)
    (hg : a.eval g = .func (.func 72) #[] #[.pointer (some ⟨B, 0, none⟩)]) (hbx : BoxN w B s0) (hs0 : s0 < 256)
    (I : Nat → World → Prop) (Ix : Code → World → Prop) (hT : ∀ s W, I s W → Tab W)
    (hI : ∀ s W W', I s W → LoopExt w.heap.size B W W' → I s W') (hIx : ∀ c W W', Ix c W → LoopExt w.heap.size B W W' → Ix c W') (h0 : I s0 w) (a₁ : Nat → Act)
    (hassign : ∀ (l s : Nat) (W : World) (K : Act → World → Prop), K (a₁ (tz s)) W →
      assign.wpIn (Fence.wide.inRound l) 7 Tryd.prog (Exit.then K (fun _ _ _ => False)) { tmps := a.tmps.setIfInBounds p (.int .i64 (tz s : Nat)), defers := [] } W)
    (hbody : ∀ (l s : Nat) (W : World), s < 256 → 0 < s → w.heap.size ≤ l → I s W → BoxN W B s →
      body.wpIn (Fence.wide.inRound l) 7 Tryd.prog (colPost w.heap.size B I Ix s W) (a₁ (tz s)) W)
    (hdone : ∀ (D : Nat) (W : World), w.heap.size ≤ D → I 0 W → W.heap[D]? = some (.deferred (some [])) → Q .normal { a with defers := { target := .collected D, args := #[] } :: a.defers } W)
    (hstop : ∀ (D : Nat) (c : Code) (W : World), w.heap.size ≤ D → Ix c W → W.heap[D]? = some (.deferred (some [])) → c.wp Tryd.prog Q { a with defers := { target := .collected D, args := #[] } :: a.defers } W) :
    (Code.rangeFunc g #[p] assign body).wp Tryd.prog Q a w :=
  wpIn_wide.1 (wpIn_cols (n := 9) (by omega) B s0 hg hbx hs0 I Ix hT hI hIx h0 a₁ hassign hbody hdone (fun D c W h1 h2 h3 => wpIn_wide.2 (hstop D c W h1 h2 h3)))


attribute [local go_sem] Oper.semAt_some in
theorem assign_in {l n : Nat} {P : Program} {id : Nat} {p q : Tmp} {ty : TypeId} {pos : String} {K : Act → World → Prop} {tmps : Array Value} {v : Value} {W : World} (hp : tmps.getD p undef = v) (hK : K { tmps := tmps.setIfInBounds q v, defers := [] } W) :
    (Code.region id #[{ dst := some q, op := Op.assign (Operand.tmp p), type := ty, pos := pos, after := #[], guard := none }] false).wpIn (Fence.wide.inRound l) n P (Exit.then K (fun _ _ _ => False)) { tmps := tmps, defers := [] } W := by
  gi_wp2
  exact hK

/-- The law, for a loop with one variable. -/
theorem wp_cols1 {g : Operand} {p q : Tmp} {id : Nat} {ty : TypeId} {pos : String} {body : Code} {Q : Exit → Act → World → Prop} {a : Act} {w : World} (B s0 : Nat)
    (hg : a.eval g = .func (.func 72) #[] #[.pointer (some ⟨B, 0, none⟩)]) (hbx : BoxN w B s0) (hs0 : s0 < 256) (hp : p < a.tmps.size)
    (I : Nat → World → Prop) (Ix : Code → World → Prop) (hT : ∀ s W, I s W → Tab W)
    (hI : ∀ s W W', I s W → LoopExt w.heap.size B W W' → I s W') (hIx : ∀ c W W', Ix c W → LoopExt w.heap.size B W W' → Ix c W') (h0 : I s0 w)
    (hbody : ∀ (l s : Nat) (W : World), s < 256 → 0 < s → w.heap.size ≤ l → I s W → BoxN W B s →
      body.wpIn (Fence.wide.inRound l) 7 Tryd.prog (colPost w.heap.size B I Ix s W) { tmps := (a.tmps.setIfInBounds p (.int .i64 (tz s : Nat))).setIfInBounds q (.int .i64 (tz s : Nat)), defers := [] } W)
    (hdone : ∀ (D : Nat) (W : World), w.heap.size ≤ D → I 0 W → W.heap[D]? = some (.deferred (some [])) → Q .normal { a with defers := { target := .collected D, args := #[] } :: a.defers } W)
    (hstop : ∀ (D : Nat) (c : Code) (W : World), w.heap.size ≤ D → Ix c W → W.heap[D]? = some (.deferred (some [])) → c.wp Tryd.prog Q { a with defers := { target := .collected D, args := #[] } :: a.defers } W) :
    (Code.rangeFunc g #[p] (Code.region id #[{ dst := some q, op := Op.assign (Operand.tmp p), type := ty, pos := pos, after := #[], guard := none }] false) body).wp Tryd.prog Q a w :=
  wp_cols B s0 hg hbx hs0 I Ix hT hI hIx h0 (fun j => { tmps := (a.tmps.setIfInBounds p (.int .i64 (j : Nat))).setIfInBounds q (.int .i64 (j : Nat)), defers := [] })
    (fun _ _ _ _ hK => assign_in (by simp [Array.getD, hp]) hK) hbody hdone hstop

theorem own_ext {e : TypeId} {B n0 Bx : Nat} {w w' : World} {v : Value} {xs : List Int} (h : OwnI e B w v xs) (hx : LoopExt n0 Bx w w') (hne : ∀ k, v.ownBlock = some k → k ≠ Bx) : OwnI e B w' v xs := by
  refine ⟨h.1, ?_⟩
  rcases h.2 with h2 | ⟨g, cap, cur, rfl, hg, hh, r⟩
  · exact .inl h2
  · exact .inr ⟨g, cap, cur, rfl, hg, hx.block g _ hh (hne g rfl) (.inr rfl), r⟩
theorem boxed_ext {n0 Bx b : Nat} {t : TypeId} {w w' : World} {v : Value} (h : Boxed w b t v) (hx : LoopExt n0 Bx w w') (hne : b ≠ Bx) : Boxed w' b t v := hx.block b _ h hne (.inr rfl)
theorem below_ext {m n0 Bx : Nat} {w0 w w' : World} (h : Below m w0 w) (hm : m ≤ w0.heap.size) (hx : LoopExt n0 Bx w w') (h1 : m ≤ n0) (h2 : m ≤ Bx) : Below m w0 w' := by
  refine h.trans ⟨hx.os, hx.tape, hx.output, hx.size, fun k hk => ?_⟩
  have hlt : k < w.heap.size := by have := h.size; omega
  have hs : w.heap[k]? = some w.heap[k] := Array.getElem?_eq_getElem hlt
  rw [hs]
  exact hx.block k _ hs (by omega) (.inl (by omega))

theorem elems_step : ∀ s : Nat, s < 256 → 0 < s → elems s = tz s :: elems (nextS s) := by decide +kernel
theorem tz_mem {s : Nat} (hs : s < 256) (h : 0 < s) : tz s ∈ elems s := by rw [elems_step s hs h]; exact List.mem_cons_self
end Go.Proofs.YtlpnicfbgdfbnaaDoor

/- Bits of ints from 0 to 2^63 - 1. -/
namespace Go.Proofs.YtlpnicfbgdfbnaaDoor
open Go.RowKit

theorem i64_wrap_nat (a : Nat) (h : a < 9223372036854775808) : IntKind.i64.wrap (a : Int) = a := by
  simp [IntKind.wrap, IntKind.bits, IntKind.signed]; omega
theorem i64_and (a b : Nat) (ha : a < 9223372036854775808) (hb : b < 9223372036854775808) : bits .and .i64 (a : Int) (b : Int) = ((a &&& b : Nat) : Int) := by
  have hx : a &&& b < 2 ^ 63 := Nat.and_lt_two_pow _ (by omega)
  show IntKind.i64.wrap ((BitVec.ofInt 64 (a : Int) &&& BitVec.ofInt 64 (b : Int)).toNat : Int) = _
  rw [BitVec.toNat_and, ofInt_u64 a (by omega), ofInt_u64 b (by omega), i64_wrap_nat _ (by omega)]
theorem i64_or (a b : Nat) (ha : a < 9223372036854775808) (hb : b < 9223372036854775808) : bits .or .i64 (a : Int) (b : Int) = ((a ||| b : Nat) : Int) := by
  have hx : a ||| b < 2 ^ 63 := Nat.or_lt_two_pow (by omega) (by omega)
  show IntKind.i64.wrap ((BitVec.ofInt 64 (a : Int) ||| BitVec.ofInt 64 (b : Int)).toNat : Int) = _
  rw [BitVec.toNat_or, ofInt_u64 a (by omega), ofInt_u64 b (by omega), i64_wrap_nat _ (by omega)]
theorem i64_xor (a b : Nat) (ha : a < 9223372036854775808) (hb : b < 9223372036854775808) : bits .xor .i64 (a : Int) (b : Int) = ((a ^^^ b : Nat) : Int) := by
  have hx : a ^^^ b < 2 ^ 63 := Nat.xor_lt_two_pow (by omega) (by omega)
  show IntKind.i64.wrap ((BitVec.ofInt 64 (a : Int) ^^^ BitVec.ofInt 64 (b : Int)).toNat : Int) = _
  rw [BitVec.toNat_xor, ofInt_u64 a (by omega), ofInt_u64 b (by omega), i64_wrap_nat _ (by omega)]
theorem nat_andNot (a b n : Nat) (ha : a < 2 ^ n) (hb : b < 2 ^ n) : a &&& (2 ^ n - 1 - b) = a ^^^ (a &&& b) := by
  refine Nat.eq_of_testBit_eq fun i => ?_
  have e : 2 ^ n - 1 - b = 2 ^ n - (b + 1) := by omega
  rw [Nat.testBit_and, e, Nat.testBit_two_pow_sub_succ hb, Nat.testBit_xor, Nat.testBit_and]
  by_cases hi : i < n
  · simp [hi]; cases a.testBit i <;> cases b.testBit i <;> rfl
  · have : a.testBit i = false := Nat.testBit_lt_two_pow (Nat.lt_of_lt_of_le ha (Nat.pow_le_pow_right (by decide) (by omega)))
    simp [this]
theorem i64_andNot (a b : Nat) (ha : a < 9223372036854775808) (hb : b < 9223372036854775808) : bits .andNot .i64 (a : Int) (b : Int) = ((a ^^^ (a &&& b) : Nat) : Int) := by
  have hx : a &&& (2 ^ 64 - 1 - b) < 2 ^ 63 := Nat.lt_of_le_of_lt Nat.and_le_left (by omega)
  show IntKind.i64.wrap ((BitVec.ofInt 64 (a : Int) &&& ~~~BitVec.ofInt 64 (b : Int)).toNat : Int) = _
  rw [BitVec.toNat_and, BitVec.toNat_not, ofInt_u64 a (by omega), ofInt_u64 b (by omega), i64_wrap_nat _ (by omega), nat_andNot a b 64 (by omega) (by omega)]
end Go.Proofs.YtlpnicfbgdfbnaaDoor

/- Worlds: boxes, owned rows and what lay before, over allocs, calls, appends and stores. -/
namespace Go.Proofs.YtlpnicfbgdfbnaaDoor
open Go.RowKit

section
variable {e t : TypeId} {B b : Nat} {w w' : World} {v u : Value} {xs : List Int}

theorem below_alloc {a w : World} (h : Below a.heap.size a w) (o : Obj) : Below a.heap.size a (w.alloc o) := h.alloc h.size o
theorem boxed_below (h : Boxed w b t v) (hb : Below w.heap.size w w') : Boxed w' b t v := (hb.block b h.lt).trans h
theorem boxed_below_of {n : Nat} (h : Boxed w b t v) (hb : Below n w w') (hn : b < n) : Boxed w' b t v := (hb.block b hn).trans h
theorem boxed_app (h : Boxed w b t u) (hown : OwnI e B w v xs) (hte : t ≠ e) (hg : w.grownBy w' v.ownBlock) : Boxed w' b t u := h.kept hg (h.not_row hte hown)
theorem boxed_other {b' : Nat} (h : Boxed w b t v) (hne : b ≠ b') (u : Value) : Boxed (w.setCell ⟨b', 0, none⟩ u) b t v := h.kept (grownBy_setCell' w b' u) (fun e => hne (by cases e; rfl))
theorem own_setBox (h : OwnI e B w v xs) (hb : Boxed w b t u) (hte : t ≠ e) (u' : Value) : OwnI e B (w.setCell ⟨b, 0, none⟩ u') v xs :=
  World.ownsRow.kept h (grownBy_setCell' w b u') (.inr (fun e' => hb.not_row hte h e'.symm))
theorem own_putObj {l : Nat} {o : Obj} (h : OwnI e B w v xs) (o' : Obj) (hl : w.heap[l]? = some o) (ho : o.isCells = false) : OwnI e B (w.putObj l o') v xs := ownsRow_putObj h o' hl ho

/-- A row of the call's own that is not empty. -/
theorem OwnI.row {k : Nat} {L : List Nat} (h : OwnI e B w v (toI L)) (hl : L.length = k + 1) : ∃ g cap, v = .slice (some ⟨g, 0, none⟩) (k + 1) cap := by
  have h' : w.ownsRow B e 1 v (k + 1) ((toI L).map (Value.int .i64)) := by
    have := h
    unfold OwnI at this
    rwa [toI_length, hl] at this
  exact ownsRow_succ h'
theorem OwnI.cellN {g n cap : Nat} {L : List Nat} (h : OwnI e B w (.slice (some ⟨g, 0, none⟩) n cap) (toI L)) (j : Nat) (hj : j < L.length) : w.cell? ⟨g, j, none⟩ = some (.int .i64 ((L[j] : Nat) : Int)) := by
  obtain ⟨h1, h2⟩ := h
  rcases h2 with ⟨h2, _⟩ | ⟨g', cap', cur, h2, hg, hh, r⟩
  · cases h2
  · obtain ⟨e1, rfl, rfl⟩ := Value.slice.inj h2
    obtain rfl : g = g' := by simpa using e1
    have hown : w.ownsRow B e 1 (.slice (some ⟨g, 0, none⟩) (toI L).length cap) (toI L).length ((toI L).map (Value.int .i64)) := ⟨h1, .inr ⟨g, cap, cur, rfl, hg, hh, r⟩⟩
    rw [World.ownsRow.cellAt hown j (by rw [toI_length]; omega)]
    have hj' : j < (toI L).length := by rw [toI_length]; exact hj
    simp [List.getElem?_eq_getElem hj, toI]
theorem OwnI.frozenN {g n cap : Nat} {xs : List Int} (h : OwnI e B w (.slice (some ⟨g, 0, none⟩) n cap) xs) (j : Nat) : w.frozen? ⟨g, j, none⟩ = false := by
  obtain ⟨h1, h2⟩ := h
  rcases h2 with ⟨h2, _⟩ | ⟨g', cap', cur, h2, hg, hh, r⟩
  · cases h2
  · obtain ⟨e1, rfl, rfl⟩ := Value.slice.inj h2
    obtain rfl : g = g' := by simpa using e1
    have hown : w.ownsRow B e 1 (.slice (some ⟨g, 0, none⟩) xs.length cap) xs.length (xs.map (Value.int .i64)) := ⟨h1, .inr ⟨g, cap, cur, rfl, hg, hh, r⟩⟩
    exact World.ownsRow.frozenAt hown j
theorem OwnI.storedN {g n cap : Nat} {L : List Nat} (h : OwnI e B w (.slice (some ⟨g, 0, none⟩) n cap) (toI L)) (j x : Nat) : OwnI e B (w.setCell ⟨g, j, none⟩ (.int .i64 (x : Int))) (.slice (some ⟨g, 0, none⟩) n cap) (toI (L.set j x)) := by
  obtain ⟨h1, h2⟩ := h
  rcases h2 with ⟨h2, _⟩ | ⟨g', cap', cur, h2, hg, hh, r⟩
  · cases h2
  · obtain ⟨e1, rfl, rfl⟩ := Value.slice.inj h2
    obtain rfl : g = g' := by simpa using e1
    have hown : w.ownsRow B e 1 (.slice (some ⟨g, 0, none⟩) (toI L).length cap) (toI L).length ((toI L).map (Value.int .i64)) := ⟨h1, .inr ⟨g, cap, cur, rfl, hg, hh, r⟩⟩
    have := World.ownsRow.stored hown j (.int .i64 (x : Int))
    unfold OwnI
    have e1 : (toI (L.set j x)).length = (toI L).length := by simp [toI]
    have e2 : (toI (L.set j x)).map (Value.int .i64) = ((toI L).map (Value.int .i64)).set j (.int .i64 (x : Int)) := by simp [toI, List.map_set]
    rw [e1, e2]
    exact this.1
theorem OwnI.blockEq {g n cap : Nat} {xs : List Int} (h : OwnI e B w (.slice (some ⟨g, 0, none⟩) n cap) xs) : B ≤ g ∧ g < w.heap.size := h.lt g rfl
end
end Go.Proofs.YtlpnicfbgdfbnaaDoor
