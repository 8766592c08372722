/- math/bits.TrailingZeros at numbers below 16; the shortest of a coset, plain. -/
import Derived.Test.YtmlhecfhhhebnaaDoorTq
import Derived.Deep.QuietTactic
import Derived.BigQuiet
namespace Go.Proofs.YtmlhecfhhhebnaaDoor
open Go.RowKit

def tzTab : List Nat := [0, 1, 56, 2, 57, 49, 28, 3, 61, 58, 42, 50, 38, 29, 17, 4, 62, 47, 59, 36, 45, 43, 51, 22, 53, 39, 33, 30, 24, 18, 12, 5, 63, 55, 48, 27, 60, 41, 37, 16, 46, 35, 44, 21, 52, 32, 23, 11, 54, 26, 40, 15, 34, 20, 31, 10, 25, 14, 19, 9, 13, 8, 7, 6]
/-- The table of math/bits.TrailingZeros64 lies in the world. -/
def Tab (w : World) : Prop := ∀ i : Nat, i < 64 → w.cell? ⟨1, i, none⟩ = some (.int .u8 ((tzTab.getD i 0 : Nat) : Int))
theorem Tab.lt {w : World} (h : Tab w) : 1 < w.heap.size := World.block_lt_of_cell? w _ (h 0 (by omega))
theorem Tab.below {w w' : World} (h : Tab w) (hb : Below w.heap.size w w') : Tab w' := fun i hi => (hb.cell (p := ⟨1, i, none⟩) h.lt).trans (h i hi)
/-- The first letter of a set of four. -/
def lowb (x : Nat) : Nat := if x.testBit 0 then 0 else if x.testBit 1 then 1 else if x.testBit 2 then 2 else 3
def tzAt (x : Nat) : Nat := ((x &&& (18446744073709551616 - x)) * 285870213051353865 % 18446744073709551616) / 288230376151711744
theorem tzAt_w : ∀ x : Nat, x < 16 → IntKind.u64.wrap (bits BinOp.and IntKind.u64 (x : Int) (IntKind.u64.wrap (-(x : Int))) * 285870213051353865) / 288230376151711744 = ((tzAt x : Nat) : Int) := by decide +kernel
theorem tzAt_lt : ∀ x : Nat, x < 16 → tzAt x < 64 := by decide +kernel
theorem tzAt_tab : ∀ x : Nat, x < 16 → 0 < x → tzTab.getD (tzAt x) 0 = lowb x := by decide +kernel
theorem lowb_lt : ∀ x : Nat, x < 16 → 0 < x → lowb x < 4 := by decide +kernel

set_option maxHeartbeats 400000 in
theorem tz64_core (x t z : Nat) (w : World) (h0 : 0 < x) (hw : IntKind.u64.wrap (bits BinOp.and IntKind.u64 (x : Int) (IntKind.u64.wrap (-(x : Int))) * 285870213051353865) / 288230376151711744 = (t : Int))
    (hl : (t : Int) < 64) (hz : (z : Int) < 8) (hc : w.cell? ⟨1, t, none⟩ = some (.int .u8 (z : Int))) :
    Calls Tryd.prog 39 #[.int .u64 x] w fun e w' => e = .returned (.int .i64 z) ∧ w = w' := by
  go_enter Tryd.func39, Tryd.ntmps39
  go_wp2
  go_ret
  exact ⟨rfl, rfl⟩
theorem tz64_any (x : Nat) (w : World) (hx : x < 16) (h0 : 0 < x) (ht : Tab w) :
    Calls Tryd.prog 39 #[.int .u64 x] w fun e w' => e = .returned (.int .i64 (lowb x : Nat)) ∧ w = w' :=
  tz64_core x (tzAt x) (lowb x) w h0 (tzAt_w x hx) (by have := tzAt_lt x hx; omega) (by have := lowb_lt x hx h0; omega) (by rw [ht _ (tzAt_lt x hx), tzAt_tab x hx h0])
set_option maxHeartbeats 400000 in
theorem tzeros_any (x : Nat) (w : World) (hx : x < 16) (h0 : 0 < x) (ht : Tab w) :
    Calls Tryd.prog 24 #[.int .u64 x] w fun e w' => e = .returned (.int .i64 (lowb x : Nat)) ∧ w = w' := by
  have HT := Lib.hid ht; clear ht
  go_enter Tryd.func24, Tryd.ntmps24
  go_wp2_with (go_at_call 39; refine (tz64_any x _ hx h0 HT.out).mono ?_; rintro e w' ⟨rfl, rfl⟩)
  go_ret
  exact ⟨rfl, rfl⟩

/-! ### the shortest element of a coset -/
def lowS (W X : List (List Nat)) (m M u : Nat) : Option Nat := (List.range m).find? fun s => M.testBit s && fallB W X u s
def cosX (W X : List (List Nat)) (m M : Nat) : Nat → Nat → Nat
  | 0, u => u
  | f + 1, u => match lowS W X m M u with
    | none => u
    | some s => cosX W X m M f (stepX X u s)
theorem lowS_some {W X : List (List Nat)} {m M u s : Nat} (hs : s < m) (h : (M.testBit s && fallB W X u s) = true) (hb : ∀ j, j < s → (M.testBit j && fallB W X u j) = false) : lowS W X m M u = some s := by
  unfold lowS
  rw [List.find?_eq_some_iff_getElem]
  refine ⟨h, s, by simpa using hs, by simp, fun j hj => ?_⟩
  rw [List.getElem_range, hb j hj]
  rfl
theorem lowS_none {W X : List (List Nat)} {m M u : Nat} (hb : ∀ j, j < m → (M.testBit j && fallB W X u j) = false) : lowS W X m M u = none := by
  unfold lowS
  rw [List.find?_eq_none]
  intro j hj
  rw [hb j (List.mem_range.1 hj)]
  decide
theorem cos_stop {W X : List (List Nat)} {m M u : Nat} (h : lowS W X m M u = none) : ∀ f, cosX W X m M f u = u
  | 0 => rfl
  | f + 1 => by rw [cosX, h]
theorem cos_go {W X : List (List Nat)} {m M u s : Nat} (h : lowS W X m M u = some s) (f : Nat) : cosX W X m M (f + 1) u = cosX W X m M f (stepX X u s) := by rw [cosX, h]
def cosG (K n M u : Nat) : Nat := cosX (wordsG K n) (nextG K n) (mirs K n) M 12 u

theorem and_wM : ∀ f : Nat, f < 16 → ∀ s : Nat, s < 16 → bits BinOp.and IntKind.i64 (f : Int) (s : Int) = ((f &&& s : Nat) : Int) := by decide +kernel
theorem and_16 : ∀ f : Nat, f < 16 → ∀ s : Nat, s < 16 → f &&& s < 16 := by decide +kernel
theorem low_bit : ∀ g : Nat, g < 16 → 0 < g → g.testBit (lowb g) = true ∧ ∀ j, j < 4 → j < lowb g → g.testBit j = false := by decide +kernel
theorem falls_bit (W X : List (List Nat)) (u s : Nat) : ∀ k, s < k → (fallsTo W X u k).testBit s = fallB W X u s
  | 0, h => by omega
  | k + 1, h => by
    have hlt := fallsTo_lt W X u k
    rw [fallsTo]
    by_cases e : s = k
    · subst e
      have h0 : (fallsTo W X u s).testBit s = false := Nat.testBit_lt_two_pow hlt
      cases hf : fallB W X u s with
      | true => rw [if_pos rfl, Nat.testBit_or, h0, Nat.testBit_two_pow_self]; rfl
      | false => rw [if_neg (by decide), h0]
    · have ih := falls_bit W X u s k (by omega)
      split
      · rw [Nat.testBit_or, ih, Nat.testBit_two_pow]
        have : ¬ k = s := fun h => e h.symm
        simp [this]
      · exact ih
/-- The set of the falls that are in M: its first letter is the first of them. -/
theorem falls_low {W X : List (List Nat)} {m M u : Nat} (hm : m ≤ 4) (hM : M < 16) (hg : 0 < fallsTo W X u m &&& M) : lowb (fallsTo W X u m &&& M) < m ∧ lowS W X m M u = some (lowb (fallsTo W X u m &&& M)) ∧ fallB W X u (lowb (fallsTo W X u m &&& M)) = true := by
  have h16 := and_16 _ (fallsTo_16 W X u m hm) M hM
  obtain ⟨b1, b2⟩ := low_bit _ h16 hg
  have h4 := lowb_lt _ h16 hg
  obtain ⟨s, hs⟩ : ∃ s, lowb (fallsTo W X u m &&& M) = s := ⟨_, rfl⟩
  rw [hs] at b1 b2 h4 ⊢
  rw [Nat.testBit_and, Bool.and_eq_true] at b1
  have hsm : s < m := by
    refine Nat.lt_of_not_le fun hge => ?_
    have := Nat.testBit_lt_two_pow (Nat.lt_of_lt_of_le (fallsTo_lt W X u m) (Nat.pow_le_pow_right (n := 2) (by omega) hge))
    rw [this] at b1
    cases b1.1
  rw [falls_bit W X u s m hsm] at b1
  refine ⟨hsm, lowS_some hsm (by rw [b1.1, b1.2]; rfl) fun j hj => ?_, b1.1⟩
  have := b2 j (by omega) hj
  rw [Nat.testBit_and, falls_bit W X u j m (by omega)] at this
  rw [Bool.and_comm]; exact this
theorem falls_zero {W X : List (List Nat)} {m M u : Nat} (hg : fallsTo W X u m &&& M = 0) : lowS W X m M u = none :=
  lowS_none fun j hj => by
    have : (fallsTo W X u m &&& M).testBit j = false := by rw [hg]; simp
    rw [Nat.testBit_and, falls_bit W X u j m hj] at this
    rw [Bool.and_comm]; exact this
end Go.Proofs.YtmlhecfhhhebnaaDoor
