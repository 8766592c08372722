/- math/bits.TrailingZeros and OnesCount at numbers below 256. -/
import Derived.Test.YtlpnicfbgdfbnaaDoorSl
import Derived.Test.YtlpnicfbgdfbnaaDoorBits
namespace Go.Proofs.YtlpnicfbgdfbnaaDoor
open Go.RowKit

/-- The least element of a set of numbers below 8. -/
def tz (x : Nat) : Nat := ((List.range 8).find? (x.testBit ·)).getD 64
/-- How many elements a set of numbers below 8 has. -/
def pop (x : Nat) : Nat := (List.range 8).countP (x.testBit ·)

def oc1 (x : Nat) : Nat := ((x / 2) &&& 6148914691236517205) + (x &&& 6148914691236517205)
def oc2 (x : Nat) : Nat := ((oc1 x / 4) &&& 3689348814741910323) + (oc1 x &&& 3689348814741910323)
def oc3 (x : Nat) : Nat := (oc2 x / 16 + oc2 x) &&& 1085102592571150095
theorem oc1_w : ∀ x : Nat, x < 256 → IntKind.u64.wrap (bits BinOp.and IntKind.u64 ((x : Int) / 2) 6148914691236517205 + bits BinOp.and IntKind.u64 (x : Int) 6148914691236517205) = ((oc1 x : Nat) : Int) := by decide +kernel
theorem oc2_w : ∀ x : Nat, x < 256 → IntKind.u64.wrap (bits BinOp.and IntKind.u64 (((oc1 x : Nat) : Int) / 4) 3689348814741910323 + bits BinOp.and IntKind.u64 ((oc1 x : Nat) : Int) 3689348814741910323) = ((oc2 x : Nat) : Int) := by decide +kernel
theorem oc3_w : ∀ x : Nat, x < 256 → bits BinOp.and IntKind.u64 (IntKind.u64.wrap (((oc2 x : Nat) : Int) / 16 + ((oc2 x : Nat) : Int))) 1085102592571150095 = ((oc3 x : Nat) : Int) := by decide +kernel
theorem oc4_w : ∀ x : Nat, x < 256 → IntKind.u64.wrap (((oc3 x : Nat) : Int) + ((oc3 x : Nat) : Int) / 256) = ((oc3 x : Nat) : Int) := by decide +kernel
theorem oc5_w : ∀ x : Nat, x < 256 → IntKind.u64.wrap (((oc3 x : Nat) : Int) + ((oc3 x : Nat) : Int) / 65536) = ((oc3 x : Nat) : Int) := by decide +kernel
theorem oc6_w : ∀ x : Nat, x < 256 → IntKind.u64.wrap (((oc3 x : Nat) : Int) + ((oc3 x : Nat) : Int) / 4294967296) = ((oc3 x : Nat) : Int) := by decide +kernel
theorem oc7_w : ∀ x : Nat, x < 256 → bits BinOp.and IntKind.i64 (wrap64 ((oc3 x : Nat) : Int)) 127 = ((pop x : Nat) : Int) := by decide +kernel
theorem oc7_w' : ∀ x : Nat, x < 256 → bits BinOp.and IntKind.i64 ((oc3 x : Nat) : Int) 127 = ((pop x : Nat) : Int) := by decide +kernel
theorem pop_le : ∀ x : Nat, x < 256 → pop x ≤ 8 := by decide +kernel


set_option maxHeartbeats 400000 in
theorem ones64_any (x : Nat) (w : World) (hx : x < 256)  :
    Calls Tryd.prog 87 #[.int .u64 x] w fun e w' => e = .returned (.int .i64 (pop x : Nat)) ∧ w = w' := by
  have h1 := oc1_w x hx; have h2 := oc2_w x hx; have h3 := oc3_w x hx; have h4 := oc4_w x hx; have h5 := oc5_w x hx; have h6 := oc6_w x hx
  have H7 := Lib.hid (oc7_w x hx); have H7' := Lib.hid (oc7_w' x hx)
  go_enter Tryd.func87, Tryd.ntmps87
  go_wp2
  go_ret
  exact ⟨ret_int (by first | exact H7.out | exact H7'.out), rfl⟩

set_option maxHeartbeats 400000 in
theorem ones_any (x : Nat) (w : World) (hx : x < 256)  :
    Calls Tryd.prog 75 #[.int .u64 x] w fun e w' => e = .returned (.int .i64 (pop x : Nat)) ∧ w = w' := by
  go_enter Tryd.func75, Tryd.ntmps75
  go_wp2_with (go_at_call 87; refine (ones64_any x _ hx).mono ?_; rintro e w' ⟨rfl, rfl⟩)
  go_ret
  exact ⟨rfl, rfl⟩

set_option maxHeartbeats 400000 in
theorem count_any (x : Nat) (w : World) (hx : x < 256)  :
    Calls Tryd.prog 59 #[.int .i64 x] w fun e w' => e = .returned (.int .i64 (pop x : Nat)) ∧ w = w' := by
  have hu : IntKind.u64.wrap (x : Int) = x := by simp [IntKind.wrap, IntKind.bits, IntKind.signed]; omega
  go_enter Tryd.func59, Tryd.ntmps59
  go_wp2_with (go_at_call 75; refine (ones_any x _ hx).mono ?_; rintro e w' ⟨rfl, rfl⟩)
  go_ret
  exact ⟨rfl, rfl⟩

/-- The table of math/bits.TrailingZeros64. -/
def tzTab : List Nat := [0, 1, 56, 2, 57, 49, 28, 3, 61, 58, 42, 50, 38, 29, 17, 4, 62, 47, 59, 36, 45, 43, 51, 22, 53, 39, 33, 30, 24, 18, 12, 5, 63, 55, 48, 27, 60, 41, 37, 16, 46, 35, 44, 21, 52, 32, 23, 11, 54, 26, 40, 15, 34, 20, 31, 10, 25, 14, 19, 9, 13, 8, 7, 6]
/-- The table lies in the world. -/
def Tab (w : World) : Prop := ∀ i : Nat, i < 64 → w.cell? ⟨1, i, none⟩ = some (.int .u8 ((tzTab.getD i 0 : Nat) : Int))
theorem Tab.lt {w : World} (h : Tab w) : 1 < w.heap.size := World.block_lt_of_cell? w _ (h 0 (by omega))
theorem Tab.below {w w' : World} (h : Tab w) (hb : Below w.heap.size w w') : Tab w' := fun i hi => (hb.cell (p := ⟨1, i, none⟩) h.lt).trans (h i hi)

def tzAt (x : Nat) : Nat := ((x &&& (18446744073709551616 - x)) * 285870213051353865 % 18446744073709551616) / 288230376151711744
theorem tzAt_w : ∀ x : Nat, x < 256 → IntKind.u64.wrap (bits BinOp.and IntKind.u64 (x : Int) (IntKind.u64.wrap (-(x : Int))) * 285870213051353865) / 288230376151711744 = ((tzAt x : Nat) : Int) := by decide +kernel
theorem tzAt_lt : ∀ x : Nat, x < 256 → tzAt x < 64 := by decide +kernel
theorem tzAt_tab : ∀ x : Nat, x < 256 → 0 < x → tzTab.getD (tzAt x) 0 = tz x := by decide +kernel
theorem tz_lt : ∀ x : Nat, x < 256 → 0 < x → tz x < 8 := by decide +kernel

set_option maxHeartbeats 400000 in
theorem tz64_core (x t z : Nat) (w : World) (h0 : 0 < x) (hw : IntKind.u64.wrap (bits BinOp.and IntKind.u64 (x : Int) (IntKind.u64.wrap (-(x : Int))) * 285870213051353865) / 288230376151711744 = (t : Int))
    (hl : (t : Int) < 64) (hz : (z : Int) < 8) (hc : w.cell? ⟨1, t, none⟩ = some (.int .u8 (z : Int))) :
    Calls Tryd.prog 85 #[.int .u64 x] w fun e w' => e = .returned (.int .i64 z) ∧ w = w' := by
  go_enter Tryd.func85, Tryd.ntmps85
  go_wp2
  go_ret
  exact ⟨rfl, rfl⟩

theorem tz64_any (x : Nat) (w : World) (hx : x < 256) (h0 : 0 < x) (ht : Tab w) :
    Calls Tryd.prog 85 #[.int .u64 x] w fun e w' => e = .returned (.int .i64 (tz x : Nat)) ∧ w = w' :=
  tz64_core x (tzAt x) (tz x) w h0 (tzAt_w x hx) (by have := tzAt_lt x hx; omega) (by have := tz_lt x hx h0; omega) (by rw [ht _ (tzAt_lt x hx), tzAt_tab x hx h0])

set_option maxHeartbeats 400000 in
theorem tzeros_any (x : Nat) (w : World) (hx : x < 256) (h0 : 0 < x) (ht : Tab w) :
    Calls Tryd.prog 73 #[.int .u64 x] w fun e w' => e = .returned (.int .i64 (tz x : Nat)) ∧ w = w' := by
  have HT := Lib.hid ht; clear ht
  go_enter Tryd.func73, Tryd.ntmps73
  go_wp2_with (go_at_call 85; refine (tz64_any x _ hx h0 HT.out).mono ?_; rintro e w' ⟨rfl, rfl⟩)
  go_ret
  exact ⟨rfl, rfl⟩
end Go.Proofs.YtlpnicfbgdfbnaaDoor
