/- Guests, RooksGuests. -/
import Derived.Test.YtlpnicfbgdfbnaaDoorGg
import Derived.Test.YtlpnicfbgdfbnaaDoorLess
namespace Go.Proofs.YtlpnicfbgdfbnaaDoor
open Go.RowKit Go.Shelf
attribute [local go_sem] Oper.semAt_some run_store_closure

set_option maxRecDepth 20000 in
set_option maxHeartbeats 2000000 in
theorem Guests_no (n : Int) (w : World) (h : n < 2 ∨ 8 < n) :
    Calls Tryd.prog 26 #[.int .i64 n] w fun e w' => e = .returned (.tuple #[.int .i64 0, .int .i64 2]) ∧ Below w.heap.size w w' := by
  have hb0 : Below w.heap.size w (w.alloc (.cells #[.int .i64 n] 3)) := (Below.refl _ _).alloc (Nat.le_refl _) _
  rcases h with h | h
  · go_enter Tryd.func26, Tryd.ntmps26
    go_wp2
    go_ret2
    exact ⟨rfl, hb0⟩
  · have h2 : ¬ n < 2 := by omega
    go_enter Tryd.func26, Tryd.ntmps26
    go_wp2
    go_ret2
    exact ⟨rfl, hb0⟩

set_option maxRecDepth 20000 in
set_option maxHeartbeats 2000000 in
theorem Guests_yes (n : Nat) (w : World) (ht : Tab w) (hn2 : 2 ≤ n) (hn : n ≤ 8) :
    Calls Tryd.prog 26 #[.int .i64 (n : Nat)] w fun e w' => e = .returned (.tuple #[.int .i64 (gst n n 0 0 : Nat), .int .i64 0]) ∧ Below w.heap.size w w' := by
  obtain ⟨W0, hW0⟩ : ∃ W0, w.alloc (.cells #[.int .i64 (n : Nat)] 3) = W0 := ⟨_, rfl⟩
  obtain ⟨W1, hW1⟩ : ∃ W1, W0.alloc (.cells #[.int .i64 0] 3) = W1 := ⟨_, rfl⟩
  obtain ⟨W2, hW2⟩ : ∃ W2, W1.setCell ⟨w.heap.size + 1, 0, none⟩ (.int .i64 0) = W2 := ⟨_, rfl⟩
  obtain ⟨W3, hW3⟩ : ∃ W3, W2.alloc (.cells #[.nilFunc] 55) = W3 := ⟨_, rfl⟩
  obtain ⟨W4, hW4⟩ : ∃ W4, W3.setCell ⟨w.heap.size + 1 + 1, 0, none⟩ (.func (.func 55) #[] #[.pointer (some ⟨w.heap.size, 0, none⟩), .pointer (some ⟨w.heap.size + 1, 0, none⟩), .pointer (some ⟨w.heap.size + 1 + 1, 0, none⟩)]) = W4 := ⟨_, rfl⟩
  have s0 : W0.heap.size = w.heap.size + 1 := by rw [← hW0]; simp
  have s1 : W1.heap.size = w.heap.size + 1 + 1 := by rw [← hW1]; simp [s0]
  have s2 : W2.heap.size = w.heap.size + 1 + 1 := by rw [← hW2]; simp [s1]
  have b0 : Below w.heap.size w W0 := by rw [← hW0]; exact (Below.refl _ _).alloc (Nat.le_refl _) _
  have b1 : Below w.heap.size w W1 := by rw [← hW1]; exact b0.alloc (by omega) _
  have b2 : Below w.heap.size w W2 := by rw [← hW2]; exact b1.setCell (by show w.heap.size ≤ w.heap.size + 1; omega) _
  have b3 : Below w.heap.size w W3 := by rw [← hW3]; exact b2.alloc (by omega) _
  have b4 : Below w.heap.size w W4 := by rw [← hW4]; exact b3.setCell (by show w.heap.size ≤ w.heap.size + 1 + 1; omega) _
  have x0 : Boxed W0 w.heap.size 3 (.int .i64 (n : Nat)) := by rw [← hW0]; exact Boxed.new _ _ _
  have x01 : Boxed W1 w.heap.size 3 (.int .i64 (n : Nat)) := by rw [← hW1]; exact x0.alloc _
  have x02 : Boxed W2 w.heap.size 3 (.int .i64 (n : Nat)) := by rw [← hW2]; exact boxed_other x01 (by omega) _
  have x03 : Boxed W3 w.heap.size 3 (.int .i64 (n : Nat)) := by rw [← hW3]; exact x02.alloc _
  have x04 : Boxed W4 w.heap.size 3 (.int .i64 (n : Nat)) := by rw [← hW4]; exact boxed_other x03 (by omega) _
  have y1 : Boxed W1 (w.heap.size + 1) 3 (.int .i64 0) := by rw [← hW1]; have := Boxed.new W0 3 (.int .i64 0); rwa [s0] at this
  have y2 : Boxed W2 (w.heap.size + 1) 3 (.int .i64 0) := by rw [← hW2]; exact Boxed.set _ y1
  have y3 : Boxed W3 (w.heap.size + 1) 3 (.int .i64 0) := by rw [← hW3]; exact y2.alloc _
  have y4 : Boxed W4 (w.heap.size + 1) 3 (.int .i64 0) := by rw [← hW4]; exact boxed_other y3 (by omega) _
  have z3 : Boxed W3 (w.heap.size + 1 + 1) 55 .nilFunc := by rw [← hW3]; have := Boxed.new W2 55 .nilFunc; rwa [s2] at this
  have z4 := (by rw [← hW4]; exact Boxed.set _ z3 : Boxed W4 (w.heap.size + 1 + 1) 55 (.func (.func 55) #[] #[.pointer (some ⟨w.heap.size, 0, none⟩), .pointer (some ⟨w.heap.size + 1, 0, none⟩), .pointer (some ⟨w.heap.size + 1 + 1, 0, none⟩)]))
  have hl := ht.lt
  have G : GS w.heap.size (w.heap.size + 1) (w.heap.size + 1 + 1) n 0 W4 := ⟨x04, y4, z4, ht.below b4, by omega, by omega⟩
  have hg := gst_le n n 0 0
  have h8 : 8 ^ n ≤ 8 ^ 8 := Nat.pow_le_pow_right (by decide) hn
  have C := Lib.hid (grow_any w.heap.size (w.heap.size + 1) (w.heap.size + 1 + 1) n hn2 hn n 0 0 0 W4 (by omega) G (by decide) (by omega))
  have c0 := x0.cell
  have c1 := y1.cell
  have f1 := y1.frozen
  have c3 := z3.cell
  have f3 := z3.frozen
  have c4 := z4.cell
  have h2 : ¬ (n : Int) < 2 := by omega
  have h3 : ¬ (8 : Int) < (n : Int) := by omega
  have hn2' : ¬ n < 2 := by omega
  have hn8' : ¬ 8 < n := by omega
  have B4 := Lib.hid b4
  clear b0 b1 b2 b3 b4 x01 x02 x03 x04 y1 y2 y3 y4 z3 z4 x0 G ht
  go_enter Tryd.func26, Tryd.ntmps26
  go_wp2_with (
    go_at_call 55
    refine C.out.mono ?_
    rintro e w5 ⟨rfl, hx5, hs5⟩
    have c5 := hx5.cell
    have HS := Lib.hid hs5
    clear hx5 hs5)
  go_ret2
  refine ⟨by simp, B4.out.trans ⟨HS.out.os, HS.out.tape, HS.out.output, HS.out.size, fun k hk => HS.out.block k (by omega) (by have := B4.out.size; omega)⟩⟩
end Go.Proofs.YtlpnicfbgdfbnaaDoor
